/-
 HK texts A B C Mp D E F G H Eq I J Mq,one behind Cb other.
-/
import Derived.WalkKit
import Derived.Calls
import Derived.TacticsIn
import Derived.OrdersIn
import Derived.MapKept
import Derived.Great.BuildSlice
import Derived.Laws.StructEq
import Derived.Laws.Small
set_option linter.unusedSimpArgs false
set_option linter.unusedVariables false
namespace Go.Ab
abbrev Q0:Option (Nat×Nat):=some (0,0)
abbrev Q3:Option (Nat×Nat):=some (0,1)
abbrev arF:Option (Nat×Nat):=some (1,1)
abbrev arG:Option (Nat×Nat):=some (2,2)
abbrev arH:Option (Nat×Nat):=some (0,2)
abbrev arI:Option (Nat×Nat):=some (1,2)
abbrev akC:=@List.getElem?_eq_getElem
abbrev anc:=@Option.some.injEq
abbrev ao7:=@Prod.mk.injEq
abbrev ao8:=@Option.map_eq_some_iff
abbrev ao9:=@Option.some.inj
abbrev apa:=@List.getElem?_eq_some_iff
abbrev apb:=@Bool.and_eq_true
abbrev apc:=@List.getElem?_map
abbrev apd:=@List.all_eq_true
abbrev ape:=@List.mem_of_getElem?
abbrev apf:=@List.mem_map
abbrev apg:=@Nat.lt_or_eq_of_le
abbrev aph:=@List.length_append
abbrev api:=@Nat.le_refl
abbrev apj:=@List.length_cons
abbrev apk:=@List.getElem_mem
abbrev apl:=@List.mem_cons_of_mem
abbrev apm:=@List.cons_append
abbrev apn:=@Array.getElem?_eq_some_iff
abbrev apo:=@List.mem_cons_self
abbrev apq:=@List.mem_cons
abbrev apr:=@List.mem_append
abbrev aps:=@Nat.lt_succ_self
abbrev apt:=@Nat.lt_of_lt_of_le
abbrev apu:=@Nat.mul_le_mul_right
abbrev apv:=@List.take_append_drop
abbrev apw:=@ByteArray.size_append
abbrev apx:=@List.length_map
abbrev apy:=@Array.getElem?_eq_getElem
abbrev apz:=@Int.tmod_eq_emod_of_nonneg
abbrev apA:=@List.append_assoc
abbrev apB:=@Option.map_some
abbrev apC:=@List.length_nil
abbrev apD:=@List.mem_append_left
abbrev apE:=@List.getElem?_cons_zero
abbrev apF:=@List.map_cons
abbrev apG:=@List.length_take
abbrev apH:=@Bool.false_eq_true
abbrev apI:=@List.take_add_one
abbrev apJ:=@Nat.lt_or_ge
abbrev apK:=@List.nil_append
abbrev apL:=@List.append_nil
abbrev apM:=@List.take_length
abbrev apN:=@Array.getElem?_toList
abbrev apO:=@List.mem_append_right
abbrev apP:=@List.sizeOf_lt_of_mem
abbrev apQ:=@List.getElem?_append_left
abbrev apR:=@Nat.le_trans
abbrev apS:=@List.mem_range
abbrev apT:=@List.getElem?_eq_none
abbrev apU:=@List.cons.sizeOf_spec
abbrev apV:=@List.length_pos_iff
abbrev apW:=@Int.tdiv_eq_ediv_of_nonneg
abbrev apX:=@Option.bind_eq_some_iff
abbrev apY:=@List.getElem?_cons_succ
abbrev apZ:=@List.length_eq_zero_iff
abbrev ap0:=@List.nodup_cons
abbrev ap1:=@Bool.true_and
abbrev ap2:=@Nat.zero_add
abbrev ap3:=@Option.getD_some
abbrev ap4:=@Int.le_refl
abbrev ap5:=@List.filter_append_perm
abbrev ap6:=@List.getElem?_append_right
abbrev ap7:=@Nat.pow_le_pow_right
abbrev ap8:=@List.filter_cons
abbrev ap9:=@Classical.byContradiction
abbrev aqa:=@List.eq_nil_of_length_eq_zero
abbrev aqb:=@Option.isSome_iff_exists
abbrev aqc:=@List.getElem?_toArray
abbrev aqd:=@List.map_append
abbrev aqe:=@Array.getD_eq_getD_getElem?
abbrev aqf:=@List.getElem?_drop
abbrev aqg:=@List.mem_of_mem_take
abbrev aqh:=@Nat.le_max_right
abbrev aqi:=@Nat.add_zero
abbrev aqj:=@Array.getElem?_setIfInBounds_ne
abbrev aqk:=@Nat.add_mul
abbrev aql:=@Decidable.not_not
abbrev aqm:=@List.mem_filter
abbrev aqn:=@List.eq_nil_iff_forall_not_mem
abbrev aqo:=@Nat.le_max_left
abbrev aqp:=@ByteArray.data_append
abbrev aqq:=@List.mem_filterMap
abbrev aqr:=@Nat.zero_le
abbrev aqs:=@List.getElem?_append
abbrev aqt:=@List.any_eq_false
abbrev aqu:=@List.range_succ
abbrev aqv:=@List.any_append
abbrev aqw:=@Nat.testBit_two_pow_mul_add
abbrev aqx:=@List.map_map
abbrev aqy:=@Option.bind_some
abbrev aqz:=@List.drop_drop
abbrev aqA:=@Bool.and_eq_false_iff
abbrev aqB:=@List.getLastD_eq_getLast?
abbrev aqC:=@Nat.one_mul
abbrev aqD:=@List.reverse_reverse
abbrev aqE:=@List.nodup_append
abbrev aqF:=@List.getElem_of_mem
abbrev aqG:=@List.getElem?_range
abbrev aqH:=@List.filterMap_cons
abbrev aqI:=@List.any_eq_true
abbrev aqJ:=@List.mem_singleton
abbrev aqK:=@List.countP_append
abbrev aqL:=@Array.mem_of_getElem?
abbrev aqM:=@Bool.eq_iff_iff
abbrev aqN:=@List.length_set
abbrev aqO:=@List.length_filter_le
abbrev aqP:=@List.flatten_cons
abbrev aqQ:=@Bool.not_eq_true'
abbrev aqR:=@Array.mem_toList_iff
abbrev aqS:=@List.mem_take_iff_getElem
abbrev aqT:=@List.drop_eq_getElem_cons
abbrev aqU:=@List.findIdx?_eq_some_iff_getElem
abbrev aqV:=@Nat.mod_eq_of_lt
abbrev aqW:=@List.countP_cons
abbrev aqX:=@Int.toNat_of_nonneg
abbrev aqY:=@List.length_reverse
abbrev aqZ:=@Nat.add_assoc
abbrev aq0:=@ByteArray.ext
abbrev aq1:=@Nat.min_eq_left
abbrev aq2:=@List.append_of_mem
abbrev aq3:=@ByteArray.append_assoc
abbrev aq4:=@List.getLast?_eq_some_getLast
abbrev aq5:=@List.take_append_of_le_length
abbrev aq6:=@List.reverse_cons
abbrev aq7:=@Function.comp_def
abbrev aq8:=@List.length_singleton
abbrev aq9:=@Array.mem_append
abbrev ara:=@List.contains_eq_mem
abbrev arb:=@List.mem_flatMap
abbrev arc:=@List.mem_of_getLast?
abbrev ard:=@List.nodup_iff_count
abbrev arf:=@Nat.eq_of_testBit_eq
abbrev arh:=@List.sum_cons
abbrev ari:=@Int.fdiv_eq_ediv_of_nonneg
abbrev arj:=@List.takeWhile_cons
abbrev ark:=@Option.map_none
abbrev arl:=@Bool.or_eq_true
abbrev arn:=@List.getLast?_eq_getElem?
abbrev aro:=@List.getElem?_zip_eq_some
abbrev arp:=@List.all_append
abbrev arq:=@Int.natCast_add
abbrev ars:=@List.mem_or_eq_of_mem_set
abbrev art:=@List.getElem?_take
abbrev aru:=@List.length_erase_of_mem
abbrev arv:=@List.getLast?_cons
abbrev arw:=@List.Nodup.idxOf_getElem
abbrev arx:=@Array.getElem_push
abbrev ary:=@Bool.and_assoc
abbrev arz:=@Classical.axiomOfChoice
abbrev arA:=@List.getElem?_set
abbrev arB:=@Int.toNat_natCast
abbrev arC:=@List.all_cons
abbrev arD:=@List.mem_toArray
abbrev arE:=@List.length_drop
inductive D where
 | v (x:Value)
 | sl (xs:List (List D))
 | uB (t:TypeId) (ag:Bool) (cs:List D)
instance:Inhabited D:=⟨.v undef⟩
def D.nn:D->D
 | .v (.slice none 0 0)=> .sl []
 | x=>x
inductive V where
 | d (x:D)
 | bp (h off:Nat)
 | rv (h:Nat)
 | ep (h k i j:Nat)
 | rp (cs:List D)
 | sv (h n:Nat)
 | eS (fn:Fn) (first eh:List V)
 | agg (cs:List V)
 | bA (vs:List V)
 | gd (g:Bool) (x:V)
 | kn (Q:Value->Prop)
 | any
@[match_pattern] abbrev iD(n:Int):V:= .d (.v (.int .i64 n))
@[match_pattern] abbrev oD(b:Bool):V:= .d (.v (.bool b))
instance:Inhabited V:=⟨.any⟩
inductive eT(w:World) (O:Nat->Prop):Value->D->Prop
 | v (x:Value) (h1:x.oneCell'=true):eT w O x (.v x)
 | sl (a:Option Addr) (n cap:Nat) (xs:List (List D)) (k b off:Nat) (f:Nat→Nat→Value)
   (hn:n=xs.length) (lD:n<=cap) (pB:cap<=maxLen) (ha:0<n->a=some ⟨b,off,none⟩/\¬O b/\b<w.heap.size)
   (hk:∀(i:Nat) (x:List D),xs[i]?=some x->x.length=k)
   (hc:∀i j,i<n->j<k->w.cell? ⟨b,off+i *k+j,none⟩=some (f i j))
   (hr:∀(i j:Nat) (x:List D) (y:D),xs[i]?=some x->x[j]?=some y->eT w O (f i j) y):
   eT w O (.slice a n cap) (.sl xs)
 | Nb (t:TypeId) (x:Value) (y:D) (hx:x.oneCell'=true) (h:eT w O x y):eT w O (.iface t x) (.uB t false [y])
 | T4 (t:TypeId) (vs:Array Value) (cs:List D) (hs:vs.size=cs.length) (h1:∀(j:Nat) (x:Value),vs[j]?=some x→x.oneCell'=true)
   (h:∀(j:Nat) (x:Value) (y:D),vs[j]?=some x->cs[j]?=some y->eT w O x y):eT w O (.iface t (.agg vs)) (.uB t true cs)
inductive aC(w:World) (O:Nat->Prop) (m:Nat->Option Value):Value->V->Prop
 | d (x:Value) (y:D) (h:eT w O x y):aC w O m x (.d y)
 | bp (h off b:Nat) (e:m h=some (.pointer (some ⟨b,0,none⟩))):aC w O m (.pointer (some ⟨b,off,none⟩)) (.bp h off)
 | rv (h:Nat) (x:Value) (e:m h=some x) (e1:x.oneCell'=true):aC w O m x (.rv h)
 | ep (h k i j b o n c:Nat) (e:m h=some (.slice (some ⟨b,o,none⟩) n c)):aC w O m (.pointer (some ⟨b,o+i *k+j,none⟩)) (.ep h k i j)
 | rp (b off:Nat) (cs:List D) (f:Nat→Value) (hb:¬O b) (au:b < w.heap.size)
   (hc:∀j,j<cs.length->w.cell? ⟨b,off+j,none⟩=some (f j))
   (hr:∀(j:Nat) (y:D),cs[j]?=some y->eT w O (f j) y):aC w O m (.pointer (some ⟨b,off,none⟩)) (.rp cs)
 | sv (h n b cap:Nat) (e:m h=some (.pointer (some ⟨b,0,none⟩))) (hc:n<=cap) (hx:cap<=maxLen):aC w O m (.slice (some ⟨b,0,none⟩) n cap) (.sv h n)
 | eS (fn:Fn) (first eh:Array Value) (cf cc:List V) (s1:first.size=cf.length) (s2:eh.size=cc.length)
   (h1:∀(j:Nat) (x:Value) (y:V),first[j]?=some x->cf[j]?=some y->aC w O m x y)
   (h2:∀(j:Nat) (x:Value) (y:V),eh[j]?=some x->cc[j]?=some y->aC w O m x y):aC w O m (.func fn first eh) (.eS fn cf cc)
 | agg (vs:Array Value) (cs:List V) (hs:vs.size=cs.length) (h1:∀(j:Nat) (x:Value),vs[j]?=some x→x.oneCell'=true)
   (h:∀(j:Nat) (x:Value) (y:V),vs[j]?=some x->cs[j]?=some y->aC w O m x y):aC w O m (.agg vs) (.agg cs)
 | bA (vs:Array Value) (cs:List V) (hs:vs.size=cs.length)
   (h:∀(j:Nat) (x:Value) (y:V),vs[j]?=some x->cs[j]?=some y->aC w O m x y):aC w O m (.tuple vs) (.bA cs)
 | gt (x:Value) (y:V) (h:aC w O m x y):aC w O m x (.gd true y)
 | gf (y:V):aC w O m undef (.gd false y)
 | kn (x:Value) (Q:Value->Prop) (h:Q x):aC w O m x (.kn Q)
 | any (x:Value):aC w O m x .any
structure bK(w:World) (O:Nat->Prop) (w':World):Prop where
 size:w.heap.size<=w'.heap.size
 block:∀b,b<w.heap.size->¬O b->w'.heap[b]?=w.heap[b]?
theorem bK.refl(w:World)(O:Nat->Prop):bK w O w:=⟨api _,λ_ _ _=>rfl⟩
theorem CA{w w':World}{b o:Nat}{x:Value}(hb:w'.heap[b]?=w.heap[b]?)(h:w.cell? ⟨b,o,none⟩=some x):w'.cell? ⟨b,o,none⟩=some x:=by
 rw[World.cell?_of_block (w:=w) (a:=⟨b,o,none⟩) hb];exact h
theorem T5{w:World}{b o:Nat}{x:Value}(h:w.cell? ⟨b,o,none⟩=some x):b<w.heap.size:=World.block_lt_of_cell? w (a:=⟨b,o,none⟩) h
theorem eT.mono{w w':World}{O O':Nat->Prop}(hk:bK w O w')(hO:∀b,b<w.heap.size->O' b->O b){x:Value}{y:D}(h:eT w O x y):eT w' O' x y:=by
 induction h with
 | v x h1=>exact .v x h1
 | sl a n cap xs k b off f hn lD pB ha sV hc hr ih=>
   refine .sl a n cap xs k b off f hn lD pB (λh=>⟨(ha h).1,λho=>(ha h).2.1 (hO b (ha h).2.2 ho),apt (ha h).2.2 hk.size⟩) sV (λi j hi hj=>?_) ih;have h0:=ha (by omega);exact CA (hk.block b h0.2.2 h0.2.1) (hc i j hi hj)
 | Nb t x y hx h ih=>exact .Nb t x y hx ih
 | T4 t vs cs hs h1 h ih=>exact .T4 t vs cs hs h1 ih
theorem aC.mono{w w':World}{O O':Nat→Prop}{m m':Nat→Option Value}(hk:bK w O w')(hO:∀b,b < w.heap.size→O' b→O b)(hm:∀h x,m h=some x→m' h=some x)
  {x:Value} {y:V} (h:aC w O m x y):aC w' O' m' x y:=by
 induction h with
 | d x y h=>exact .d x y (h.mono hk hO)
 | bp h off b e=>exact .bp h off b (hm _ _ e)
 | rv h x e e1=>exact .rv h x (hm _ _ e) e1
 | ep h k i j b o n c e=>exact .ep h k i j b o n c (hm _ _ e)
 | rp b off cs f hb au hc hr=>
   exact .rp b off cs f (λho=>hb (hO b au ho)) (apt au hk.size) (λj hj=>CA (hk.block b au hb) (hc j hj)) (λj y hy=>(hr j y hy).mono hk hO)
 | sv h n b cap e hc hx=>exact .sv h n b cap (hm _ _ e) hc hx
 | eS fn first eh cf cc s1 s2 h1 h2 FA KJ=>exact .eS fn first eh cf cc s1 s2 FA KJ
 | agg vs cs hs h1 h ih=>exact .agg vs cs hs h1 ih
 | bA vs cs hs h ih=>exact .bA vs cs hs ih
 | gt x y h ih=>exact .gt x y ih
 | gf y=>exact .gf y
 | kn x Q h=>exact .kn x Q h
 | any x=>exact .any x
def jJ:Value->Nat->Prop
 | .pointer (some a),b=>a.block=b
 | .slice (some a) _ _,b=>a.block=b
 | .map (some r),b=>r=b
 | .func (.yield l) _ _,b=>l=b
 | _,_=>False
def dq:Value->Nat->Prop
 | .tuple vs,b=>∃v,v∈vs/\jJ v b
 | v,b=>jJ v b
structure Env where
 H:World->(Nat->Prop)->Value->Prop
 mono:∀{w w':World} {O O':Nat->Prop} {x:Value},H w O x->(∀b,dq x b->w'.heap[b]?=w.heap[b]?)->bK w O w'->(∀b,b<w.heap.size->O' b->O b)->H w' O' x
 lt:∀{w:World} {O:Nat->Prop} {x:Value} {b:Nat},H w O x->dq x b->b<w.heap.size
abbrev ME:=Value×Bool×List D
def ME.val(e:ME):V:=if e.2.1 then .agg (e.2.2.map .d)else .d (e.2.2.headD default)
def Nc(es:List ME)(w:World)(O:Nat->Prop)(x:Value):Prop:=
 ∃r arr clock,x= .map (some r)/\w.heap[r]?=some (.map arr clock)/\arr.size=es.length/\(es.map (·.1)).Nodup/\
  ∀(i:Nat) (a:MapEntry) (e:ME),arr[i]?=some a->es[i]?=some e->a.key=e.1/\aC w O (λ_=>none) a.val e.val
theorem KL{es:List ME}{w w':World}{O O':Nat->Prop}{x:Value}(h:Nc es w O x)(hb:∀b,dq x b->w'.heap[b]?=w.heap[b]?)(hk:bK w O w')(hO:∀b,b<w.heap.size->O' b->O b):Nc es w' O' x:=by
 obtain⟨r,arr,clock,rfl,h1,h2,h3,h4⟩:=h;exact⟨r,arr,clock,rfl,by rw[hb r rfl];exact h1,h2,h3,λi a e ha he=>⟨(h4 i a e ha he).1,(h4 i a e ha he).2.mono hk hO (λ_ _ e=>e)⟩⟩
theorem adv{es:List ME}{w:World}{O:Nat->Prop}{x:Value}{b:Nat}(h:Nc es w O x)(hb:dq x b):b<w.heap.size:=by
 obtain⟨r,arr,clock,rfl,h1,h2,h3,h4⟩:=h;simp only[dq,jJ]at hb;subst hb;exact(apn.1 h1).1
inductive aV where
 | box (b:Nat) (ty:TypeId) (cs:List V)
 | row (ty:TypeId) (k:Nat) (xs:List (List V))
 | env (A:Env)
 | mp (es:List ME)
abbrev aI:=List (Nat×aV)
def keys(L:aI):List Nat:=L.map (·.1)
def own(m:Nat->Option Value)(b:Nat):Prop:=∃h x,m h=some x/\dq x b
def aV.Holds(w:World)(O:Nat->Prop)(m:Nat->Option Value)(x:Value):aV->Prop
 | .box b ty cs=>∃bb,(b=0∨b=bb+1)∧∃cur,x= .pointer (some ⟨bb,0,none⟩)∧w.heap[bb]?=some (.cells cur ty (0,0))∧cur.size=cs.length∧
   (∀(j:Nat) (v:Value),cur[j]?=some v->v.oneCell'=true)/\∀(j:Nat) (v:Value) (c:V),cur[j]?=some v->cs[j]?=some c->aC w O m v c
 | .row ty k xs=>(x= .slice none 0 0∧xs=[])∨∃b off cap cur,x= .slice (some ⟨b,off,none⟩) xs.length cap∧w.heap[b]?=some (.cells cur ty (0,0))∧
   xs.length<=cap/\cap<=maxLen/\off+cap *k<=cur.size/\(∀(i:Nat) (x:List V),xs[i]?=some x->x.length=k)/\(∀(j:Nat) (v:Value),cur[j]?=some v->v.oneCell'=true)/\
   ∀(i j:Nat) (x:List V) (y:V) (v:Value),xs[i]?=some x->x[j]?=some y->cur[off+i *k+j]?=some v->aC w O m v y
 | .env A=>A.H w O x
 | .mp es=>Nc es w O x
structure FO where
 f:Nat->Prop
 D:List Deferred
 r:Option Nat:=none
 nm:Bool:=false
instance:CoeFun FO (λ_=>Nat->Prop):=⟨FO.f⟩
instance:Coe (Nat->Prop) FO:=⟨λf=>⟨f,[],none,false⟩⟩
def OO(fo:FO)(m:Nat->Option Value):Nat->Prop:=λb=>own m b\/fo b
def EG:List (Nat×List Value):=[(0,[.int .u64 1,.int .u64 10,.int .u64 100,.int .u64 1000,.int .u64 10000,.int .u64 100000,.int .u64 1000000,.int .u64 10000000,.int .u64 100000000,.int .u64 1000000000,.int .u64 10000000000,.int .u64 100000000000,.int .u64 1000000000000,.int .u64 10000000000000,.int .u64 100000000000000,.int .u64 1000000000000000,.int .u64 10000000000000000,.int .u64 100000000000000000,.int .u64 1000000000000000000,.int .u64 10000000000000000000])]
def vd(w:World)(O:Nat->Prop):Prop:=∀p∈EG,p.1<w.heap.size/\¬O p.1/\(∀(j:Nat) (v:Value),p.2[j]?=some v->v.oneCell'=true/\w.cell? ⟨p.1,j,none⟩=some v)/\∃t z,w.heap[p.1]?=some (.cells p.2.toArray t z)
theorem vd.mono{w w':World}{O O':Nat->Prop}(h:vd w O)(hk:bK w O w')(hO:∀b,b<w.heap.size->O' b->O b):vd w' O':=by
 intro p hp;obtain⟨h1,h2,h3,t,z,h4⟩:=h p hp;exact⟨apt h1 hk.size,λh=>h2 (hO _ h1 h),λj v hj=>⟨(h3 j v hj).1,CA (hk.block _ h1 h2) (h3 j v hj).2⟩,t,z,by rw[hk.block _ h1 h2];exact h4⟩
structure Inv(fo:FO) (m:Nat->Option Value) (L:aI) (w:World):Prop where
 nodup:(keys L).Nodup
 fI:∀h x,m h=some x->h∈keys L
 apart:∀h h' x x' b,m h=some x->m h'=some x'->dq x b->dq x' b->h=h'
 others:∀h x b,m h=some x->dq x b->¬fo b
 ei:∀b,fo b->b<w.heap.size
 holds:∀h r,(h,r)∈L->∃x,m h=some x/\r.Holds w (OO fo m) m x
 ee:vd w (OO fo m)
structure Step(w:World) (o:Nat->Prop) (w':World) (o':Nat->Prop):Prop where
 os:w'.os=w.os
 tape:w'.tape=w.tape
 output:w'.output=w.output
 size:w.heap.size<=w'.heap.size
 block:∀b,b<w.heap.size->¬o b->w'.heap[b]?=w.heap[b]?
 owned:∀b,b<w.heap.size->o' b->o b
theorem Step.refl(w:World)(o:Nat->Prop):Step w o w o:=⟨rfl,rfl,rfl,api _,λ_ _ _=>rfl,λ_ _ h=>h⟩
theorem Step.trans{w w' Ah:World}{o o' lX:Nat->Prop}(h:Step w o w' o')(k:Step w' o' Ah lX):Step w o Ah lX:=
 ⟨k.os.trans h.os,k.tape.trans h.tape,k.output.trans h.output,apR h.size k.size,
  λb hb ho=>(k.block b (apt hb h.size) (λiC=>ho (h.owned b hb iC))).trans (h.block b hb ho),
  λb hb ho=>h.owned b hb (k.owned b (apt hb h.size) ho)⟩
theorem Step.rJ{w w':World}{o o' fo:Nat->Prop}(h:Step w o w' o'):bK w (λb=>o b\/fo b) w':=
 ⟨h.size,λb hb ho=>h.block b hb (λx=>ho (.inl x))⟩
theorem Step.sub{w w':World}{o o' fo:Nat->Prop}(h:Step w o w' o'):∀b,b<w.heap.size->(o' b\/fo b)->(o b\/fo b):=
 λb hb ho=>ho.imp (h.owned b hb) id
end Go.Ab
namespace Go.Ab
structure St where
 fr:List (Nat×V)
 L:aI
def eU(t:Nat):List (Nat×V)->V
 | []=> .any
 | (k,x)::l=>if k=t then x else eU t l
def vQ(t:Nat):List (Nat×V)->List (Nat×V)
 | []=> []
 | (k,x)::l=>if k=t then vQ t l else(k,x)::vQ t l
theorem sB{t p}:∀{l},p∈vQ t l->p∈l/\p.1≠t
 | [],h=>by cases h
 | (k,x)::l,h=>by
   rw[vQ]at h;split at h
   ·have:=sB h;exact⟨apl _ this.1,this.2⟩
   ·rcases apq.1 h with rfl|h
    ·grind
    ·have:=sB h;exact⟨apl _ this.1,this.2⟩
theorem xx{t}:∀{l},eU t l= .any\/(t,eU t l)∈l
 | []=> .inl rfl
 | (k,x)::l=>by
   rw[eU];split
   ·rename_i hk;subst hk;exact .inr apo
   ·exact(xx).imp id (apl _)
def St.get(s:St)(t:Nat):V:=eU t s.fr
def St.put(s:St)(t:Option Nat)(x:V):St:=
 match t with
 | none=>s
 | some t=>{s with fr:=(t,x)::vQ t s.fr}
def EH(v:Value):V:=if v.oneCell' then .d (.v v)else .any
def St.ev(s:St):Operand->V
 | .tmp t=>s.get t
 | .const v=>EH v
 | .global g=>match EG.lookup g with
   | some cs=> .rp (cs.map .v)
   | none=> .d (.v (.pointer (some ⟨g,0,none⟩)))
 | .func f=> .eS (.func f) [] []
structure G(fo:FO) (n:Nat) (m:Nat->Option Value) (s:St) (a:Act) (w:World):Prop where
 size:a.tmps.size=n
 fr:∀t x,(t,x)∈s.fr->t<n/\aC w (OO fo m) m (a.tmps.getD t undef) x
 inv:Inv fo m s.L w
 defers:a.defers=fo.D
def wr(r:Option Nat):Fence:={Fence.wide with round:=r}
theorem GB{r n P f args w R}(h:Calls P f args w R):CallsIn (wr r) n P f args w R:=
 (callsIn_wide).2 h
theorem yO{P o ρ w w' nx}(h:(execOp ρ o).run P w= .ok nx w')(hn:∀d,nx≠ .defer d):∀c,o.op≠ .defer c:=by
 intro c hc;simp[execOp,hc]at h;cases hr:(resolve ρ c o.type).run P w with
 | ok d w1=>rw[hr]at h;simp at h;grind
 | halt x w1=>simp_all
theorem CB{r ρ o}(h:∀c,o.op≠ .defer c):o.semAt r ρ=execOp ρ o:=by
 cases r with
 | none=>rfl
 | some l=>simp_all[Oper.semAt_some]
theorem xb{r}{P}{o}{a}{w w'}{nx}{v}{next}{Q}(bz:(execOp a.eval o).run P w= .ok nx w')
  (sW:nx= .value v\/(nx= .skip/\v=undef)) (h:next (a.put o.dst v) w'):o.wpIn (wr r) 0 P a w next Q:=by
 refine⟨λ_ _=>trivial,?_⟩;rw[CB (yO bz (by grind)),bz];rcases sW with rfl|⟨rfl,rfl⟩
 ·exact h
 ·exact h
theorem yP{r}{P}{o}{a}{w w'}{f}{args}{next}{Q}(bz:(execOp a.eval o).run P w= .ok (.enter f args) w')
  (h:Calls P f args w' fun
   | .returned v,Ah=>next (a.put o.dst v) Ah
   | .panicked chain,Ah=>Q (.panic chain) a Ah
   | .outgrown,_=>LetsOut Q):o.wpIn (wr r) 0 P a w next Q:=by
 refine⟨λ_ _=>trivial,?_⟩;rw[CB (yO bz (by simp)),bz];exact⟨λh=>by grind[wr,Fence.wide],GB h⟩
theorem W5{r}{P}{o}{a}{w w'}{v}{next}{Q}(hd:∀c,o.op≠ .defer c)(bz:(execOp a.eval o).run P w= .halt (.panic v) w')
  (h:Q (.panic [{v,recovered:=false}]) a w'):o.wpIn (wr r) 0 P a w next Q:=by
 refine⟨λ_ _=>trivial,?_⟩;rw[CB hd,bz];exact h
inductive AX where
 | normal
 | exit (i:Nat)
 | goto (l:Nat)
 | ret
 | ix (x:V)
def AW(w:World)(O:Nat->Prop)(m:Nat->Option Value)(chain:List PanicEntry)(x:V):Prop:=
 ∃v gM,chain={v:=v,recovered:=false}::gM/\(∀e∈gM,e.goexit=false)/\aC w O m v x
def bG(w:World)(O:Nat->Prop)(m:Nat->Option Value):Exit->AX->Prop
 | .normal,.normal=>True
 | .exit i,.exit j=>i=j
 | .goto i,.goto j=>i=j
 | .ret,.ret=>True
 | .panic chain,.ix x=>AW w O m chain x
 | _,_=>False
def FO.mark(fo:FO)(ms:List Nat):FO:=⟨λb=>fo.f b\/b∈ms,ms.map (λr=>⟨.collected r,#[]⟩)++fo.D,fo.r,fo.nm⟩
@[simp] theorem FO.AY(fo:FO):fo.mark []=fo:=by
 simp[FO.mark]
theorem FO.KM(fo:FO) ms Nd:(fo.mark ms).mark Nd=fo.mark (Nd++ms):=by
 obtain⟨f,D,r,k⟩:=fo;simp[FO.mark,or_assoc,or_comm]
def Marks(k:Bool)(w w':World)(ms:List Nat):Prop:=(ms.Nodup/\(k=true->ms=[]))/\∀r∈ms,w.heap.size<=r/\w'.heap[r]?=some (.deferred (some []))
theorem Marks.nil k w w':Marks k w w' []:=⟨⟨List.nodup_nil,λ_=>rfl⟩,by simp⟩
def gi(fo:FO)(n:Nat)(m:Nat->Option Value)(w:World)(Q:AX->St->Prop)(e:Exit)(a':Act)(w':World):Prop:=
 ∃ms m' x s',Marks fo.nm w w' ms/\Q x s'/\G (fo.mark ms) n m' s' a' w'/\bG w' (OO (fo.mark ms) m') m' e x/\Step w (own m) w' (own m')
theorem gi.of{fo}{n}{m}{w}{Q}{e}{a'}{w'} m' x s'(h:Q x s')(g:G fo n m' s' a' w')(hx:bG w' (OO fo m') m' e x)
  (st:Step w (own m) w' (own m')):gi fo n m w Q e a' w':=⟨[],m',x,s',Marks.nil _ _ _,h,by simp_all,by simp_all,st⟩
def gm:Code->Bool
 | .rangeFunc .. =>true
 | .seq x y=>gm x||gm y
 | .cond _ x y=>gm x||gm y
 | .block _ c=>gm c
 | .loop c=>gm c
 | .scope c=>gm c
 | _=>false
def av(P:Program)(n:Nat)(c:Code)(s:St)(Q:AX->St->Prop):Prop:=
 ∀fo m a w,(gm c=true->fo.r=none/\fo.nm=false)->G fo n m s a w->Code.wpIn (wr fo.r) 0 P c (gi fo n m w Q) a w
theorem gi.mono{fo n m w Q Q'}(hq:∀x s,Q x s->Q' x s){e a' w'}(h:gi fo n m w Q e a' w'):gi fo n m w Q' e a' w':=by
 obtain⟨ms,m',x,s',h0,h1,h2⟩:=h;exact⟨ms,m',x,s',h0,hq _ _ h1,h2⟩
theorem gi.step{fo n m m1 w w1 Q}(hs:Step w (own m) w1 (own m1)){e a' w'}(h:gi fo n m1 w1 Q e a' w'):gi fo n m w Q e a' w':=by
 obtain⟨ms,m',x,s',h0,h1,h2,h3,h4⟩:=h;exact⟨ms,m',x,s',⟨h0.1,λr hr=>⟨apR hs.size (h0.2 r hr).1,(h0.2 r hr).2⟩⟩,h1,h2,h3,hs.trans h4⟩
theorem Marks.app{fo:FO}{n m1 m2 s a w w1 w2 ms Nd k}(h:Marks k w w1 ms)(g:G (fo.mark ms) n m1 s a w1)(st:Step w1 (own m1) w2 (own m2))(hs:w.heap.size<=w1.heap.size)(h':Marks k w1 w2 Nd):Marks k w w2 (Nd++ms):=by
 refine⟨⟨aqE.2 ⟨h'.1.1,h.1.1,?_⟩,λe=>by rw[h.1.2 e,h'.1.2 e];rfl⟩,λr hr=>?_⟩
 ·rintro r tB _ hr rfl;have:=(apn.1 (h.2 r hr).2).1;have:=(h'.2 r tB).1;omega
 ·rcases apr.1 hr with hr|hr
  ·exact⟨apR hs (h'.2 r hr).1,(h'.2 r hr).2⟩
  ·refine⟨(h.2 r hr).1,?_⟩;rw[st.block r (apn.1 (h.2 r hr).2).1 ?_]
   ·exact(h.2 r hr).2
   ·rintro⟨i,x,hx,hb⟩;exact g.inv.others i x r hx hb (.inr hr)
theorem gi.marked{fo}{n}{m m1}{s}{a}{w w1}{ms}{Q}(hm:Marks fo.nm w w1 ms)(g:G (fo.mark ms) n m1 s a w1)(hs:Step w (own m) w1 (own m1)){e}{a'}{w'}
  (h:gi (fo.mark ms) n m1 w1 Q e a' w'):gi fo n m w Q e a' w':=by
 obtain⟨Nd,m',x,s',h0,h1,h2,h3,h4⟩:=h;rw[FO.KM]at h2 h3;exact⟨Nd++ms,m',x,s',hm.app g h4 hs.size h0,h1,h2,h3,hs.trans h4⟩
section
variable {P : Program} {n : Nat} {s : St} {Q : AX -> St -> Prop}
theorem av.mono{c Q'}(h:av P n c s Q)(hq:∀x s,Q x s->Q' x s):av P n c s Q':=
 λfo m a w hr g=>Code.wpIn_mono (λ_ _ _=>gi.mono hq) (h fo m a w hr g)
def Wk(n:Nat)(s s':St):Prop:=∀fo m a w,G fo n m s a w->∃m',G fo n m' s' a w/\Step w (own m) w (own m')
theorem Wk.refl n s:Wk n s s:=λ_ m _ w g=>⟨m,g,Step.refl w _⟩
theorem Wk.trans{s1 s2 s3}(h:Wk n s1 s2)(k:Wk n s2 s3):Wk n s1 s3:=λfo m a w g=>
 let ⟨m1,g1,t1⟩:=h fo m a w g
 let ⟨m2,g2,t2⟩:=k fo m1 a w g1
 ⟨m2,g2,t1.trans t2⟩
theorem av.weaken{c s'}(h:Wk n s s')(k:av P n c s' Q):av P n c s Q:=λfo m a w hr g=>by
 obtain⟨m',g',hs⟩:=h fo m a w g;exact Code.wpIn_mono (λ_ _ _=>gi.step hs) (k fo m' a w hr g')
theorem G.T6{fo m a w}(g:G fo n m s a w) x e(hx:bG w (OO fo m) m e x)(h:Q x s):gi fo n m w Q e a w:=
 .of m x s h g hx (Step.refl w _)
theorem av.skip(h:Q .normal s):av P n .skip s Q:=λ_ _ _ _ _ g=>wpIn_skip (g.T6 .normal .normal trivial h)
theorem av.exit{i}(h:Q (.exit i) s):av P n (.exit i) s Q:=λ_ _ _ _ _ g=>wpIn_exit (g.T6 (.exit i) (.exit i) rfl h)
theorem av.ret(h:Q .ret s):av P n .ret s Q:=λ_ _ _ _ _ g=>wpIn_ret (g.T6 .ret .ret trivial h)
def AX.then(next:St->Prop)(Q:AX->St->Prop):AX->St->Prop
 | .normal,s=>next s
 | x,s=>Q x s
theorem av.seq{x y}(h:av P n x s (AX.then (λs'=>av P n y s' Q) Q)):av P n (.seq x y) s Q:=λfo m a w hr g=>by
 refine wpIn_seq (Code.wpIn_mono (λe a1 w1 hp=>?_) (h fo m a w (λe=>hr (by simp[gm,e])) g));obtain⟨ms,m1,x1,s1,hm,hq,g1,hx,hs⟩:=hp;cases e with
 | normal=>
   cases x1<;>simp[bG]at hx
   exact Code.wpIn_mono (λ_ _ _=>gi.marked hm g1 hs) (hq (fo.mark ms) m1 a1 w1 (λe=>hr (by simp[gm,e])) g1)
 | exit i=>cases x1<;>simp[bG]at hx;exact⟨ms,m1,_,s1,hm,hq,g1,hx,hs⟩
 | goto i=>cases x1<;>simp[bG]at hx;exact⟨ms,m1,_,s1,hm,hq,g1,hx,hs⟩
 | ret=>cases x1<;>simp[bG]at hx;exact⟨ms,m1,_,s1,hm,hq,g1,hx,hs⟩
 | panic ch=>cases x1<;>simp[bG]at hx;exact⟨ms,m1,_,s1,hm,hq,g1,hx,hs⟩
 | outgrown=>simp_all[bG]
theorem aC.p6{w O m x v}(h:aC w O m x (.d (.v v))):x=v:=by
 cases h with
 | d _ _ h=>cases h with
   | v _ _=>rfl
theorem KN{α:Type}{l:List (Nat×α)}{i x}(h:l.lookup i=some x):(i,x)∈l:=by
 induction l with
 | nil=>cases h
 | cons p l ih=>
   grind
theorem Nf{w}{O}{m}(h:vd w O) i:aC w O m (.pointer (some ⟨i,0,none⟩)) (match EG.lookup i with
  | some cs=> .rp (cs.map .v)
  | none=> .d (.v (.pointer (some ⟨i,0,none⟩)))):=by
 split
 ·rename_i cs hl;obtain⟨h1,h2,h3,-⟩:=h (i,cs) (KN hl);refine .rp i 0 _ (λj=>cs[j]?.getD undef) h2 h1 (λj hj=>?_) (λj y hy=>?_)
  ·grind
  ·rw[apc]at hy;obtain⟨v,hv,rfl⟩:=ao8.1 hy;simp[hv];exact .v _ (h3 j v hv).1
 ·exact .d _ _ (.v _ rfl)
theorem ck{fo m a w}(g:G fo n m s a w) o:aC w (OO fo m) m (a.eval o) (s.ev o):=by
 cases o with
 | tmp t=>
   simp[St.ev,St.get];rcases xx with h|h
   ·rw[h];exact .any _
   ·exact(g.fr t _ h).2
 | const v=>
   simp[St.ev];unfold EH;split
   ·rename_i h;exact .d _ _ (.v _ h)
   ·exact .any _
 | global i=>exact Nf g.inv.ee i
 | func f=>exact .eS _ _ _ _ _ rfl rfl (by simp) (by simp)
theorem av.cond{c x y b}(hc:s.ev c=oD b)(ht:b=true->av P n x s Q)(hf:b=false->av P n y s Q):av P n (.cond c x y) s Q:=λfo m a w hr g=>by
 have he:=ck g c;rw[hc]at he;exact wpIn_cond_split he.p6 (λh=>ht h fo m a w (λe=>hr (by simp[gm,e])) g) (λh=>hf h fo m a w (λe=>hr (by simp[gm,e])) g)
def AX.inBlock(id:Nat)(Q:AX->St->Prop):AX->St->Prop
 | .exit i,s=>if i=id then Q .normal s else Q (.exit i) s
 | x,s=>Q x s
theorem av.block{id c}(h:av P n c s (AX.inBlock id Q)):av P n (.block id c) s Q:=λfo m a w hr g=>by
 refine wpIn_block (Code.wpIn_mono (λe a1 w1 hp=>?_) (h fo m a w hr g));obtain⟨ms,m1,x1,s1,hm,hq,g1,hx,hs⟩:=hp;cases e with
 | exit i=>
   cases x1<;>simp[bG]at hx
   subst hx;simp[Exit.inBlock];simp[AX.inBlock]at hq;split at hq
   ·rename_i h;rw[if_pos h];exact⟨ms,m1,.normal,s1,hm,hq,g1,trivial,hs⟩
   ·rename_i h;rw[if_neg h];exact⟨ms,m1,_,s1,hm,hq,g1,rfl,hs⟩
 | normal=>cases x1<;>simp[bG]at hx;exact⟨ms,m1,_,s1,hm,hq,g1,hx,hs⟩
 | goto i=>cases x1<;>simp[bG]at hx;exact⟨ms,m1,_,s1,hm,hq,g1,hx,hs⟩
 | ret=>cases x1<;>simp[bG]at hx;exact⟨ms,m1,_,s1,hm,hq,g1,hx,hs⟩
 | panic ch=>cases x1<;>simp[bG]at hx;exact⟨ms,m1,_,s1,hm,hq,g1,hx,hs⟩
 | outgrown=>simp_all[bG]
theorem least(p:Nat->Prop)(h:∃k,p k):∃k,p k/\∀j,p j->k<=j:=by
 obtain⟨k,hk⟩:=h
 induction k using Nat.strongRecOn with
 | _ k ih=>
   grind
theorem av.loop{c}(I:Nat→St→Prop)(h0:∃k,I k s)
  (round:∀k s,I k s->av P n c s (AX.then (λs'=>∃k',k'<k/\∃s'',Wk n s' s''/\I k' s'') Q)):av P n (.loop c) s Q:=λfo m a w hr g=>by
 classical
 let J a1 w1 k:=∃ms m1 s1,Marks fo.nm w w1 ms/\I k s1/\G (fo.mark ms) n m1 s1 a1 w1/\Step w (own m) w1 (own m1)
 refine wpIn_loop (λa1 w1=>∃k,J a1 w1 k) (λa1 w1=>if h:∃k,J a1 w1 k then Classical.choose (least _ h)else 0) ?_ ?_
 ·obtain⟨k,hk⟩:=h0;exact⟨k,[],m,s,Marks.nil _ _ _,hk,by simp_all,Step.refl w _⟩
 ·intro a1 w1 hI;rw[dif_pos hI];obtain⟨ms,m1,s1,hm,hi,g1,vy⟩:=(Classical.choose_spec (least _ hI)).1;refine Code.wpIn_mono (λe a2 w2 hp=>?_) (round _ s1 hi (fo.mark ms) m1 a1 w1 hr g1);obtain⟨Sk,m2,x2,s2,tC,hq,g2,hx,rO⟩:=gi.marked hm g1 vy hp;cases e with
  | normal=>
    cases x2<;>simp[bG]at hx
    obtain⟨k',au,s3,hw,hi3⟩:=hq;obtain⟨m3,g3,W6⟩:=hw (fo.mark Sk) m2 a2 w2 g2;have hJ:J a2 w2 k':=⟨Sk,m3,s3,tC,hi3,g3,rO.trans W6⟩
    refine⟨⟨k',hJ⟩,?_⟩;rw[dif_pos ⟨k',hJ⟩];exact Nat.lt_of_le_of_lt ((Classical.choose_spec (least _ ⟨k',hJ⟩)).2 k' hJ) au
  | exit i=>cases x2<;>simp[bG]at hx;exact⟨Sk,m2,_,s2,tC,hq,g2,hx,rO⟩
  | goto i=>cases x2<;>simp[bG]at hx;exact⟨Sk,m2,_,s2,tC,hq,g2,hx,rO⟩
  | ret=>cases x2<;>simp[bG]at hx;exact⟨Sk,m2,_,s2,tC,hq,g2,hx,rO⟩
  | panic ch=>cases x2<;>simp[bG]at hx;exact⟨Sk,m2,_,s2,tC,hq,g2,hx,rO⟩
  | outgrown=>simp_all[bG]
end
inductive AE where
 | ret (x:V)
 | ix (x:V)
def Ends(w:World)(O:Nat->Prop)(m:Nat->Option Value):Ending->AE->Prop
 | .returned v,.ret x=>aC w O m v x
 | .panicked chain,.ix x=>AW w O m chain x
 | _,_=>False
def mz(fo:FO)(m:Nat->Option Value)(w:World)(R:AE->aI->Prop)(e:Ending)(w':World):Prop:=
 ∃m' r L',R r L'/\Ends w' (OO fo m') m' e r/\Inv fo m' L' w'/\Step w (own m) w' (own m')
def ir(w:World)(O:Nat->Prop)(m:Nat->Option Value)(xs:Array Value)(ys:List V):Prop:=
 xs.size=ys.length/\∀(j:Nat) (x:Value) (y:V),xs[j]?=some x->ys[j]?=some y->aC w O m x y
def aE(P:Program)(f:FuncId)(args:List V)(L:aI)(R:AE->aI->Prop):Prop:=
 ∀fo m w (xs:Array Value),Inv fo m L w->ir w (OO fo m) m xs args->Calls P f xs w (mz fo m w R)
theorem aE.mono{P f args L R R'}(h:aE P f args L R)(hr:∀r L,R r L->R' r L):aE P f args L R':=
 λfo m w xs hi hx=>(h fo m w xs hi hx).mono λ_ _ ⟨m',r,L',h1,h2⟩=>⟨m',r,L',hr _ _ h1,h2⟩
def eH(k:Nat):List V->List (Nat×V)
 | []=> []
 | x::l=>(k,x)::eH (k+1) l
theorem p7{t x}:∀{l k},(t,x)∈eH k l->k<=t/\l[t-k]?=some x/\t<k+l.length
 | [],_,h=>by cases h
 | y::l,k,h=>by
   simp[eH]at h;rcases h with⟨rfl,rfl⟩|h
   ·simp
   ·obtain⟨h1,h2,h3⟩:=p7 h;grind
def aeZ:TypeDesc->Bool
 | .struct _|.array _ _=>true
 | _=>false
def gD(P:Program)(t:TypeId):Option (Bool×Nat):=
 match P.underlying t,P.info? t with
 | some d,some i=>some (aeZ d,i.size)
 | _,_=>none
def cu(P:Program)(t:TypeId)(f:Nat):Option (Nat×Bool×Nat):=
 match P.underlying t with
 | some (.struct fs)=>match fs[f]? with
   | some fl=>match gD P fl.type with
     | some (g,k)=>if k=0 then none else some (fl.offset,g,k)
     | none=>none
   | none=>none
 | _=>none
def nC(P:Program)(t:TypeId):Option (TypeId×Nat):=
 match P.underlying t with
 | some (.slice e)=>(P.info? e).map λi=>(e,i.size)
 | _=>none
def EI(P:Program)(t:TypeId):Option (Nat×Bool×Nat):=
 match P.underlying t with
 | some (.array n e)=>(gD P e).map λp=>(n,p.1,p.2)
 | _=>none
def qP(P:Program)(t:TypeId):Bool:=
 match P.underlying t with
 | some .string=>true
 | _=>false
def tD(P:Program)(t:TypeId):Option IntKind:=
 match P.underlying t with
 | some (.int k)=>some k
 | _=>none
section
variable {P : Program} {w : World}
theorem p8{t g k}(h:gD P t=some (g,k)) w:(isAgg t).run P w= .ok g w/\(sizeOf t).run P w= .ok k w:=by
 unfold gD at h;split at h
 ·rename_i d i hd hi;cases h;constructor
  ·simp[isAgg,run_underlying hd];cases d<;>rfl
  ·simp[sizeOf,typeInfo,hi]
 grind
theorem nZ{t e k}(h:nC P t=some (e,k)) w:(underlying t).run P w= .ok (.slice e) w/\(sizeOf e).run P w= .ok k w:=by
 unfold nC at h;split at h
 ·rename_i e' he;obtain⟨i,hi,hx⟩:=ao8.1 h;cases hx;exact⟨run_underlying he w,by simp[sizeOf,typeInfo,hi]⟩
 grind
theorem AZ{t n k g}(h:EI P t=some (n,g,k)) w:∃e,(underlying t).run P w= .ok (.array n e) w/\(isAgg e).run P w= .ok g w/\(sizeOf e).run P w= .ok k w:=by
 unfold EI at h;split at h
 ·obtain⟨i,hi,hx⟩:=ao8.1 h;grind[run_underlying,p8]
 grind
theorem Ng{t}{f o k}{g}(h:cu P t f=some (o,g,k)) w:
  ∃fs fl,(underlying t).run P w= .ok (.struct fs) w/\fs[f]?=some fl/\fl.offset=o/\(isAgg fl.type).run P w= .ok g w/\(sizeOf fl.type).run P w= .ok k w/\k≠0:=by
 unfold cu at h;split at h
 ·rename_i fs tE;split at h
  ·rename_i fl lY;split at h
   ·rename_i g' k' ha;split at h
    ·cases h
    ·rename_i hk;cases h;exact⟨fs,fl,run_underlying tE w,lY,rfl,(p8 ha w).1,(p8 ha w).2,hk⟩
   grind
  grind
 grind
theorem xy{t}{k}(h:gD P t=some (true,k)){b off}{f}(hc:∀j,j < k→w.cell? ⟨b,off+j,none⟩=some (f j)):
  (Instr.loadAt t (.pointer (some ⟨b,off,none⟩))).run P w= .ok (.agg ((List.range k).map f).toArray) w:=by
 obtain⟨h1,h2⟩:=p8 h w;simp_all[run_loadCells,Addr.add_lit,Instr.loadAt,Instr.sureAddr,loadVar]
theorem xz{t}{k}(h:gD P t=some (false,k)){b off}{v}(hc:w.cell? ⟨b,off,none⟩=some v):
  (Instr.loadAt t (.pointer (some ⟨b,off,none⟩))).run P w= .ok v w:=by
 obtain⟨h1,h2⟩:=p8 h w;simp_all[Instr.loadAt,Instr.sureAddr,loadVar]
theorem xA{t}{f o k}{g}(h:cu P t f=some (o,g,k)){b off}:
  (Instr.fieldAt t (.pointer (some ⟨b,off,none⟩)) f).run P w= .ok (.pointer (some ⟨b,off+o,none⟩)) w:=by
 obtain⟨fs,fl,h1,h2,h3,h4,h5,h6⟩:=Ng h w;simp_all[Instr.fieldAt,Instr.sureAddr,fieldPlace,Addr.add_lit]
end
theorem eT.oL{w}{O}{x}{xs}(h:eT w O x (.sl xs)):
  ∃(a:Option Addr) (cap:Nat),x= .slice a xs.length cap/\xs.length<=cap/\cap<=maxLen/\∃(k b off:Nat) (f:Nat->Nat->Value),(0<xs.length->a=some ⟨b,off,none⟩/\¬O b/\b<w.heap.size)/\(∀(i:Nat) x,xs[i]?=some x->x.length=k)/\
   (∀i j,i<xs.length->j<k->w.cell? ⟨b,off+i *k+j,none⟩=some (f i j))/\(∀i j x y,xs[i]?=some x->x[j]?=some y->eT w O (f i j) y):=by
 cases h with
 | sl a n cap _ k b off f hn lD pB ha hk hc hr=>subst hn;exact⟨a,cap,rfl,lD,pB,k,b,off,f,ha,hk,hc,hr⟩
theorem aC.kU{w O m x y}(h:aC w O m x (.d y)):eT w O x y:=by
 cases h with
 | d _ _ h=>exact h
theorem aC.cy{w O m x v}(h:aC w O m x (.d (.v v))):x=v:=h.p6
theorem adw{w}{O}{m}{x}{xs}(h:eT w O x (.sl xs)){i}(hi:i < xs.length):
  ∃b off k cap,x= .slice (some ⟨b,off,none⟩) xs.length cap/\(∀y∈xs,y.length=k)/\aC w O m (.pointer (some ⟨b,off+i *k,none⟩)) (.rp (xs[i]?.getD [])):=by
 obtain⟨a,cap,rfl,lD,pB,k,b,off,f,ha,hk,hc,hr⟩:=h.oL;obtain⟨rfl,hO,au⟩:=ha (by omega);have jT:=akC hi;refine⟨b,off,k,cap,rfl,?_,?_⟩
 ·intro y hy;obtain⟨j,hj,rfl⟩:=aqF hy;exact hk j _ (akC hj)
 ·rw[jT];refine .rp b (off+i *k) _ (f i) hO au (λj hj=>?_) (λj y hy=>hr i j _ y jT hy);grind
def aM(k:IntKind)(n:Int):Prop:=k.min<=n/\n<=k.max
def ki(b:Bool):V:=oD b
def jt(k:IntKind)(n:Int):V:= .d (.v (.int k n))
def Nh(s:ByteArray):V:= .d (.v (.string s))
def V.un:V->V
 | .gd _ x=>x
 | x=>x
def V.Cc:V->Prop
 | .gd g _=>g=true
 | _=>True
def wx(t:Bool)(a b:V):Option (V×Prop):=
 match t with
 | true=>some (a.un,a.Cc)
 | false=>some (b.un,b.Cc)
theorem T7{a b}:wx true a b=some (a.un,a.Cc):=rfl
theorem QJ{a b}:wx false a b=some (b.un,b.Cc):=rfl
theorem aax{t p q}:wx t (oD p) (oD q)=some (oD (if t then p else q),True):=by cases t<;>rfl
theorem aay{t g p q}:wx t (.gd g (oD p)) (oD q)=some (oD (if t then p else q),t=true->g=true):=by grind[wx,V.un,V.Cc]
theorem aaz{t g p q}:wx t (oD p) (.gd g (oD q))=some (oD (if t then p else q),t=false->g=true):=by grind[wx,V.un,V.Cc]
def iP(P:Program)(t:TypeId):List D:=(((P.info? t).bind (·.zero)).map λz=>z.cells.toList.map λx=>(D.v x).nn).getD []
def cellAt(xs:List (List V))(i j:Nat)(z:List V):V:=match xs[i]? with
 | some r=>r[j]?.getD .any
 | none=>z.headD .any
def T8(xs:List (List V))(i j k:Nat)(z:List V):List V:=match xs[i]? with
 | some r=>(r.drop j).take k
 | none=>z
theorem W7{xs i j z} h:cellAt xs i j z=xs[i][j]?.getD .any:=by simp[cellAt,akC h]
theorem Ni{xs i j k z} h:T8 xs i j k z=(xs[i].drop j).take k:=by simp[T8,akC h]
def EJ(P:Program)(L:aI)(t:TypeId)(x:V):Option (V×Prop):=
 match gD P t with
 | none=>none
 | some (g,k)=>
   match x with
   | .bp h off=>match L.lookup h with
     | some (.box _ _ cs)=>if g then some (.agg ((cs.drop off).take k),off+k<=cs.length)else some (cs[off]?.getD .any,off<cs.length)
     | _=>none
   | .rp cs=>if g then some (.agg ((cs.take k).map .d),k<=cs.length)else some (.d (cs[0]?.getD default),0<cs.length)
   | .ep h k' i j=>match L.lookup h with
     | some (.row _ HL xs)=>if g then some (.agg (T8 xs i j k ((iP P t).map .d)),i<xs.length/\j+k<=k'/\k'=HL)else some (cellAt xs i j ((iP P t).map .d),i<xs.length/\j<k'/\k'=HL)
     | _=>none
   | _=>none
def wy(P:Program)(t:TypeId)(f:Nat)(x:V):Option (V×Prop):=
 match cu P t f with
 | none=>none
 | some (o,_,_)=>
   match x with
   | .bp h off=>some (.bp h (off+o),True)
   | .rp cs=>some (.rp (cs.drop o),True)
   | .ep h k i j=>some (.ep h k i (j+o),True)
   | _=>none
def HM(P:Program)(t:TypeId)(f:Nat)(x:V):Option (V×Prop):=
 match cu P t f with
 | none=>none
 | some (o,g,k)=>
   match x with
   | .agg cs=>if g then some (.agg ((cs.drop o).take k),o+k<=cs.length)else some (cs[o]?.getD .any,o<cs.length)
   | _=>none
def wz(P:Program)(L:aI)(t:TypeId)(x i:V):Option (V×Prop):=
 match i with
 | .d (.v (.int _ n))=>
   match nC P t,x with
   | some (e,k),.d (.sl xs)=>some (.rp (xs[n.toNat]?.getD (iP P e)),(0<=n/\n.toNat<xs.length)/\(xs[n.toNat]?.getD (iP P e)).length=k)
   | some (_,k),.rv h=>match L.lookup h with
     | some (.row _ k' xs)=>some (.ep h k n.toNat 0,(0<=n/\n.toNat<xs.length)/\k=k')
     | _=>none
   | some (_,k),.sv h l=>some (.bp h (n.toNat *k),0<=n/\n.toNat<l)
   | _,x=>match EI P t,x with
     | some (len,_,k),.bp h off=>some (.bp h (off+n.toNat *k),0<=n/\n<len)
     | some (len,_,k),.rp cs=>some (.rp (cs.drop (n.toNat *k)),0<=n/\n<len)
     | _,_=>none
 | _=>none
def HN(P:Program)(t:TypeId)(x i:V):Option (V×Prop):=
 match i with
 | .d (.v (.int _ n))=>
   match x with
   | .d (.v (.string s))=>if qP P t then some (jt .u8 ((s.data.toList[n.toNat]?.getD 0).toNat:Nat),0<=n/\n.toNat<s.size)else none
   | .agg cs=>match EI P t with
     | some (len,false,1)=>some (cs[n.toNat]?.getD .any,(0<=n/\n<len)/\cs.length=len)
     | _=>none
   | _=>none
 | _=>none
def Ua(op:BinOp)(x y:V):Option (V×Prop):=
 match x,y with
 | .d (.v (.int k a)),.d (.v (.int k' b))=>
   match op with
   | .shl=>some (jt k (k.wrap (a *2^(min b.toNat k.bits))),0<=b)
   | .shr=>some (jt k (a.fdiv (2^(min b.toNat k.bits))),0<=b)
   | .add=>if k=k' then(if k= .i64 then some (jt .i64 (a+b),aM .i64 (a+b))else some (jt k (k.wrap (a+b)),True))else none
   | .sub=>if k=k' then(if k= .i64 then some (jt .i64 (a-b),aM .i64 (a-b))else some (jt k (k.wrap (a-b)),True))else none
   | .mul=>if k=k' then(if k= .i64 then some (jt .i64 (a *b),aM .i64 (a *b))else some (jt k (k.wrap (a *b)),True))else none
   | .quo=>if k=k' then some (jt k (k.wrap (a.tdiv b)),b≠0)else none
   | .rem=>if k=k' then some (jt k (a.tmod b),b≠0)else none
   | .and=>if k=k' then some (jt k (k.wrap ((BitVec.ofInt k.bits a) &&& (BitVec.ofInt k.bits b)).toNat),True)else none
   | .or=>if k=k' then some (jt k (k.wrap ((BitVec.ofInt k.bits a) ||| (BitVec.ofInt k.bits b)).toNat),True)else none
   | .xor=>if k=k' then some (jt k (k.wrap ((BitVec.ofInt k.bits a) ^^^ (BitVec.ofInt k.bits b)).toNat),True)else none
   | .andNot=>if k=k' then some (jt k (k.wrap ((BitVec.ofInt k.bits a) &&& ~~~(BitVec.ofInt k.bits b)).toNat),True)else none
   | .eql=>if k=k' then some (ki (a==b),True)else none
   | .neq=>if k=k' then some (ki (a !=b),True)else none
   | .lss=>if k=k' then some (ki (decide (a<b)),True)else none
   | .leq=>if k=k' then some (ki (decide (a<=b)),True)else none
   | .gtr=>if k=k' then some (ki (decide (a > b)),True)else none
   | .geq=>if k=k' then some (ki (decide (a>=b)),True)else none
 | .d (.v (.string a)),.d (.v (.string b))=>
   match op with
   | .add=>some (Nh (a++b),((a.size+b.size:Nat):Int)<=IntKind.i64.max)
   | .eql=>some (ki (a.toList==b.toList),True)
   | .neq=>some (ki (!(a.toList==b.toList)),True)
   | _=>none
 | _,_=>none
def unV(op:UnOp)(x:V):Option (V×Prop):=
 match op,x with
 | .not,oD b=>some (ki (!b),True)
 | .neg,.d (.v (.int k n))=>if k= .i64 then some (jt .i64 (-n),aM .i64 (-n))else some (jt k (k.wrap (0-n)),True)
 | _,_=>none
def Ub(P:Program)(L:aI)(t:TypeId)(x:V):Option (V×Prop):=
 match x with
 | .d (.v (.string s))=>if qP P t then some (jt .i64 (s.size:Nat),True)else none
 | .d (.sl xs)=>if(nC P t).isSome then some (jt .i64 (xs.length:Nat),True)else none
 | .d (.v (.slice _ n _))=>if(nC P t).isSome then some (jt .i64 (n:Nat),True)else none
 | .rv h=>match L.lookup h with
   | some (.row _ _ xs)=>if(nC P t).isSome then some (jt .i64 (xs.length:Nat),True)else none
   | _=>none
 | .sv _ l=>if(nC P t).isSome then some (jt .i64 (l:Nat),True)else none
 | _=>none
def MR(P:Program)(src dst:TypeId)(x:V):Option (V×Prop):=
 match x,tD P dst with
 | .d (.v (.int k n)),some k'=>if(tD P src).isSome then(if k=k' then some (jt k' n,aM k' n)else some (jt k' (k'.wrap n),True))else none
 | .d (.v (.string s)),none=>if qP P src&&qP P dst then some (Nh s,True)else none
 | _,_=>none
def GC(x:V)(i:Nat):Option (V×Prop):=
 match x with
 | .bA vs=>some (vs[i]?.getD .any,i<vs.length)
 | _=>none
def CC(x:V):Option (V×Prop):=
 match x with
 | .bp h off=>some (.bp h off,True)
 | .rp cs=>some (.rp cs,True)
 | .ep h k i j=>some (.ep h k i j,True)
 | _=>none
def Uc(P:Program)(ρ:Operand->V)(L:aI)(c:Call):Option (V×Prop):=
 match c.callee,c.args.toList,c.argTypes.toList with
 | .builtin .len,[x],[t]=>Ub P L t (ρ x)
 | _,_,_=>none
def tyM(P:Program)(t:TypeId):Option (TypeDesc×TypeId):=
 match P.underlying t with
 | some (.map k e)=>(P.underlying k).map λd=>(d,e)
 | _=>none
def ae0(P:Program)(t:TypeId):Option V:=((P.info? t).bind (·.zero)).bind λz=>match z with
 | .agg vs=>if vs.all (·.oneCell')then some (.agg (vs.toList.map λx=> .d (D.v x).nn))else none
 | z=>if z.oneCell' then some (.d (D.v z).nn)else none
def mv:TypeDesc->Value->Bool
 | .bool,.bool _=>true
 | .int k,.int k' _=>k'==k
 | .string,.string _=>true
 | _,_=>false
def sh:Value->Value->Bool
 | .bool a,.bool b=>a==b
 | .int j a,.int k b=>j==k&&a==b
 | .string a,.string b=>a==b
 | _,_=>false
def yQ:List ME->Value->Option V
 | [],_=>none
 | e::es,k=>if sh e.1 k then some e.val else yQ es k
def JJ(d:TypeDesc)(es:List ME):Bool:=es.all λe=>mv d e.1
@[simp] theorem agw d:JJ d []=true:=rfl
def Ai(ok:Bool)(v:V)(b:Bool):V:=if ok then .bA [v,ki b]else v
def EK(P:Program)(L:aI)(t:TypeId)(x i:V)(ok:Bool):Option (V×Prop):=
 match tyM P t,x,i with
 | some (d,e),.rv h,.d (.v k)=>match L.lookup h,ae0 P e with
   | some (.mp es),some z=>some (Ai ok ((yQ es k).getD z) (yQ es k).isSome,mv d k=true/\JJ d es=true)
   | _,_=>none
 | _,_,_=>none
def q1(P:Program)(ρ:Operand->V)(L:aI)(o:Oper):Option (V×Prop):=
 match o.op with
 | .move x=>some (ρ x,True)
 | .assign x=>some (ρ x,True)
 | .pick c a b=>match ρ c with
   | oD t=>wx t (ρ a) (ρ b)
   | _=>none
 | .load t a=>EJ P L t (ρ a)
 | .fieldAddr t a f=>wy P t f (ρ a)
 | .field t a f=>HM P t f (ρ a)
 | .indexAddr t x i=>wz P L t (ρ x) (ρ i)
 | .index t x i=>HN P t (ρ x) (ρ i)
 | .binOp op _ x y _=>Ua op (ρ x) (ρ y)
 | .unOp op _ x=>unV op (ρ x)
 | .convert src dst x=>MR P src dst (ρ x)
 | .extract x i=>GC (ρ x) i
 | .nilCheck x=>CC (ρ x)
 | .makeFunc fn first eh=>some (.eS fn (first.toList.map ρ) (eh.toList.map ρ),True)
 | .lookup t x i ok=>EK P L t (ρ x) (ρ i) ok
 | .call c=>Uc P ρ L c
 | _=>none
section
variable {P : Program} {w : World} {O : Nat -> Prop} {m : Nat -> Option Value}
theorem tF{d k}(h:mv d k=true):MapKept.IsKey d k:=by
 cases d<;>cases k<;>simp_all[mv,MapKept.IsKey]
theorem p9{d a b}(ha:mv d a=true)(hb:mv d b=true):sh a b=true↔a=b:=by
 cases d<;>cases a<;>cases b<;>simp_all[mv,sh,MapKept.bytes_beq]
theorem Nj{t e d}(h:tyM P t=some (d,e)) w:∃k,(underlying t).run P w= .ok (.map k e) w/\P.underlying k=some d:=by
 unfold tyM at h;split at h
 ·rename_i k e' he;obtain⟨d',hd,hx⟩:=ao8.1 h;cases hx;exact⟨k,run_underlying he w,hd⟩
 grind
theorem W8{x}(h:x.oneCell'=true):eT w O x (D.v x).nn:=by
 unfold D.nn;split
 ·rename_i heq;cases heq;exact .sl none 0 0 [] 0 0 0 (λ_ _=>undef) rfl (by omega) (by simp) (by omega) (by simp) (by omega) (by simp)
 ·exact .v x h
theorem W9{t z}(h:ae0 P t=some z) w:∃v,(zeroValue t).run P w= .ok v w/\∀O m,aC w O m v z:=by
 obtain⟨v,hv,h2⟩:=apX.1 h;obtain⟨i,hi,hz⟩:=apX.1 hv;refine⟨v,by simp_all[zeroValue,typeInfo],λO m=>?_⟩;split at h2
 ·rename_i vs;split at h2
  ·rename_i bS;simp at h2;subst h2;rw[Array.all_eq_true']at bS;refine .agg vs _ (by simp) (λj x hx=>bS x (aqL hx)) ?_;intro j x y hx hy;rw[apc,apN,hx]at hy;simp at hy;subst hy;exact .d _ _ (W8 (bS x (aqL hx)))
  grind
 ·split at h2
  ·rename_i h1;simp at h2;subst h2;exact .d _ _ (W8 h1)
  grind
theorem A0{d}{k}(hk:mv d k=true):∀es l,l.length=es.length→es.all (fun e=>mv d e.1)=true→
  (∀(i:Nat) a e,l[i]?=some a->es[i]?=some e->a.key=e.1/\aC w O (λ_=>none) a.val e.val)->∀i,
  (Instr.findNow d k l i=some none/\yQ es k=none/\∀e∈es,sh e.1 k=false)\/∃j v y a e,Instr.findNow d k l i=some (some (i+j,v))/\yQ es k=some y/\aC w O (λ_=>none) v y/\l[j]?=some a/\es[j]?=some e/\a.key=k/\e.1=k
 | [],[],_,_,_,i=> .inl ⟨rfl,rfl,by simp⟩
 | [],_::_,h,_,_,_=>by grind
 | _::_,[],h,_,_,_=>by grind
 | e::es,a::l,hl,hf,hr,i=>by
   simp only[arC,apb]at hf;obtain⟨h1,h2⟩:=hr 0 a e rfl rfl;obtain⟨r,hs,aiB⟩:=MapKept.sameNow_of_keys (tF hk) (tF (h1 ▸ hf.1:mv d a.key=true));by_cases hek:e.1=k
   ·have nD:r=true:=aiB.2 (by grind);subst nD;exact .inr ⟨0,a.val,e.val,a,e,by simp[Instr.findNow,hs],by grind[yQ,p9],h2,rfl,rfl,by grind,hek⟩
   ·have nD:r=false:=by
     grind
    have bR:sh e.1 k=false:=by
     grind[sh,p9]
    rcases A0 hk es l (by grind) hf.2 (λi a e ha he=>hr (i+1) a e (by grind) (by grind)) (i+1)with⟨q1,q2,q3⟩|⟨j,v,y,a',e',q1,q2,q3,q4,q5,q6⟩
    ·grind[Instr.findNow,q1,yQ]
    ·exact .inr ⟨j+1,v,y,a',e',by grind[Instr.findNow,q1],by simp_all[yQ],q3,by grind,by grind,q6⟩
theorem MA{fo}{L}{t}{x i}{ok}{y}{c}(h:EK P L t x i ok=some (y,c))(hc:c)(hi:Inv fo m L w){vx vi}(hx:aC w (OO fo m) m vx x)(hv:aC w (OO fo m) m vi i):
  ∃v,(Instr.lookup t vx vi ok).run P w= .ok v w/\aC w (OO fo m) m v y:=by
 unfold EK at h;split at h
 ·rename_i d e hh k htm;split at h
  ·rename_i es z hl hz;cases h;obtain rfl:=hv.cy;have fm:∀{L:aI},L.lookup hh=some (.mp es)->(hh,aV.mp es)∈L:=by
    intro L
    induction L with
    | nil=>simp
    | cons p L ih=>
      grind
   obtain⟨u,hu,r,arr,clock,rfl,hb,hs,gz,GD⟩:=hi.holds hh _ (fm hl);have hxu:vx= .map (some r):=by
    cases hx with
    | rv _ _ e _=>grind
   subst hxu;obtain⟨kt,kj,rP⟩:=Nj htm w;obtain⟨vz,HO,sX⟩:=W9 hz w;have KO:=MapKept.run_checkKey (P:=P) (w:=w) rP (tF hc.1) arr.isEmpty 9999;have acU:∀{v:Value} {y:V},aC w (OO fo m) (λ_=>none) v y->aC w (OO fo m) m v y:=λh=>h.mono (bK.refl w _) (λ_ _ h=>h) (λ_ _ e=>by cases e)
   have fin:∀{v:Value} {y:V} {b:Bool},aC w (OO fo m) m v y->aC w (OO fo m) m (if ok then .tuple #[v,.bool b]else v) (Ai ok y b):=by
    intro v y b hr;cases ok with
    | false=>simp_all[Ai]
    | true=>
      simp only[Ai,if_true];refine .bA _ _ rfl ?_;intro j x y' hx hy
      match j with
      | 0=>grind
      | 1=>simp only [apY,apE,anc]at hy;subst hy
           have:Value.bool b=x:=by grind
           subst this;exact .d _ _ (.v _ rfl)
      | j+2=>grind
   rcases A0 (w:=w) (O:=OO fo m) hc.1 es arr.toList (by omega) hc.2 (λi a e ha he=>GD i a e (by grind) he) 0 with⟨q1,q2,q3⟩|⟨j,v,y,a',e',q1,q2,q3,-⟩
   ·have hf:=MapKept.run_findKey (P:=P) (w:=w) rP q1;refine⟨_,?_,by rw[q2];exact fin (sX _ _)⟩;simp[Instr.lookup,kj,MapKept.run_getObj_map hb,KO,hf,HO,Result.andThen,Sem.run_bind]
   ·have hf:=MapKept.run_findKey (P:=P) (w:=w) rP q1;refine⟨_,?_,by rw[q2];exact fin (acU q3)⟩;simp[Instr.lookup,kj,MapKept.run_getObj_map hb,KO,hf,Result.andThen,Sem.run_bind]
  grind
 grind
end
def Xa(P:Program)(o:Oper)(du:Operand->V)(L:aI)(x:V):Prop:=
 ∀fo m (ρ:Operand->Value) w,Inv fo m L w->(∀z,z∈o.op.operands->aC w (OO fo m) m (ρ z) (du z))->
  ∃v,(execOp ρ o).run P w= .ok (.value v) w/\aC w (OO fo m) m v x
section
variable {P : Program} {w : World} {fo : FO} {m : Nat -> Option Value} {L : aI}
theorem dL{α:Type}{h r}:∀{L:List (Nat×α)},L.lookup h=some r->(h,r)∈L
 | [],e=>by grind
 | (k,y)::l,e=>by
   rw[List.lookup_cons]at e;by_cases hk:h=k
   ·subst hk;simp at e;subst e;exact apo
   ·have:(h==k)=false:=by simpa using hk
    rw[this]at e;exact apl _ (dL e)
theorem nE b:aC w (OO fo m) m (.bool b) (ki b):= .d _ _ (.v _ rfl)
theorem kV k n:aC w (OO fo m) m (.int k n) (jt k n):= .d _ _ (.v _ rfl)
theorem Ud s:aC w (OO fo m) m (.string s) (Nh s):= .d _ _ (.v _ rfl)
theorem ae1{x g y}(h:aC w (OO fo m) m x (.gd g y))(hg:g=true):aC w (OO fo m) m x y:=by
 subst hg;cases h with
 | gt _ _ h=>exact h
theorem vA{O v x}(h:aC w O m v x)(hc:x.Cc):aC w O m v x.un:=by
 cases x with
 | gd g y=>
   subst hc;cases h with
   | gt _ _ h=>exact h
 | _=>exact h
theorem QK{t}{a b}{x}{c}(h:wx t a b=some (x,c))(hc:c){va vb}(ha:aC w (OO fo m) m va a)(hb:aC w (OO fo m) m vb b):
  aC w (OO fo m) m (if t then va else vb) x:=by
 cases t with
 | true=>
   cases h;grind[vA]
 | false=>
   cases h;grind[vA]
theorem xB{x h off}(hr:aC w (OO fo m) m x (.bp h off)):∃b,m h=some (.pointer (some ⟨b,0,none⟩))/\x= .pointer (some ⟨b,off,none⟩):=by
 cases hr with
 | bp _ _ b e=>grind
theorem CD{x}{cs}(hr:aC w (OO fo m) m x (.rp cs)):∃(b off:Nat) (f:Nat→Value),x= .pointer (some ⟨b,off,none⟩)∧¬(OO fo m) b∧b < w.heap.size∧
  (∀j,j<cs.length->w.cell? ⟨b,off+j,none⟩=some (f j))/\∀j y,cs[j]?=some y->eT w (OO fo m) (f j) y:=by
 cases hr with
 | rp b off _ f hb au hc hr=>exact⟨b,off,f,rfl,hb,au,hc,hr⟩
theorem Xb{x h n}(hr:aC w (OO fo m) m x (.sv h n)):∃b cap,x= .slice (some ⟨b,0,none⟩) n cap/\m h=some (.pointer (some ⟨b,0,none⟩))/\n<=cap/\cap<=maxLen:=by
 cases hr with
 | sv _ _ b cap e hc hx=>grind
theorem CE{x h k i j}(hr:aC w (OO fo m) m x (.ep h k i j)):∃b o n c,m h=some (.slice (some ⟨b,o,none⟩) n c)/\x= .pointer (some ⟨b,o+i *k+j,none⟩):=by
 cases hr with
 | ep _ _ _ _ b o n c e=>grind
theorem CF{x h}(hr:aC w (OO fo m) m x (.rv h)):m h=some x:=by
 cases hr with
 | rv _ _ e _=>exact e
theorem Sl{x}{cs}(hr:aC w (OO fo m) m x (.agg cs)):∃vs:Array Value,x= .agg vs∧vs.size=cs.length∧(∀(j:Nat) x,vs[j]?=some x→x.oneCell'=true)∧
  ∀(j:Nat) x y,vs[j]?=some x->cs[j]?=some y->aC w (OO fo m) m x y:=by
 cases hr with
 | agg vs _ hs h1 h=>grind
theorem adx{x}{cs}(hr:aC w (OO fo m) m x (.bA cs)):∃vs:Array Value,x= .tuple vs∧vs.size=cs.length∧
  ∀(j:Nat) x y,vs[j]?=some x->cs[j]?=some y->aC w (OO fo m) m x y:=by
 cases hr with
 | bA vs _ hs h=>grind
theorem KQ(hi:Inv fo m L w){h b}{ty}{cs}(hl:(h,aV.box b ty cs)∈L):
  ∃bb,(b=0\/b=bb+1)/\m h=some (.pointer (some ⟨bb,0,none⟩))/\∃cur:Array Value,w.heap[bb]?=some (.cells cur ty (0,0))/\cur.size=cs.length/\(∀(j:Nat) v,cur[j]?=some v->v.oneCell'=true)/\
   (∀j,w.cell? ⟨bb,j,none⟩=cur[j]?)/\∀(j:Nat) v c,cur[j]?=some v->cs[j]?=some c->aC w (OO fo m) m v c:=by
 obtain⟨x,hx,bb,km,cur,rfl,hh,hs,h1,hr⟩:=hi.holds h _ hl;grind[World.cell?]
theorem qb(hi:Inv fo m L w){h k}{ty}{xs}(hl:(h,aV.row ty k xs)∈L)(bR:0 < xs.length):
  ∃b off cap cur,m h=some (.slice (some ⟨b,off,none⟩) xs.length cap)/\w.heap[b]?=some (.cells cur ty (0,0))/\xs.length<=cap/\cap<=maxLen/\off+cap *k<=cur.size/\
   (∀(i:Nat) x,xs[i]?=some x->x.length=k)/\(∀(j:Nat) v,cur[j]?=some v->v.oneCell'=true)/\(∀j,w.cell? ⟨b,j,none⟩=cur[j]?)/\
   ∀i j x y v,xs[i]?=some x->x[j]?=some y->cur[off+i *k+j]?=some v->aC w (OO fo m) m v y:=by
 obtain⟨x,hx,hh⟩:=hi.holds h _ hl;rcases hh with⟨_,rfl⟩|⟨b,off,cap,cur,rfl,hb,h1,h2,h3,h4,h5,h6⟩
 ·grind
 grind[World.cell?]
theorem ady(hi:Inv fo m L w){h k ty xs}(hl:(h,aV.row ty k xs)∈L):∃a cap,m h=some (.slice a xs.length cap):=by
 obtain⟨x,hx,hh⟩:=hi.holds h _ hl;rcases hh with⟨rfl,rfl⟩|⟨b,off,cap,cur,rfl,_⟩
 ·grind
 grind
theorem xC{k}{f}{cs}(hlen:cs.length=k)(h1:∀j,j < k→(f j).oneCell'=true)(hr:∀(j:Nat) (y:V),cs[j]?=some y→aC w (OO fo m) m (f j) y):
  aC w (OO fo m) m (.agg ((List.range k).map f).toArray) (.agg cs):=by
 refine .agg _ _ (by grind) ?_ ?_
 ·grind
 grind
theorem xG{x y O}(h:eT w O x y):x.oneCell'=true:=by
 cases h<;>first|rfl|omega
theorem FB{t}{a x}{c}(h:EJ P L t a=some (x,c))(hc:c)(hi:Inv fo m L w){va}(ha:aC w (OO fo m) m va a):
  ∃v,(Instr.loadAt t va).run P w= .ok v w/\aC w (OO fo m) m v x:=by
 unfold EJ at h;split at h
 ·cases h
 ·rename_i g k hA;split at h
  ·-- box
   rename_i hh off;split at h
   ·rename_i bb0 ty cs hl;obtain⟨bb,km,hm,cur,mA,hs,kA,nA,fC⟩:=KQ hi (dL hl);obtain⟨b,e,rfl⟩:=xB ha;rw[hm]at e;obtain rfl:bb=b:=by grind
    cases g with
    | true=>
      simp only[if_true,anc,ao7]at h;obtain⟨rfl,rfl⟩:=h;have CG:∀j,j<k->cur[off+j]?=some (cur.getD (off+j) undef):=λj hj=>by simp[Array.getD,show off+j<cur.size by omega]
      refine⟨_,xy hA (f:=λj=>cur.getD (off+j) undef) (λj hj=>?_),xC ?_ ?_ ?_⟩
      ·grind
      ·grind
      ·grind
      grind
    | false=>
      simp only[apH,if_false,anc,ao7]at h;obtain⟨rfl,rfl⟩:=h;grind[Array.getElem?_eq_getElem,List.getElem?_eq_getElem,xz]
   grind
  ·-- rp
   rename_i cs;obtain⟨b,off,f,rfl,hb,au,nA,fC⟩:=CD ha;cases g with
   | true=>
     simp only[if_true,anc,ao7]at h;obtain⟨rfl,rfl⟩:=h;refine⟨_,xy hA (f:=f) (λj hj=>nA j (by omega)),xC (by grind) ?_ ?_⟩
     ·intro j hj;exact xG (fC j _ (akC (by omega)))
     ·intro j y hy;rw[apc,art]at hy;split at hy
      ·obtain⟨z,hz,rfl⟩:=ao8.1 hy;exact .d _ _ (fC j z hz)
      grind
   | false=>
     simp only[apH,if_false,anc,ao7]at h;obtain⟨rfl,rfl⟩:=h;have h2:cs[0]?=some (cs[0]'hc):=akC hc;exact⟨_,xz hA (by simpa using nA 0 hc),by rw[h2];exact .d _ _ (fC 0 _ h2)⟩
  ·-- ep
   rename_i hh k' i j;split at h
   ·rename_i ty HL xs hl;obtain⟨b,o,n,cc,e,rfl⟩:=CE ha;cases g with
    | true=>
      simp only[if_true,anc,ao7]at h;obtain⟨rfl,rfl⟩:=h;obtain⟨hix,hjk,rfl⟩:=hc;obtain⟨b',off,cap,cur,hm,mA,lD,pB,dW,hlen,kA,nA,fC⟩:=qb hi (dL hl) (by omega);rw[hm]at e;simp only[anc,Value.slice.injEq,Addr.mk.injEq]at e;obtain⟨⟨rfl,rfl,_⟩,_,_⟩:=e;have jT:xs[i]?=some xs[i]:=akC hix;have lZ:=hlen i _ jT;have iE:(i+1) *k'<=cap *k':=apu _ (by omega);rw[aqk,aqC]at iE;have CG:∀q,q<k->cur[off+i *k'+j+q]?=some (cur.getD (off+i *k'+j+q) undef):=λq hq=>by simp[Array.getD,show off+i *k'+j+q<cur.size by omega]
      refine⟨_,xy hA (f:=λq=>cur.getD (off+i *k'+j+q) undef) (λq hq=>?_),xC ?_ ?_ ?_⟩
      ·grind
      ·grind[Ni]
      ·grind
      grind[Ni,Nat.add_assoc]
    | false=>
      simp only[apH,if_false,anc,ao7]at h;obtain⟨rfl,rfl⟩:=h;obtain⟨hix,hjk,rfl⟩:=hc;obtain⟨b',off,cap,cur,hm,mA,lD,pB,dW,hlen,kA,nA,fC⟩:=qb hi (dL hl) (by omega);rw[hm]at e;simp only[anc,Value.slice.injEq,Addr.mk.injEq]at e;obtain⟨⟨rfl,rfl,_⟩,_,_⟩:=e;have jT:xs[i]?=some xs[i]:=akC hix;have lZ:=hlen i _ jT;have iE:(i+1) *k'<=cap *k':=apu _ (by omega);rw[aqk,aqC]at iE;grind[Array.getElem?_eq_getElem,List.getElem?_eq_getElem,xz,W7]
   grind
  grind
theorem GF{t}{f}{a x}{c}(h:wy P t f a=some (x,c)){va}(ha:aC w (OO fo m) m va a):
  ∃v,(Instr.fieldAt t va f).run P w= .ok v w/\aC w (OO fo m) m v x:=by
 unfold wy at h;split at h
 ·cases h
 ·rename_i o g k hF;split at h
  ·cases h;obtain⟨b,e,rfl⟩:=xB ha;exact⟨_,xA hF,.bp _ _ b e⟩
  ·cases h;obtain⟨b,off,f',rfl,hb,au,nA,fC⟩:=CD ha;refine⟨_,xA hF,.rp b (off+o) _ (λj=>f' (o+j)) hb au (λj hj=>?_) (λj y hy=>?_)⟩
   ·grind
   grind
  ·cases h;obtain⟨b,oo,n,cc,e,rfl⟩:=CE ha;refine⟨_,xA hF,?_⟩;rw[aqZ];exact .ep _ _ _ _ b oo n cc e
  grind
theorem HP{vs}{cs:List V}{o k}{g}{ft}(h4:(isAgg ft).run P w= .ok g w)(h5:(sizeOf ft).run P w= .ok k w)(hs:vs.size=cs.length)
  (h1:∀(j:Nat) (x:Value),vs[j]?=some x->x.oneCell'=true) (hr:∀(j:Nat) (x:Value) (y:V),vs[j]?=some x->cs[j]?=some y->aC w (OO fo m) m x y)
  (hb:if g then o+k<=cs.length else o<cs.length):
  ∃v,(part ft vs o).run P w= .ok v w/\aC w (OO fo m) m v (if g then .agg ((cs.drop o).take k)else cs[o]?.getD .any):=by
 cases g with
 | true=>
   refine⟨.agg (vs.extract o (o+k)),by simp_all[part],?_⟩;refine .agg _ _ (by grind) ?_ ?_
   ·grind[Array.getElem?_extract]
   grind
 | false=>
   simp at hb⊢;exact⟨vs[o]'(by omega),by simp_all[part],by grind⟩
theorem Nk{t}{f}{a x}{c}(h:HM P t f a=some (x,c))(hc:c){va}(ha:aC w (OO fo m) m va a):
  ∃v,(Instr.field t va f).run P w= .ok v w/\aC w (OO fo m) m v x:=by
 unfold HM at h;split at h
 ·cases h
 ·rename_i o g k hF;split at h
  ·rename_i cs;obtain⟨fs,fl,h1,h2,h3,h4,h5,h6⟩:=Ng hF w;obtain⟨vs,rfl,hs,h7,hr⟩:=Sl ha;have hh:(if g then o+k<=cs.length else o<cs.length)/\x=(if g then .agg ((cs.drop o).take k)else cs[o]?.getD .any):=by
    grind
   obtain⟨v,hv,fC⟩:=HP h4 h5 hs h7 hr hh.1;simp_all[Instr.field,asAgg]
  grind
theorem Nn(hi:Inv fo m L w){h k ty xs}(hl:L.lookup h=some (.row ty k xs)){x}(hr:aC w (OO fo m) m x (.rv h)):∃a cap,m h=some x/\x= .slice a xs.length cap:=by
 obtain⟨a,cap,e⟩:=ady hi (dL hl);grind[CF,Option.some.injEq]
theorem GG{t}{a i x}{c}(h:wz P L t a i=some (x,c))(hc:c)(hi:Inv fo m L w){va vi}(ha:aC w (OO fo m) m va a)(hv:aC w (OO fo m) m vi i):
  ∃v,(Instr.indexAt t va vi).run P w= .ok v w/\aC w (OO fo m) m v x:=by
 unfold wz at h;split at h
 ·rename_i kk n;obtain rfl:=hv.cy;split at h
  ·rename_i e k xs hE;cases h;obtain⟨⟨h0,h1⟩,h2⟩:=hc;obtain⟨b,off,k',cap,rfl,hk,fC⟩:=adw (m:=m) ha.kU h1;have sV:k'=k:=by
    grind
   subst sV;obtain⟨h3,h4⟩:=nZ hE w;refine⟨_,?_,by rw[akC h1]at fC⊢;exact fC⟩;have au:n<xs.length:=by omega
   simp[Instr.indexAt,asIntOf,h3,h4,h0,au,Addr.add_lit]
  ·rename_i e k hh hE;split at h
   ·rename_i ty k' xs hl;cases h;obtain⟨⟨h0,h1⟩,rfl⟩:=hc;obtain⟨b,off,cap,cur,hm,-⟩:=qb hi (dL hl) (by omega);have:=CF ha;rw[hm]at this;obtain rfl:=ao9 this;obtain⟨h3,h4⟩:=nZ hE w;have au:n<xs.length:=by omega
    refine⟨.pointer (some ⟨b,off+n.toNat *k+0,none⟩),?_,.ep _ _ _ _ b off _ _ hm⟩;simp[Instr.indexAt,asIntOf,h3,h4,h0,au,Addr.add_lit]
   grind
  ·rename_i e k hh l hE;cases h;obtain⟨h0,h1⟩:=hc;obtain⟨b,cap,rfl,em,lD,pB⟩:=Xb ha;obtain⟨h3,h4⟩:=nZ hE w;have au:n<l:=by omega
   refine⟨_,?_,.bp _ _ b em⟩;simp[Instr.indexAt,asIntOf,h3,h4,h0,au,Addr.add_lit]
  ·split at h
   ·rename_i len g k hh off hA _ _ _;cases h;obtain⟨h0,h1⟩:=hc;obtain⟨e,h3,h5,h4⟩:=AZ hA w;obtain⟨b,e',rfl⟩:=xB ha;refine⟨_,?_,.bp _ _ b e'⟩;simp[Instr.indexAt,asIntOf,h3,h4,h0,h1,Addr.add_lit,Instr.sureAddr]
   ·rename_i len g k cs hA _ _ _;cases h;obtain⟨h0,h1⟩:=hc;obtain⟨e,h3,h5,h4⟩:=AZ hA w;obtain⟨b,off,f',rfl,hb,au,nA,fC⟩:=CD ha;refine⟨.pointer (some ⟨b,off+n.toNat *k,none⟩),?_,.rp b (off+n.toNat *k) _ (λj=>f' (n.toNat *k+j)) hb au (λj hj=>?_) (λj y hy=>?_)⟩
    ·simp[Instr.indexAt,asIntOf,h3,h4,h0,h1,Addr.add_lit,Instr.sureAddr]
    ·grind
    grind
   grind
 grind
theorem wA{t}(h:qP P t=true) w:(underlying t).run P w= .ok .string w:=by
 grind[qP,run_underlying]
theorem Np{t}{a i x}{c}(h:HN P t a i=some (x,c))(hc:c){va vi}(ha:aC w (OO fo m) m va a)(hv:aC w (OO fo m) m vi i):
  ∃v,(Instr.index t va vi).run P w= .ok v w/\aC w (OO fo m) m v x:=by
 unfold HN at h;split at h
 ·rename_i kk n;obtain rfl:=hv.cy;split at h
  ·rename_i s;obtain rfl:=ha.cy;split at h
   ·cases h;obtain⟨h0,h1⟩:=hc;have e2:s.data.toList[n.toNat]?=some (s[n.toNat]'h1):=by
     rw[apN];exact apy h1
    simp_all[Instr.index,asIntOf,wA,kV]
   grind
  ·split at h
   ·rename_i len hA;cases h;obtain⟨vs,rfl,hs,h7,hr⟩:=Sl ha;obtain⟨e,h3,h5,h4⟩:=AZ hA w;obtain⟨v,hv',fC⟩:=HP (o:=n.toNat) h5 h4 hs h7 hr (by grind);simp_all[Instr.index,asIntOf]
   grind
  grind
 grind
theorem iX{k n}(h:aM k n):k.wrap n=n:=by
 unfold aM IntKind.min IntKind.max at h;unfold IntKind.wrap;cases k<;>simp[IntKind.bits,IntKind.signed]at *<;>omega
theorem Ue{op}{t}{xo yo}{a b x}{c}(h:Ua op a b=some (x,c))(hc:c){va vb}(ha:aC w (OO fo m) m va a)(hb:aC w (OO fo m) m vb b):
  ∃v,(do eqGuard op t xo yo va vb;binOp op t va vb:Sem Value).run P w= .ok v w/\aC w (OO fo m) m v x:=by
 unfold Ua at h;split at h
 ·rename_i k p k' q;obtain rfl:=ha.cy;obtain rfl:=hb.cy;have hg:(eqGuard op t xo yo (.int k p) (.int k' q)).run P w= .ok () w:=by
   simp[eqGuard]
  rw[Sem.run_bind,hg];simp only[Result.andThen_ok];split at h
  ·cases h;exact⟨_,by simp[binOp,Op.shift,Int.not_lt.2 hc],kV _ _⟩
  ·cases h;exact⟨_,by simp[binOp,Op.shift,Int.not_lt.2 hc],kV _ _⟩
  all_goals (split at h;rotate_left;cases h;rename_i hk;subst hk)
  case h_3|h_4|h_5=>
   split at h
   ·rename_i hk;subst hk;cases h;simp_all[binOp,Op.intArith,ne_eq,not_true_eq_false,if_false,Sem.run_pure,iX,kV]
   ·cases h;simp[binOp,Op.intArith,kV]
  case h_6|h_7=>
   cases h;simp_all[binOp,Op.intDiv,kV]
  case h_8|h_9|h_10|h_11=>
   cases h;exact⟨_,by simp only[binOp,Op.intBits,ne_eq,not_true_eq_false,if_false,Sem.run_pure],kV _ _⟩
  all_goals
   cases h;exact⟨_,by simp[binOp,Op.intCmp],nE _⟩
 ·rename_i p q;obtain rfl:=ha.cy;obtain rfl:=hb.cy;have hg:(eqGuard op t xo yo (.string p) (.string q)).run P w= .ok () w:=by
   simp[eqGuard]
  rw[Sem.run_bind,hg];split at h
  ·cases h;simp_all[binOp,Op.stringOp,if_neg,Int.not_lt,Ud]
  ·cases h;simp[binOp,Op.stringOp,nE]
  ·cases h;simp[binOp,Op.stringOp,nE]
  grind
 grind
theorem Xc{op}{a x}{c}(h:unV op a=some (x,c))(hc:c){va}(ha:aC w (OO fo m) m va a):
  ∃v,(Op.unary op va).run P w= .ok v w/\aC w (OO fo m) m v x:=by
 unfold unV at h;split at h
 ·obtain rfl:=ha.cy;cases h;exact⟨_,rfl,nE _⟩
 ·obtain rfl:=ha.cy;split at h
  ·cases h;simp_all[kV,Op.unary,Op.intArith,iX]
  ·cases h;exact⟨_,rfl,kV _ _⟩
 grind
theorem Uf{t ty}{a x}{c}(h:Ub P L t a=some (x,c))(hi:Inv fo m L w){va}(ha:aC w (OO fo m) m va a):
  ∃v,(Builtin.len_ #[t] ty #[va]).run P w= .ok v w/\aC w (OO fo m) m v x:=by
 unfold Ub at h;split at h
 ·obtain rfl:=ha.cy;split at h
  ·rename_i s hs;cases h;exact⟨_,by simp[Builtin.len_,wA hs w];rfl,kV _ _⟩
  grind
 ·split at h
  ·rename_i hE;cases h;obtain⟨⟨e,k⟩,Nq⟩:=aqb.1 hE;obtain⟨a',cap,rfl,-⟩:=ha.kU.oL;exact⟨_,by simp[Builtin.len_,(nZ Nq w).1];rfl,kV _ _⟩
  grind
 ·split at h
  ·rename_i hE;cases h;obtain⟨⟨e,k⟩,Nq⟩:=aqb.1 hE;obtain rfl:=ha.cy;exact⟨_,by simp[Builtin.len_,(nZ Nq w).1];rfl,kV _ _⟩
  grind
 ·split at h
  ·rename_i hl;split at h
   ·rename_i hE;cases h;obtain⟨⟨e,k⟩,Nq⟩:=aqb.1 hE;obtain⟨a',cap,_,rfl⟩:=Nn hi hl ha;exact⟨_,by simp[Builtin.len_,(nZ Nq w).1];rfl,kV _ _⟩
   grind
  grind
 ·split at h
  ·rename_i hE;cases h;obtain⟨⟨e,k⟩,Nq⟩:=aqb.1 hE;obtain⟨b,cap,rfl,-⟩:=Xb ha;exact⟨_,by simp[Builtin.len_,(nZ Nq w).1];rfl,kV _ _⟩
  grind
 grind
theorem Uh{t k}(h:tD P t=some k) w:(underlying t).run P w= .ok (.int k) w:=by
 grind[tD,Option.some.injEq,run_underlying]
theorem QL{src dst}{a x}{c}(h:MR P src dst a=some (x,c))(hc:c){va}(ha:aC w (OO fo m) m va a):
  ∃v,(convert src dst va).run P w= .ok v w/\aC w (OO fo m) m v x:=by
 unfold MR at h;split at h
 ·rename_i k n k' hd;obtain rfl:=ha.cy;split at h
  ·rename_i hs;obtain⟨ks,hs⟩:=aqb.1 hs;have bz:(convert src dst (.int k n)).run P w= .ok (.int k' (k'.wrap n)) w:=by
    simp_all[convert,Uh,Conv.intToInt]
   split at h
   ·cases h;simp_all[iX,kV]
   ·cases h;simp_all[kV]
  grind
 ·obtain rfl:=ha.cy;split at h
  ·cases h;simp_all[convert,wA,Ud]
  grind
 grind
theorem Sm{ρ}{du}(l:Array Operand)(h:∀z,z∈l→aC w (OO fo m) m (ρ z) (du z)):
  ∀(j:Nat) x y,(l.map ρ)[j]?=some x->(l.toList.map du)[j]?=some y->aC w (OO fo m) m x y:=by
 grind
theorem aaA{du o x c}(h:q1 P du L o=some (x,c))(hc:c):Xa P o du L x:=by
 intro fo m ρ w hi hr;obtain⟨dst,op,ty,pos,after,guard⟩:=o;unfold q1 at h;simp only at h hr;split at h
 ·simp only[anc,ao7]at h;obtain⟨rfl,_⟩:=h;exact⟨_,rfl,hr _ (by simp[Op.operands])⟩
 ·simp only[anc,ao7]at h;obtain⟨rfl,_⟩:=h;exact⟨_,rfl,hr _ (by simp[Op.operands])⟩
 ·rename_i co ao bo;split at h
  ·rename_i t ht;have h1:=hr co (by simp[Op.operands]);rw[ht]at h1;refine⟨_,?_,QK h hc (hr ao (by simp[Op.operands])) (hr bo (by simp[Op.operands]))⟩;simp only[execOp];rw[h1.cy];rfl
  grind
 ·obtain⟨v,h1,h2⟩:=FB h hc hi (hr _ (by simp[Op.operands]));simp_all[execOp]
 ·obtain⟨v,h1,h2⟩:=GF (w:=w) h (hr _ (by simp[Op.operands]));simp_all[execOp]
 ·obtain⟨v,h1,h2⟩:=Nk (w:=w) h hc (hr _ (by simp[Op.operands]));simp_all[execOp]
 ·rename_i t xo io;obtain⟨v,h1,h2⟩:=GG h hc hi (hr xo (by simp[Op.operands])) (hr io (by simp[Op.operands]));simp_all[execOp]
 ·rename_i t xo io;obtain⟨v,h1,h2⟩:=Np (w:=w) h hc (hr xo (by simp[Op.operands])) (hr io (by simp[Op.operands]));simp_all[execOp]
 ·rename_i bop t xo yo yt;obtain⟨v,h1,h2⟩:=Ue (P:=P) (w:=w) (t:=t) (xo:=xo) (yo:=yo) h hc (hr xo (by simp[Op.operands])) (hr yo (by simp[Op.operands]));refine⟨v,?_,h2⟩;simp only[execOp];rw[Sem.run_bind,h1];rfl
 ·obtain⟨v,h1,h2⟩:=Xc (P:=P) (w:=w) h hc (hr _ (by simp[Op.operands]));simp_all[execOp]
 ·obtain⟨v,h1,h2⟩:=QL (w:=w) h hc (hr _ (by simp[Op.operands]));simp_all[execOp]
 ·rename_i xo i;have hx:=hr xo (by simp[Op.operands]);unfold GC at h;split at h
  ·rename_i vs hvs;simp only[anc,ao7]at h;obtain⟨rfl,rfl⟩:=h;rw[hvs]at hx;obtain⟨us,hu,hs,fC⟩:=adx hx;have h2:us[i]?=some (us[i]'(by omega)):=apy (by omega);have h3:vs[i]?=some (vs[i]'hc):=akC hc;exact⟨us[i]'(by omega),by simp_all[execOp,Instr.extract],by grind⟩
  grind
 ·rename_i xo;have hx:=hr xo (by simp[Op.operands]);unfold CC at h;split at h
  ·rename_i hv;simp only[anc,ao7]at h;obtain⟨rfl,_⟩:=h;rw[hv]at hx;obtain⟨b,e,hp⟩:=xB hx;simp_all[execOp]
  ·rename_i hv;simp only[anc,ao7]at h;obtain⟨rfl,_⟩:=h;rw[hv]at hx;obtain⟨b,off,f',hp,-⟩:=CD hx;simp_all[execOp]
  ·rename_i hv;simp only[anc,ao7]at h;obtain⟨rfl,_⟩:=h;rw[hv]at hx;obtain⟨b,oo,n,cc,e,hp⟩:=CE hx;simp_all[execOp]
  grind
 ·rename_i fn first eh
  simp only[anc,ao7]at h;obtain⟨rfl,_⟩:=h;refine⟨.func fn (first.map ρ) (eh.map ρ),by rfl,.eS _ _ _ _ _ (by simp) (by simp) ?_ ?_⟩
  ·grind[Sm,Op.operands]
  grind[Sm,Op.operands]
 ·rename_i t xo io ok;obtain⟨v,h1,h2⟩:=MA h hc hi (hr xo (by simp[Op.operands])) (hr io (by simp[Op.operands]));simp_all[execOp]
 ·rename_i cl;obtain⟨callee,args,argTypes⟩:=cl;unfold Uc at h;split at h
  ·rename_i xo t qc oa aaB;simp only at qc oa aaB;obtain rfl:args= #[xo]:=by grind
   obtain rfl:argTypes= #[t]:=by grind
   subst qc;obtain⟨v,h1,h2⟩:=Uf (ty:=ty) h hi (hr xo (by simp[Op.operands,Call.operands]));simp_all[execOp,resolve,invoke,builtin]
  grind
 grind
end
section
variable {P : Program} {w w' : World} {fo : FO} {m m' : Nat -> Option Value} {L : aI} {n : Nat} {s : St} {a : Act}
theorem aV.Holds.mono{O O'}{x}{r:aV}(h:r.Holds w O m x)(hb:∀b,dq x b→w'.heap[b]?=w.heap[b]?)(hk:bK w O w')
  (hO:∀b,b<w.heap.size->O' b->O b) (hm:∀h x,m h=some x->m' h=some x):r.Holds w' O' m' x:=by
 cases r with
 | box b ty cs=>
   obtain⟨bb,km,cur,rfl,h1,h2,h3,h4⟩:=h;exact⟨bb,km,cur,rfl,by rw[hb bb rfl];exact h1,h2,h3,λj v c hv hc=>(h4 j v c hv hc).mono hk hO hm⟩
 | row ty k xs=>
   rcases h with h|⟨b,off,cap,cur,rfl,h1,h2,h3,h4,h5,h6,h7⟩
   ·exact .inl h
   ·exact .inr ⟨b,off,cap,cur,rfl,by rw[hb b rfl];exact h1,h2,h3,h4,h5,h6,λi j x y v h1 h2 h3=>(h7 i j x y v h1 h2 h3).mono hk hO hm⟩
 | env A=>exact A.mono h hb hk hO
 | mp es=>exact KL h hb hk hO
theorem aV.Holds.lt{O x}{r:aV}(h:r.Holds w O m x){b}(hb:dq x b):b<w.heap.size:=by
 cases r with
 | box b' ty cs=>
   obtain⟨bb,km,cur,rfl,h1,_⟩:=h;grind[dq,jJ,Array.getElem?_eq_some_iff]
 | row ty k xs=>
   rcases h with⟨rfl,_⟩|⟨b',off,cap,cur,rfl,h1,_⟩
   ·grind[dq,jJ]
   grind[dq,jJ,Array.getElem?_eq_some_iff]
 | env A=>exact A.lt h hb
 | mp es=>exact adv h hb
theorem HQ{h}(hk:h∈keys L):∃r,(h,r)∈L:=by
 obtain⟨p,hp,rfl⟩:=apf.1 hk;grind
theorem Inv.lt(hi:Inv fo m L w){h b x}(hx:m h=some x)(hb:dq x b):b<w.heap.size:=by
 obtain⟨r,hr⟩:=HQ (hi.fI h x hx);obtain⟨y,hy,hh⟩:=hi.holds h r hr;rw[hx]at hy;obtain rfl:=ao9 hy;exact hh.lt hb
theorem Inv.agU(hi:Inv fo m L w){b}(h:OO fo m b):b<w.heap.size:=by
 rcases h with⟨h,x,hx,hb⟩|h
 ·exact hi.lt hx hb
 ·exact hi.ei b h
def eV(m:Nat->Option Value)(h:Nat)(x:Value):Nat->Option Value:=λi=>if i=h then some x else m i
theorem cq h x:eV m h x h=some x:=by simp[eV]
theorem ez{h i} x(bR:i≠h):eV m h x i=m i:=by grind[eV]
theorem adz(hi:Inv fo m L w){h}(hn:h∉keys L):m h=none:=by
 cases hm:m h with
 | none=>rfl
 | some x=>exact(hn (hi.fI h x hm)).elim
theorem sC(hi:Inv fo m L w){h}(hn:h∉keys L) x:∀i y,m i=some y->eV m h x i=some y:=by
 grind[adz,ez]
theorem Inv.new(hi:Inv fo m L w){h}(hn:h∉keys L){x}{r}(hs:w.heap.size≤w'.heap.size)(tG:∀b,b < w.heap.size→w'.heap[b]?=w.heap[b]?)
  (hx:∀b,dq x b->w.heap.size<=b) (hh:r.Holds w' (OO fo (eV m h x)) (eV m h x) x):Inv fo (eV m h x) ((h,r)::L) w':=by
 have jU:=sC hi hn x;have hO:∀b,b<w.heap.size->OO fo (eV m h x) b->OO fo m b:=by
  rintro b hb (⟨i,y,hy,kI⟩|hf)
  ·by_cases kJ:i=h
   ·subst kJ;rw[cq]at hy;grind
   ·rw[ez x kJ]at hy;exact .inl ⟨i,y,hy,kI⟩
  ·exact .inr hf
 refine⟨?_,?_,?_,?_,?_,?_,hi.ee.mono ⟨hs,λb hb _=>tG b hb⟩ hO⟩
 ·simp only[keys,apF,ap0];exact⟨hn,hi.nodup⟩
 ·intro i y hy;by_cases kJ:i=h
  ·simp_all[keys]
  ·rw[ez x kJ]at hy;exact apl _ (hi.fI i y hy)
 ·intro i j y z b hy hz kI KR;by_cases kJ:i=h<;>by_cases Nr:j=h
  ·omega
  ·subst kJ;rw[cq]at hy;rw[ez x Nr]at hz;obtain rfl:=ao9 hy;have:=hx b kI;have:=hi.lt hz KR;omega
  ·subst Nr;rw[cq]at hz;rw[ez x kJ]at hy;obtain rfl:=ao9 hz;have:=hx b KR;have:=hi.lt hy kI;omega
  ·rw[ez x kJ]at hy;rw[ez x Nr]at hz;exact hi.apart i j y z b hy hz kI KR
 ·intro i y b hy kI hf;by_cases kJ:i=h
  ·subst kJ;rw[cq]at hy;obtain rfl:=ao9 hy;have:=hx b kI;have:=hi.ei b hf;omega
  ·rw[ez x kJ]at hy;exact hi.others i y b hy kI hf
 ·intro b hf;exact apt (hi.ei b hf) hs
 ·intro i q hq;rcases apq.1 hq with hq|hq
  ·cases hq;exact⟨x,cq _ _,hh⟩
  ·obtain⟨y,hy,Ns⟩:=hi.holds i q hq;exact⟨y,jU i y hy,Ns.mono (λb hb=>tG b (hi.lt hy hb)) ⟨hs,λb hb _=>tG b hb⟩ hO jU⟩
theorem CH(hi:Inv fo m L w){h x}(hx:∀b,dq x b->w.heap.size<=b):∀b,b<w.heap.size->OO fo (eV m h x) b->OO fo m b:=by
 rintro b hb (⟨i,y,hy,kI⟩|hf)
 ·by_cases kJ:i=h
  ·subst kJ;rw[cq]at hy;grind
  ·rw[ez x kJ]at hy;exact .inl ⟨i,y,hy,kI⟩
 ·exact .inr hf
theorem adA{h x}(hx:∀b,dq x b->w.heap.size<=b):∀b,b<w.heap.size->own (eV m h x) b->own m b:=by
 rintro b hb ⟨i,y,hy,kI⟩;by_cases kJ:i=h
 ·subst kJ;rw[cq]at hy;grind
 ·rw[ez x kJ]at hy;exact⟨i,y,hy,kI⟩
structure hY(w w':World):Prop where
 os:w'.os=w.os
 tape:w'.tape=w.tape
 output:w'.output=w.output
 size:w.heap.size<=w'.heap.size
 block:∀b,b<w.heap.size->w'.heap[b]?=w.heap[b]?
theorem hY.alloc w o:hY w (w.alloc o):=
 ⟨rfl,rfl,rfl,by simp,λb hb=>Below.heap_alloc w o b hb⟩
where
 Below.heap_alloc w o k (h:k<w.heap.size):(w.alloc o).heap[k]?=w.heap[k]?:=by
  show(w.heap.push o)[k]?=_;grind
theorem G.new(g:G fo n m s a w)(gr:hY w w'){h}(hn:h∉keys s.L){x}{r}(hx:∀b,dq x b→w.heap.size≤b)
  (hh:r.Holds w' (OO fo (eV m h x)) (eV m h x) x):G fo n (eV m h x) {s with L:=(h,r)::s.L} a w'/\Step w (own m) w' (own (eV m h x)):=
 ⟨⟨g.size,λt y hy=>⟨(g.fr t y hy).1,(g.fr t y hy).2.mono ⟨gr.size,λb hb _=>gr.block b hb⟩ (CH g.inv hx) (sC g.inv hn x)⟩,g.inv.new hn gr.size gr.block hx hh,g.defers⟩,
  ⟨gr.os,gr.tape,gr.output,gr.size,λb hb _=>gr.block b hb,adA hx⟩⟩
def aI.jA(L:aI)(h:Nat)(r:aV):aI:=L.map λp=>if p.1=h then(h,r)else p
theorem xH L h r:keys (aI.jA L h r)=keys L:=by
 unfold keys aI.jA;rw[aqx];apply List.map_congr_left;grind
structure EL(w:World) (b:Nat) (w':World):Prop where
 os:w'.os=w.os
 tape:w'.tape=w.tape
 output:w'.output=w.output
 size:w.heap.size<=w'.heap.size
 block:∀c,c<w.heap.size->c≠b->w'.heap[c]?=w.heap[c]?
theorem lE w b cs:EL w b (w.setRow b cs):=
 ⟨rfl,rfl,rfl,by simp,λc _ bR=>by
  simp[World.setRow];grind⟩
theorem Inv.jA(hi:Inv fo m L w){h b x}(hx:m h=some x)(hb:dq x b)(wr:EL w b w'){r}(hh:r.Holds w' (OO fo m) m x):Inv fo m (L.jA h r) w':=by
 have cQ:bK w (OO fo m) w':=⟨wr.size,λc hc ho=>wr.block c hc (λe=>ho (.inl ⟨h,x,hx,e ▸ hb⟩))⟩
 refine⟨by rw[xH];exact hi.nodup,by rw[xH];exact hi.fI,hi.apart,hi.others,λb hf=>apt (hi.ei b hf) wr.size,?_,hi.ee.mono cQ (λ_ _ h=>h)⟩;intro i q hq;obtain⟨p,hp,he⟩:=apf.1 hq;split at he
 ·grind
 ·rename_i bR;subst he;obtain⟨y,hy,Ns⟩:=hi.holds _ _ hp;refine⟨y,hy,Ns.mono (λc hc=>?_) cQ (λ_ _ h=>h) (λ_ _ h=>h)⟩;refine wr.block c (hi.lt hy hc) (λe=>bR ?_);subst e;exact hi.apart _ _ _ _ _ hy hx hc hb
theorem G.jA(g:G fo n m s a w){h b}{x}(hx:m h=some x)(hb:dq x b)(wr:EL w b w'){r}(hh:r.Holds w' (OO fo m) m x):
  G fo n m {s with L:=aI.jA s.L h r} a w'/\Step w (own m) w' (own m):=by
 have cQ:bK w (OO fo m) w':=⟨wr.size,λc hc ho=>wr.block c hc (λe=>ho (.inl ⟨h,x,hx,e ▸ hb⟩))⟩
 exact⟨⟨g.size,λt y hy=>⟨(g.fr t y hy).1,(g.fr t y hy).2.mono cQ (λ_ _ h=>h) (λ_ _ h=>h)⟩,g.inv.jA hx hb wr hh,g.defers⟩,
  ⟨wr.os,wr.tape,wr.output,wr.size,λc hc ho=>wr.block c hc (λe=>ho ⟨h,x,hx,e ▸ hb⟩),λ_ _ h=>h⟩⟩
end
mutual
def V.kill(h:Nat):V->V
 | .bp i o=>if i=h then .any else .bp i o
 | .rv i=>if i=h then .any else .rv i
 | .ep i k x y=>if i=h then .any else .ep i k x y
 | .eS fn f c=> .eS fn (V.dU h f) (V.dU h c)
 | .agg cs=> .agg (V.dU h cs)
 | .bA cs=> .bA (V.dU h cs)
 | .gd b x=> .gd b (V.kill h x)
 | .d x=> .d x
 | .rp cs=> .rp cs
 | .sv i n=>if i=h then .any else .sv i n
 | .kn Q=> .kn Q
 | .any=> .any
def V.dU(h:Nat):List V->List V
 | []=> []
 | x::l=>V.kill h x::V.dU h l
end
theorem iz h:∀l:List V,V.dU h l=l.map (V.kill h)
 | []=>by rfl
 | x::l=>by simp[V.dU,iz]
def dd(ys:List (List D)):List (List V):=ys.map (·.map V.d)
theorem JK h(l:List D):V.dU h (l.map V.d)=l.map V.d:=by
 simp[iz,V.kill]
def aV.kill(h:Nat):aV->aV
 | .box b ty cs=> .box b ty (V.dU h cs)
 | .row ty k xs=> .row ty k (xs.map (V.dU h))
 | .env A=> .env A
 | .mp es=> .mp es
theorem adB h ys:(dd ys).map (V.dU h)=dd ys:=by
 simp[dd,JK]
def St.kill(h:Nat)(s:St):St:=⟨s.fr.map λp=>(p.1,p.2.kill h),s.L.map λp=>(p.1,p.2.kill h)⟩
theorem aC.kill{w O m m' h}(hm:∀i x,i≠h->m i=some x->m' i=some x){x y}(hr:aC w O m x y):aC w O m' x (y.kill h):=by
 induction hr with
 | d x y hd=>simpa[V.kill]using aC.d x y hd
 | bp i off b e=>
   simp only[V.kill];split
   ·exact .any _
   ·rename_i bR;exact .bp i off b (hm _ _ bR e)
 | rv i x e e1=>
   simp only[V.kill];split
   ·exact .any _
   ·rename_i bR;exact .rv i x (hm _ _ bR e) e1
 | ep i k p q b o n c e=>
   simp only[V.kill];split
   ·exact .any _
   ·rename_i bR;exact .ep i k p q b o n c (hm _ _ bR e)
 | rp b off cs f hb au hc hr=>simpa[V.kill]using aC.rp b off cs f hb au hc hr
 | sv i n b cap e hc hx=>
   simp only[V.kill];split
   ·exact .any _
   ·rename_i bR;exact .sv i n b cap (hm _ _ bR e) hc hx
 | eS fn first eh cf cc s1 s2 h1 h2 FA KJ=>
   simp only[V.kill,iz];refine .eS fn first eh _ _ (by grind) (by grind) ?_ ?_
   ·grind
   grind
 | agg vs cs hs h1 h2 ih=>
   simp only[V.kill,iz];refine .agg vs _ (by grind) h1 ?_;grind
 | bA vs cs hs h2 ih=>
   simp only[V.kill,iz];refine .bA vs _ (by grind) ?_;grind
 | gt x y hr ih=>simpa[V.kill]using aC.gt x _ ih
 | gf y=>simpa[V.kill]using aC.gf (y.kill h)
 | kn x Q h=>simpa[V.kill]using aC.kn x Q h
 | any x=>simpa[V.kill]using aC.any x
theorem aV.Holds.kill{w O m m' h}(hm:∀i x,i≠h->m i=some x->m' i=some x){x}{r:aV}(hh:r.Holds w O m x):(r.kill h).Holds w O m' x:=by
 cases r with
 | box b ty cs=>
   obtain⟨bb,km,cur,rfl,h1,h2,h3,h4⟩:=hh;simp[aV.kill,iz];refine⟨bb,km,cur,rfl,h1,by grind,h3,λj v c hv hc=>?_⟩;rw[apc]at hc;obtain⟨z,hz,rfl⟩:=ao8.1 hc;exact(h4 j v z hv hz).kill hm
 | row ty k xs=>
   rcases hh with⟨rfl,rfl⟩|⟨b,off,cap,cur,rfl,h1,h2,h3,h4,h5,h6,h7⟩
   ·exact .inl ⟨rfl,rfl⟩
   ·refine .inr ⟨b,off,cap,cur,by simp,h1,by grind,h3,h4,λi x hx=>?_,h6,λi j x y v hx hy hv=>?_⟩
    ·grind[iz,List.length_map]
    ·rw[apc]at hx;obtain⟨z,hz,rfl⟩:=ao8.1 hx;rw[iz,apc]at hy;obtain⟨y',nr,rfl⟩:=ao8.1 hy;exact(h7 i j z y' v hz nr hv).kill hm
 | env A=>exact hh
 | mp es=>exact hh
section
variable {P : Program} {w w' : World} {fo : FO} {m m' : Nat -> Option Value} {L : aI} {n : Nat} {s : St} {a : Act}
theorem G.change(g:G fo n m s a w){h}{x v'}(hx:m h=some x){r'}(Xd:w'.os=w.os)(agV:w'.tape=w.tape)(ae2:w'.output=w.output)
  (hs:w.heap.size<=w'.heap.size) (tG:∀c,c<w.heap.size->¬dq x c->w'.heap[c]?=w.heap[c]?) (hv:∀b,dq v' b->dq x b\/w.heap.size<=b)
  (hh:r'.Holds w' (OO fo (eV m h v')) (eV m h v') v'):
  G fo n (eV m h v') ⟨(s.kill h).fr,aI.jA (s.kill h).L h r'⟩ a w'/\Step w (own m) w' (own (eV m h v')):=by
 have bR:∀i y,i≠h->m i=some y->eV m h v' i=some y:=λi y hi hy=>by simp_all[ez]
 have eW:∀b,b<w.heap.size->own (eV m h v') b->own m b:=by
  rintro b hb ⟨i,y,hy,kI⟩;by_cases kJ:i=h
  ·subst kJ;rw[cq]at hy;obtain rfl:=ao9 hy;rcases hv b kI with h1|h1
   ·exact⟨i,x,hx,h1⟩
   ·omega
  ·rw[ez v' kJ]at hy;exact⟨i,y,hy,kI⟩
 have hO:∀b,b<w.heap.size->OO fo (eV m h v') b->OO fo m b:=λb hb ho=>ho.imp (eW b hb) id
 have cQ:bK w (OO fo m) w':=⟨hs,λc hc ho=>tG c hc (λe=>ho (.inl ⟨h,x,hx,e⟩))⟩
 have hi:=g.inv;refine⟨⟨g.size,?_,?_,g.defers⟩,⟨Xd,agV,ae2,hs,λc hc ho=>tG c hc (λe=>ho ⟨h,x,hx,e⟩),eW⟩⟩
 ·intro t y hy;simp only[St.kill,apf]at hy;obtain⟨p,hp,he⟩:=hy;cases he;obtain⟨h1,h2⟩:=g.fr p.1 p.2 hp;exact⟨h1,(h2.kill bR).mono cQ hO (λ_ _ e=>e)⟩
 ·have pJ:keys (s.kill h).L=keys s.L:=by simp[keys,St.kill,aqx]
  refine⟨by rw[xH,pJ];exact hi.nodup,?_,?_,?_,λb hf=>apt (hi.ei b hf) hs,?_,hi.ee.mono cQ hO⟩
  ·rw[xH,pJ];intro i y hy;by_cases kJ:i=h
   ·subst kJ;exact hi.fI i x hx
   ·rw[ez v' kJ]at hy;exact hi.fI i y hy
  ·intro i j y z b hy hz kI KR;by_cases kJ:i=h<;>by_cases Nr:j=h
   ·omega
   ·subst kJ;rw[cq]at hy;rw[ez v' Nr]at hz;obtain rfl:=ao9 hy;rcases hv b kI with h1|h1
    ·exact hi.apart i j x z b hx hz h1 KR
    ·have:=hi.lt hz KR;omega
   ·subst Nr;rw[cq]at hz;rw[ez v' kJ]at hy;obtain rfl:=ao9 hz;rcases hv b KR with h1|h1
    ·exact hi.apart i j y x b hy hx kI h1
    ·have:=hi.lt hy kI;omega
   ·rw[ez v' kJ]at hy;rw[ez v' Nr]at hz;exact hi.apart i j y z b hy hz kI KR
  ·intro i y b hy kI hf;by_cases kJ:i=h
   ·subst kJ;rw[cq]at hy;obtain rfl:=ao9 hy;rcases hv b kI with h1|h1
    ·exact hi.others i x b hx h1 hf
    ·have:=hi.ei b hf;omega
   ·rw[ez v' kJ]at hy;exact hi.others i y b hy kI hf
  ·intro i q hq;obtain⟨p,hp,he⟩:=apf.1 hq;split at he
   ·cases he;exact⟨v',cq _ _,hh⟩
   ·rename_i Ui;subst he;simp only[St.kill,apf]at hp;obtain⟨p0,mB,ru⟩:=hp;cases ru;obtain⟨y,hy,Ns⟩:=hi.holds p0.1 p0.2 mB;refine⟨y,bR _ _ Ui hy,(Ns.kill bR).mono (λc hc=>?_) cQ hO (λ_ _ e=>e)⟩;exact tG c (hi.lt hy hc) (λe=>Ui (hi.apart _ _ _ _ _ hy hx hc e))
def ry(P:Program)(n:Nat)(o:Oper)(s:St)(K:V->St->Prop):Prop:=
 ∀fo m a w,G fo n m s a w->∃nx v w' m' x s',(execOp a.eval o).run P w= .ok nx w'/\(nx= .value v\/(nx= .skip/\v=undef))/\K x s'/\
  aC w' (OO fo m') m' v x/\G fo n m' s' a w'/\Step w (own m) w' (own m')
def rQ(P:Program)(t:TypeId):Option (List Value):=((P.info? t).bind (·.zero)).bind λz=>if z.cells.all (·.oneCell')then some z.cells.toList else none
theorem aaC{t z}(h:rQ P t=some z) w:∃v,(zeroValue t).run P w= .ok v w/\v.cells.toList=z/\∀x∈z,x.oneCell'=true:=by
 obtain⟨v,hv,h2⟩:=apX.1 h;obtain⟨i,hi,hz⟩:=apX.1 hv;split at h2
 ·simp at h2;subst h2;refine⟨v,by simp_all[zeroValue,typeInfo],rfl,?_⟩;grind[Array.all_eq_true']
 grind
theorem uL{O}{l:List Value}(h:∀x∈l,x.oneCell'=true):∀(j:Nat) v c,l[j]?=some v->(l.map λx=>V.d (D.v x))[j]?=some c->aC w O m v c:=by
 intro j v c hv hc;rw[apc,hv]at hc;simp at hc;subst hc;exact .d _ _ (.v _ (h v (ape hv)))
theorem Sn(HR:Nat→Nat)(ob:∀bb,HR bb=0∨HR bb=bb+1){dst}{elem}{ty}{pos}{after}{guard}{h}{z}(hz:rQ P elem=some z)(hn:h∉keys s.L):
  ry P n ⟨dst,.alloc elem,ty,pos,after,guard⟩ s (λx s'=>∃b,x= .bp h 0/\s'={s with L:=(h,.box (HR b) elem (z.map λx=> .d (.v x)))::s.L}):=by
 intro fo m a w g;obtain⟨v,bz,hv,kA⟩:=aaC hz w;have hx:∀b,dq (.pointer (some ⟨w.heap.size,0,none⟩)) b->w.heap.size<=b:=by simp[dq,jJ]
 obtain⟨g',st⟩:=g.new (hY.alloc w (.cells v.cells elem)) hn (r:= .box (HR w.heap.size) elem (z.map λx=> .d (.v x))) hx (by
  refine⟨w.heap.size,ob _,v.cells,rfl,heap_alloc_new w _,by grind,?_,?_⟩
  ·grind
  grind[uL])
 refine⟨_,_,_,_,_,_,?_,.inl rfl,⟨w.heap.size,rfl,rfl⟩,.bp h 0 w.heap.size (cq _ _),g',st⟩;simp[execOp,Instr.alloc,bz,newVar,newRow]
theorem ae3{dst}{elem}{ty}{pos}{after}{guard}{h}{z}(hz:rQ P elem=some z)(hn:h∉keys s.L):
  ry P n ⟨dst,.alloc elem,ty,pos,after,guard⟩ s (λx s'=>∃b,x= .bp h 0/\s'={s with L:=(h,.box (b+1) elem (z.map λx=> .d (.v x)))::s.L}):=Sn (· +1) (λ_=> .inr rfl) hz hn
def V.cl:V->Option (List V)
 | .agg cs=>some cs
 | .bA _=>none
 | .gd _ _=>none
 | .any=>none
 | .kn _=>none
 | x=>some [x]
theorem A3{O}{v}{x}{cs}(hr:aC w O m v x)(hc:x.cl=some cs):v.cells.size=cs.length∧(∀u∈v.cells.toList,u.oneCell'=true)∧
  ∀(j:Nat) u c,v.cells[j]?=some u->cs[j]?=some c->aC w O m u c:=by
 have one:∀{v:Value} {x:V},aC w O m v x→v.oneCell'=true→v.cells.size=[x].length∧(∀u∈v.cells.toList,u.oneCell'=true)∧
   ∀(j:Nat) (u:Value) (c:V),v.cells[j]?=some u-> [x][j]?=some c->aC w O m u c:=by
  intro v x hr h1;have hv:v.cells= #[v]:=by cases v<;>first|rfl|grind[Value.oneCell']
  grind
 cases hr with
 | agg vs jB hs h1 h=>
   simp only[V.cl,anc]at hc;subst hc;refine⟨hs,λu hu=>?_,h⟩;obtain⟨j,hj⟩:=List.getElem?_of_mem hu;rw[apN]at hj;exact h1 j u hj
 | d x y h=>simp only[V.cl,anc]at hc;subst hc;exact one (.d _ _ h) (xG h)
 | bp h off b e=>simp only[V.cl,anc]at hc;subst hc;exact one (.bp h off b e) rfl
 | rv h x e e1=>simp only[V.cl,anc]at hc;subst hc;exact one (.rv h _ e e1) e1
 | ep h k i j b o n c e=>simp only[V.cl,anc]at hc;subst hc;exact one (.ep h k i j b o n c e) rfl
 | rp b off cs f hb au rz hr=>simp only[V.cl,anc]at hc;subst hc;exact one (.rp b off cs f hb au rz hr) rfl
 | sv h n b cap e rz hx=>simp only[V.cl,anc]at hc;subst hc;exact one (.sv h n b cap e rz hx) rfl
 | eS fn first eh cf cc s1 s2 h1 h2=>simp only[V.cl,anc]at hc;subst hc;exact one (.eS fn first eh cf cc s1 s2 h1 h2) rfl
 | bA vs cs hs h=>grind[V.cl]
 | gt x y h=>grind[V.cl]
 | gf y=>grind[V.cl]
 | kn x Q h=>grind[V.cl]
 | any x=>grind[V.cl]
theorem acV(HR:Nat→Nat)(ob:∀bb,HR bb=0∨HR bb=bb+1){dst}{elem}{xo}{ty}{pos}{after}{guard}{h}{cs}(hc:(s.ev xo).cl=some cs)(hn:h∉keys s.L):
  ry P n ⟨dst,.box elem xo,ty,pos,after,guard⟩ s (λx s'=>∃b,x= .bp h 0/\s'={s with L:=(h,.box (HR b) elem cs)::s.L}):=by
 intro fo m a w g;have hr:=ck g xo;obtain⟨h1,h2,h3⟩:=A3 hr hc;have hx:∀b,dq (.pointer (some ⟨w.heap.size,0,none⟩)) b->w.heap.size<=b:=by simp[dq,jJ]
 have rT:=hY.alloc w (.cells (a.eval xo).cells elem);obtain⟨g',st⟩:=g.new rT hn (r:= .box (HR w.heap.size) elem cs) hx (by
  refine⟨w.heap.size,ob _,(a.eval xo).cells,rfl,heap_alloc_new w _,h1,?_,?_⟩
  ·grind
  ·intro j u c hu sY;exact(h3 j u c hu sY).mono ⟨rT.size,λb hb _=>rT.block b hb⟩ (CH g.inv hx) (sC g.inv hn _))
 refine⟨_,_,_,_,_,_,?_,.inl rfl,⟨w.heap.size,rfl,rfl⟩,.bp h 0 w.heap.size (cq _ _),g',st⟩;rfl
theorem aiC{dst}{elem}{xo}{ty}{pos}{after}{guard}{h}{cs}(hc:(s.ev xo).cl=some cs)(hn:h∉keys s.L):
  ry P n ⟨dst,.box elem xo,ty,pos,after,guard⟩ s (λx s'=>∃b,x= .bp h 0/\s'={s with L:=(h,.box (b+1) elem cs)::s.L}):=acV (· +1) (λ_=> .inr rfl) hc hn
def putAt(off:Nat)(cs dX:List V):List V:=dX.take off++cs++dX.drop (off+cs.length)
theorem xI{off cs dX}(h:off+cs.length<=dX.length):(putAt off cs dX).length=dX.length:=by
 grind[putAt]
theorem iY{α:Type}(dX cs:List α) off(h:off+cs.length≤dX.length) j:
  (dX.take off++cs++dX.drop (off+cs.length))[j]?=if off<=j/\j<off+cs.length then cs[j-off]? else dX[j]?:=by
 have hm:min off dX.length=off:=by omega
 grind
theorem Uj{dst}{t}{ao xo}{ty}{pos}{after}{guard}{h off b k}{g0}{KS}{cs dX}
  (ht:gD P t=some (g0,k)) (ha:s.ev ao= .bp h off) (hl:s.L.lookup h=some (.box b KS dX)) (hc:(s.ev xo).cl=some cs) (hk:cs.length=k) (ae4:off+k<=dX.length):
  ry P n ⟨dst,.store t ao xo,ty,pos,after,guard⟩ s (λx s'=>x= .any/\s'={s with L:=aI.jA s.L h (.box b KS (putAt off cs dX))}):=by
 intro fo m a w g;have hr:=ck g xo;have Xe:=ck g ao;rw[ha]at Xe;obtain⟨h1,h2,h3⟩:=A3 hr hc;obtain⟨bb,km,hm,cur,mA,hs,kA,nA,fC⟩:=KQ g.inv (dL hl);obtain⟨b',e,hp⟩:=xB Xe;rw[hm]at e;obtain rfl:bb=b':=by grind
 subst hk;have bV:=run_storeCells_at P bb off KS (a.eval xo).cells.toList 0 cur w mA (by grind) h2;obtain⟨_,dW⟩:=p8 ht w;have hlen:(a.eval xo).cells.toList.length=cs.length:=by omega
 simp only[aqi,hlen]at bV;obtain⟨g',st⟩:=g.jA hm (b:=bb) rfl (lE w bb (cur.toList.take off++(a.eval xo).cells.toList++cur.toList.drop (off+cs.length)).toArray) (r:= .box b KS (putAt off cs dX)) (by
  have bu:=λj=>iY cur.toList (a.eval xo).cells.toList off (by grind) j
  have zO:=λj=>iY dX cs off ae4 j
  rw[hlen]at bu;have cQ:bK w (OO fo m) (w.setRow bb (cur.toList.take off++(a.eval xo).cells.toList++cur.toList.drop (off+cs.length)).toArray):=
   ⟨(lE w bb _).size,λc sY ho=>(lE w bb _).block c sY (λe=>ho (.inl ⟨h,_,hm,by simp[dq,jJ,e]⟩))⟩
  refine⟨bb,km,_,rfl,setRow_heap w bb cur _ KS _ mA,?_,?_,?_⟩
  ·grind[xI]
  ·grind
  ·intro j u c hu sY;rw[aqc,bu]at hu;unfold putAt at sY;rw[zO]at sY;refine aC.mono cQ (λ_ _ h=>h) (λ_ _ h=>h) ?_;grind)
 refine⟨.skip,undef,_,_,.any,_,?_,.inr ⟨rfl,rfl⟩,⟨rfl,rfl⟩,.any _,g',st⟩;simp_all[execOp,Instr.storeAt,Instr.sureAddr,storeVar]
end
theorem CI off:∀l j0 (cells:Array Value),off+j0+l.length≤cells.size→
  ((l.zipIdx j0).foldl (λ(cs:Array Value) (p:Value×Nat)=>cs.setIfInBounds (off+p.2) p.1) cells).toList=cells.toList.take (off+j0)++l++cells.toList.drop (off+j0+l.length)
 | [],j0,cells,_=>by simp
 | v::l,j0,cells,h=>by
   simp;rw[CI off l (j0+1) _ (by simp at h⊢;omega)];have e:=list_seg_step cells.toList (off+j0) v l (by omega);simpa[Array.toList_setIfInBounds,aqZ]using e
theorem Nt off(v cells:Array Value)(h:off+v.size≤cells.size):
  (v.zipIdx.foldl (λ(cs:Array Value) (p:Value×Nat)=>cs.setIfInBounds (off+p.2) p.1) cells).toList=cells.toList.take off++v.toList++cells.toList.drop (off+v.size):=by
 have:=CI off v.toList 0 cells (by omega);grind[Array.toList_zipIdx]
def tH(place:Nat->Option (Nat×Nat))(cells:List V):List (Nat×V)->Option (List V×Prop)
 | []=>some (cells,True)
 | (i,x)::rest=>
   match place i,x.cl with
   | some (off,size),some cs=>
     match tH place (putAt off cs cells) rest with
     | some (r,c)=>some (r,(cs.length=size/\off+size<=cells.length)/\c)
     | none=>none
   | _,_=>none
section
variable {P : Program} {w w' : World} {fo : FO} {m m' : Nat -> Option Value} {L : aI} {n : Nat} {s : St} {a : Act}
theorem wB{O}{place}:∀ps qs cells cv {r} {c},
  ps.length=qs.length->(∀(j:Nat) p q,ps[j]?=some p->qs[j]?=some q->p.1=q.1/\aC w O m p.2 q.2)->
  cells.size=cv.length->(∀u∈cells.toList,u.oneCell'=true)->(∀(j:Nat) u c,cells[j]?=some u->cv[j]?=some c->aC w O m u c)->
  tH place cv qs=some (r,c)->c->
  ∃iF,Instr.fill place cells ps=some iF/\iF.size=r.length/\(∀u∈iF.toList,u.oneCell'=true)/\(∀(j:Nat) u c,iF[j]?=some u->r[j]?=some c->aC w O m u c)
 | [],[],cells,cv,r,c,_,_,hs,h1,h2,hf,hc=>by
   cases hf;exact⟨cells,rfl,hs,h1,h2⟩
 | [],_::_,_,_,_,_,hl,_,_,_,_,_,_=>by grind
 | _::_,[],_,_,_,_,hl,_,_,_,_,_,_=>by grind
 | (i,v)::ps,(i',x)::qs,cells,cv,r,c,hl,hr,hs,h1,h2,hf,hc=>by
   obtain⟨hii,fC⟩:=hr 0 (i,v) (i',x) rfl rfl;simp only at hii fC;subst hii;simp only[tH]at hf;split at hf
   ·rename_i off size cs fJ nF;split at hf
    ·rename_i r' c' hf';cases hf;obtain⟨⟨dW,ae4⟩,sY⟩:=hc;obtain⟨g1,g2,g3⟩:=A3 fC nF;have dc:off+v.cells.size<=cells.size:=by omega
     have e1:=Nt off v.cells cells dc;have bu:=λj=>iY cells.toList v.cells.toList off (by omega) j
     have zO:=λj=>iY cv cs off (by omega) j
     obtain⟨iF,k1,k2,k3,k4⟩:=wB ps qs (v.cells.zipIdx.foldl (λ(cs:Array Value) (p:Value×Nat)=>cs.setIfInBounds (off+p.2) p.1) cells) (putAt off cs cv)
      (by grind) (λj p q hp hq=>hr (j+1) p q (by grind) (by grind))
      (by grind[xI,Array.length_toList])
      (by
       grind)
      (by
       intro j u c hu pK;unfold putAt at pK;grind)
      hf' sY
     refine⟨iF,?_,k2,k3,k4⟩;rw[Instr.fill];grind
    grind
   grind
def wi(P:Program)(t:TypeId):Option (List Value×List (Nat×Nat)):=
 match P.info? t,P.underlying t with
 | some it,some (.struct fields)=>
   match it.zero,fields.toList.mapM (λf=>(P.info? f.type).map λi=>(f.offset,i.size))with
   | some z,some places=>if z.cells.all (·.oneCell')then some (z.cells.toList,places)else none
   | _,_=>none
 | some it,some (.array n e)=>
   match it.zero,P.info? e with
   | some z,some ie=>if z.cells.all (·.oneCell')then some (z.cells.toList,(List.range n).map λi=>(i *ie.size,ie.size))else none
   | _,_=>none
 | _,_=>none
def HS(P:Program)(t:TypeId)(qs:List (Nat×V)):Option (V×Prop):=
 match wi P t with
 | some (z,places)=>
   match tH (places[·]?) (z.map λx=> .d (.v x)) qs with
   | some (r,c)=>some (.agg r,c)
   | none=>none
 | none=>none
theorem xJ{p q}:∀l,(∀x∈l,∀y,p x.1=some y->q x.1=some y)->∀{cells iF},Instr.fill p cells l=some iF->Instr.fill q cells l=some iF
 | [],_,_,_,h=>h
 | (i,v)::l,hpq,cells,iF,h=>by
   rw[Instr.fill]at h⊢;cases hp:p i with
   | none=>grind
   | some y=>
     rw[hpq (i,v) (by simp) _ hp];simp only[hp]at h⊢;split at h
     ·cases h
     ·rename_i bR;rw[if_neg bR];exact xJ l (λx hx=>hpq x (by simp[hx])) h
theorem Nu{O}{t}{ps}{qs}{x}{c}(hl:ps.toList.length=qs.length)
  (hr:∀(j:Nat) (p:Nat×Value) (q:Nat×V),ps.toList[j]?=some p->qs[j]?=some q->p.1=q.1/\aC w O m p.2 q.2) (h:HS P t qs=some (x,c)) (hc:c):
  ∃v,(Instr.build t ps).run P w= .ok v w/\aC w O m v x:=by
 unfold HS at h;split at h
 ·rename_i z places hB;split at h
  ·rename_i r c' hf;simp only[anc,ao7]at h;obtain⟨rfl,rfl⟩:=h;unfold wi at hB;split at hB
   ·rename_i it fields iy hu;split at hB
    ·rename_i zz pl hz hp;split at hB
     ·rename_i bS;simp only[anc,ao7]at hB;obtain⟨rfl,rfl⟩:=hB;have kA:∀u∈zz.cells.toList,u.oneCell'=true:=by
       grind[Array.all_eq_true']
      obtain⟨iF,k1,k2,k3,k4⟩:=wB (w:=w) (O:=O) (m:=m) ps.toList qs zz.cells _ hl hr (by simp) kA (by
       grind[uL]) hf hc
      refine⟨.agg iF,run_build w t ps iF ?_,.agg _ _ k2 (λj u hu=>k3 u (ape (by rw[apN];exact hu))) k4⟩;simp_all[Program.built]
     grind
    grind
   ·rename_i it nn e iy hu;split at hB
    ·rename_i zz ie hz Xf;split at hB
     ·rename_i bS;simp only[anc,ao7]at hB;obtain⟨rfl,rfl⟩:=hB;have kA:∀u∈zz.cells.toList,u.oneCell'=true:=by
       grind[Array.all_eq_true']
      obtain⟨iF,k1,k2,k3,k4⟩:=wB (w:=w) (O:=O) (m:=m) ps.toList qs zz.cells _ hl hr (by simp) kA (by
       grind[uL]) hf hc
      refine⟨.agg iF,run_build w t ps iF ?_,.agg _ _ k2 (λj u hu=>k3 u (ape (by rw[apN];exact hu))) k4⟩;unfold Program.built;simp only[iy,hu,hz,Xf];refine xJ ps.toList ?_ k1;grind
     grind
    grind
   grind
  grind
 grind
def kB(P:Program)(t:TypeId):Option (TypeId×Nat×Nat×List Value):=
 match P.underlying t with
 | some (.slice e)=>match P.info? e with
   | some i=>match i.zero with
     | some z=>if z.cells.all (·.oneCell')&&z.cells.size==i.size then some (e,i.size,i.bytes,z.cells.toList)else none
     | none=>none
   | none=>none
 | _=>none
theorem nR{t e}{k by_}{z}(h:kB P t=some (e,k,by_,z)):
  ∃i zv,P.underlying t=some (.slice e)/\P.info? e=some i/\i.zero=some zv/\i.size=k/\i.bytes=by_/\zv.cells.toList=z/\zv.cells.size=k/\∀x∈z,x.oneCell'=true:=by
 unfold kB at h;split at h
 ·split at h
  ·split at h
   ·split at h
    ·grind[Array.all_eq_true']
    grind
   grind
  grind
 grind
theorem oM{z N k q}(hz:z.size=k)(hk:0<k)(hq:q<N):(madeCells z N)[q]?=z[q % k]?:=by
 simp_all[Nat.mod_lt,madeCells]
theorem agW{dst}{t}{lo co}{ty}{pos}{after}{guard}{h k by_}{e}{z}{kl kc}{l c}
  (ht:kB P t=some (e,k,by_,z)) (hl:s.ev lo= .d (.v (.int kl l))) (hc:s.ev co= .d (.v (.int kc c))) (hk:0<k) (hn:h∉keys s.L)
  (h0:0<=l/\l<=c) (hb:c<=maxLen/\by_ *c.toNat<=140737488355328):
  ry P n ⟨dst,.makeSlice t lo co,ty,pos,after,guard⟩ s (λx s'=>x= .rv h/\s'={s with L:=(h,.row e k (List.replicate l.toNat (z.map λx=> .d (.v x))))::s.L}):=by
 intro fo m a w g;obtain⟨i,zv,hu,hi,hz,kW,vB,nS,wj,kA⟩:=nR ht;have sZ:=ck g lo;have Xg:=ck g co;rw[hl]at sZ;rw[hc]at Xg;have vC:c.toNat<=maxLen:=by omega
 have dn:(i.bytes:Int) *c<=281474976710656:=by
  grind
 have bz:=run_make (P:=P) w t e i zv hu hi hz kl kc l c h0.1 h0.2 dn (by simp_all[maxLen]);rw[kW]at bz;have hx:∀b,dq (.slice (some ⟨w.heap.size,0,none⟩) l.toNat c.toNat) b->w.heap.size<=b:=by simp[dq,jJ]
 obtain⟨g',st⟩:=g.new (hY.alloc w (.cells (madeCells zv.cells (c.toNat *k)) e)) hn
  (r:= .row e k (List.replicate l.toNat (z.map λx=> .d (.v x)))) hx (by
   refine .inr ⟨w.heap.size,0,c.toNat,madeCells zv.cells (c.toNat *k),by simp,heap_alloc_new w _,by grind,vC,by simp[madeCells],?_,?_,?_⟩
   ·grind
   ·intro j u Aj;have hj:j<c.toNat *k:=by grind[Array.getElem?_eq_some_iff,madeCells]
    rw[oM wj hk hj]at Aj;grind
   ·intro p q x y u cH hy Aj;have hp:=(apa.1 cH).1;simp at hp;have:=ape cH;rw[List.mem_replicate]at this;obtain⟨_,rfl⟩:=this;have hq:q<k:=by grind
    have hpc:(p+1) *k<=c.toNat *k:=apu _ (by omega);rw[aqk,aqC]at hpc;rw[ap2,oM wj hk (by omega),Nat.mul_comm p k,Nat.mul_add_mod,aqV hq]at Aj;grind[uL])
 refine⟨_,_,_,_,_,_,?_,.inl rfl,⟨rfl,rfl⟩,.rv h _ (cq _ _) rfl,g',st⟩;simp[execOp,sZ.cy,Xg.cy,bz]
theorem Ak{L}{ρ}{du:Operand→V}{dst}{t}{len}{ps}{ty}{pos}{after}{guard}{k by_}{e}{z}{r}{c}{xs}
  (ht:kB P t=some (e,k,by_,z)) (hk:0<k) (hlen:len *k<=2^24)
  (hf:tH (λi=>some (i *k,k)) (List.replicate len (z.map λx=>V.d (.v x))).flatten (ps.toList.map λp=>(p.1,du p.2))=some (r,c)) (hc:c)
  (yR:r=xs.flatten) (Al:xs.length=len) (qd:∀x∈xs,x.length=k) {fo m w} (cp:Inv fo m L w) (hr:∀o,o∈(Op.buildSlice t len ps).operands->aC w (OO fo m) m (ρ o) (du o)):
  ∃v w',(execOp ρ ⟨dst,.buildSlice t len ps,ty,pos,after,guard⟩).run P w= .ok (.value v) w'/\hY w w'/\(∀b,dq v b->w.heap.size<=b)/\v.oneCell'=true/\∀h,h∉keys L->(aV.row e k xs).Holds w' (OO fo (eV m h v)) (eV m h v) v:=by
 obtain⟨i,zv,hu,hi,hz,kW,vB,nS,wj,kA⟩:=nR ht;have hx:∀b,dq (.slice (some ⟨w.heap.size,0,none⟩) len len) b->w.heap.size<=b:=by simp[dq,jJ]
 have agX:∀q,(madeCells zv.cells (len *k))[q]?=if q<len *k then zv.cells[q % k]? else none:=by
  grind[oM,madeCells]
 have agY:∀(N q:Nat),(List.replicate N (z.map λx=>V.d (.v x))).flatten[q]?=if q<N *k then(z.map λx=>V.d (.v x))[q % k]? else none:=by
  intro N
  induction N with
  | zero=>simp
  | succ N ih=>
    intro q;rw[List.replicate_succ,aqP,aqs];have agZ:(z.map λx=>V.d (.v x)).length=k:=by grind
    rw[agZ];split
    ·rename_i hq;rw[if_pos (by grind),aqV hq]
    ·rename_i hq;rw[ih];have:(q-k) % k=q % k:=by simp_all[Nat.mod_eq_sub_mod]
     grind
 obtain⟨iF,k1,k2,k3,k4⟩:=wB (w:=w) (O:=OO fo m) (m:=m) (place:=λi=>some (i *k,k)) (ps.toList.map λp=>(p.1,ρ p.2)) _ (madeCells zv.cells (len *k)) _
  (by simp) (by
   intro j p q hp hq;rw[apc]at hp hq;obtain⟨y,hy,rfl⟩:=ao8.1 hp;rw[hy]at hq;simp only[apB,anc]at hq;subst hq;exact⟨rfl,hr _ (by
    simp only[Op.operands,arD];grind)⟩) (by simp[madeCells,<-nS,wj]) (by
   grind[List.getElem?_of_mem,List.mem_of_getElem?]) (by
   intro j u cc Aj sY;rw[agX]at Aj;rw[agY]at sY;split at Aj
   ·rename_i hj;rw[if_pos hj]at sY;grind[uL]
   grind) hf hc
 subst yR;have dS:∀(xs:List (List V)) (qd:∀x∈xs,x.length=k) (i j:Nat) (x:List V) (y:V),xs[i]?=some x->x[j]?=some y->xs.flatten[i *k+j]?=some y:=by
  intro xs
  induction xs with
  | nil=>simp
  | cons x0 xs ih=>
    intro qd i j x y hx hy;have h0:x0.length=k:=qd x0 (by simp);rw[aqP,aqs];cases i with
    | zero=>
      grind
    | succ i=>
      grind
 have lY:∀(xs:List (List V)),(∀x∈xs,x.length=k)->xs.flatten.length=xs.length *k:=by
  intro xs
  induction xs with
  | nil=>simp
  | cons x0 xs ih=>grind
 have rT:=hY.alloc w (.cells iF e);have FC:len<=maxLen:=by
  have h1:len *1<=len *k:=Nat.mul_le_mul_left _ hk;grind[maxLen]
 refine⟨.slice (some ⟨w.heap.size,0,none⟩) len len,w.alloc (.cells iF e),?_,rT,hx,rfl,λh hn=>?_⟩
 rotate_left
 ·refine .inr ⟨w.heap.size,0,len,iF,by rw[Al],heap_alloc_new w _,by omega,FC,by grind,λi x cH=>qd x (ape cH),?_,?_⟩
  ·grind
  ·intro i j x y u cH hy Aj;rw[ap2]at Aj;exact(k4 _ u y Aj (dS xs qd i j x y cH hy)).mono ⟨rT.size,λb hb _=>rT.block b hb⟩ (CH cp hx) (sC cp hn _)
 by_cases h0:len *k=0
 ·have Nv:len=0:=by
   grind[Nat.mul_eq_zero]
  simp_all[Array.eq_empty_of_size_eq_zero,Instr.fill,madeCells,Array.range_zero',execOp,Instr.buildSlice,run_underlying,sizeOf,typeInfo,newRow]
 simp_all[run_buildSlice,madeCells,execOp,Sem.run_bind,Result.andThen_ok]
theorem QM{dst}{t}{len}{ps}{ty}{pos}{after}{guard}{h k by_}{e}{z}{r}{c}{xs}
  (ht:kB P t=some (e,k,by_,z)) (hk:0<k) (hn:h∉keys s.L) (hlen:len *k<=2^24)
  (hf:tH (λi=>some (i *k,k)) (List.replicate len (z.map λx=>V.d (.v x))).flatten (ps.toList.map λp=>(p.1,s.ev p.2))=some (r,c)) (hc:c)
  (yR:r=xs.flatten) (Al:xs.length=len) (qd:∀x∈xs,x.length=k):
  ry P n ⟨dst,.buildSlice t len ps,ty,pos,after,guard⟩ s (λx s'=>x= .rv h/\s'={s with L:=(h,.row e k xs)::s.L}):=by
 intro fo m a w g;obtain⟨v,w',h1,h2,h3,h4,h5⟩:=Ak ht hk hlen hf hc yR Al qd g.inv (λo _=>ck g o);obtain⟨g',st⟩:=g.new h2 hn h3 (h5 h hn);exact⟨_,v,w',_,_,_,h1,.inl rfl,⟨rfl,rfl⟩,.rv h _ (cq _ _) h4,g',st⟩
theorem Uk{dst}{t}{ao xo}{ty}{pos}{after}{guard}{h k k' i j}{g0}{e}{cs}{xs}
  (ht:gD P t=some (g0,k)) (ha:s.ev ao= .ep h k' i j) (hl:s.L.lookup h=some (.row e k' xs)) (hc:(s.ev xo).cl=some cs) (hk:cs.length=k) (hi:i<xs.length) (hj:j+k<=k'):
  ry P n ⟨dst,.store t ao xo,ty,pos,after,guard⟩ s (λx s'=>x= .any/\s'={s with L:=aI.jA s.L h (.row e k' (xs.set i (putAt j cs (xs[i]?.getD []))))}):=by
 intro fo m a w g;have hr:=ck g xo;have Xe:=ck g ao;rw[ha]at Xe;obtain⟨h1,h2,h3⟩:=A3 hr hc;obtain⟨b,off,cap,cur,hm,mA,lD,pB,dW,hlen,kA,nA,fC⟩:=qb g.inv (dL hl) (by omega);obtain⟨b',o,n',c',e',hp⟩:=CE Xe;rw[hm]at e';simp only[anc,Value.slice.injEq,Addr.mk.injEq]at e';obtain⟨⟨rfl,rfl,_⟩,rfl,rfl⟩:=e';subst hk;have jT:xs[i]?=some xs[i]:=akC hi;have So:=hlen i _ jT;have iE:(i+1) *k'<=cap *k':=apu _ (by omega);rw[aqk,aqC]at iE;have bV:=run_storeCells_at P b (off+i *k'+j) e (a.eval xo).cells.toList 0 cur w mA (by grind) h2;obtain⟨_,anz⟩:=p8 ht w;have acW:(a.eval xo).cells.toList.length=cs.length:=by omega
 simp only [aqi,acW]at bV;obtain⟨g',st⟩:=g.jA hm (b:=b) rfl (lE w b (cur.toList.take (off+i *k'+j)++(a.eval xo).cells.toList++cur.toList.drop (off+i *k'+j+cs.length)).toArray)
   (r:= .row e k' (xs.set i (putAt j cs (xs[i]?.getD [])))) (by
  have bu:=λq=>iY cur.toList (a.eval xo).cells.toList (off+i *k'+j) (by grind) q
  have zO:=λq=>iY xs[i] cs j (by omega) q
  rw[acW]at bu;have cQ:bK w (OO fo m) (w.setRow b (cur.toList.take (off+i *k'+j)++(a.eval xo).cells.toList++cur.toList.drop (off+i *k'+j+cs.length)).toArray):=
   ⟨(lE w b _).size,λc sY ho=>(lE w b _).block c sY (λe=>ho (.inl ⟨h,_,hm,by simp[dq,jJ,e]⟩))⟩
  refine .inr ⟨b,off,cap,_,by simp,setRow_heap w b cur _ e _ mA,by grind,pB,?_,?_,?_,?_⟩
  ·grind
  ·grind[Option.some.injEq,xI]
  ·grind
  ·intro p q x y u hx hy hu;rw[aqc,bu]at hu;refine aC.mono cQ (λ_ _ h=>h) (λ_ _ h=>h) ?_;rw[arA]at hx;split at hx
   ·rename_i Sp;subst Sp;simp only[anc]at hx;subst hx;rw[jT]at hy;simp only[ap3]at hy;unfold putAt at hy;rw[zO]at hy;split at hu
    ·grind
    ·rename_i hq;rw[if_neg (by omega)]at hy;grind
   ·rename_i Sp;have fJ:=(apa.1 hx).1;have hqk:q<k':=by grind
    have bR:¬(off+i *k'+j<=off+p *k'+q/\off+p *k'+q<off+i *k'+j+cs.length):=by
     rintro⟨q1,q2⟩;rcases Nat.lt_or_gt_of_ne Sp with au|au
     ·have:=apu k' (show i+1<=p by omega);grind
     ·have:=apu k' (show p+1<=i by omega);grind
    grind)
 refine⟨.skip,undef,_,_,.any,_,?_,.inr ⟨rfl,rfl⟩,⟨rfl,rfl⟩,.any _,g',st⟩;simp_all[execOp,Instr.storeAt,Instr.sureAddr,storeVar]
end
section
variable {P : Program} {w w' : World} {fo : FO} {m m' : Nat -> Option Value} {L : aI} {n : Nat} {s : St} {a : Act}
structure Src(P:Program) (k:Nat) (x:Value) (N:Nat) (news:List Value) (w:World):Prop where
 len:news.length=N *k
 one:∀u∈news,u.oneCell'=true
 run:∀w',w'.heap=w.heap->(Builtin.lenOf x).run P w'= .ok N w'/\(Builtin.firstCells k N x).run P w'= .ok news.toArray w'
theorem GH{t t2 ty e}{d2}{i}{k}{x}{N}{news}(ht:P.underlying t=some (.slice e))(vD:P.underlying t2=some d2)(ns:(∃e2,d2= .slice e2)∨d2= .string)(hi:P.info? e=some i)(hk:i.size=k)
  (src:Src P k x N news w) {b off sLen sCap cur} (hg:w.heap[b]?=some (.cells cur e (0,0))) (HT:sLen+N<=sCap) (dc:off+sLen *k+news.length<=cur.size):
  (Builtin.append_ #[t,t2] ty #[.slice (some ⟨b,off,none⟩) sLen sCap,x]).run P w=
   .ok (.slice (some ⟨b,off,none⟩) (sLen+N) sCap) (w.setRow b (cur.toList.take (off+sLen *k)++news++cur.toList.drop (off+sLen *k+news.length)).toArray):=by
 obtain⟨h1,h2⟩:=src.run w rfl;have bV:=run_storeCells_at P b (off+sLen *k) e news 0 cur w hg (by omega) src.one;rcases ns with⟨e2,rfl⟩|rfl<;>simp[Builtin.append_,run_underlying ht,run_underlying vD,sizeOf,typeInfo,hi,hk,h1,h2,HT,Addr.add_lit,bV]
theorem sD{t t2 ty e}{d2}{i}{z}{k}{x}{N}{news olds}{ao}{sLen sCap}(ht:P.underlying t=some (.slice e))(vD:P.underlying t2=some d2)(ns:(∃e2,d2= .slice e2)∨d2= .string)(hi:P.info? e=some i)(hk:i.size=k)
  (hz:i.zero=some z) (src:Src P k x N news w) (hold:Src P k (.slice ao sLen sCap) sLen olds w)
  (hg:sCap<sLen+N) (h63:((sLen+N:Nat):Int)<=9223372036854775807) (dc:Builtin.nextslicecap (sLen+N) sCap *i.bytes<=281474976710656):
  (Builtin.append_ #[t,t2] ty #[.slice ao sLen sCap,x]).run P w=
   .ok (.slice (some ⟨w.heap.size,0,none⟩) (sLen+N) (grownCap w (sLen+N) sCap e))
    (w.drew.alloc (.cells (olds.toArray++news.toArray++Builtin.zeroCells z.cells (grownCap w (sLen+N) sCap e-(sLen+N))) e)):=by
 obtain⟨h1,_⟩:=src.run w rfl;obtain⟨_,h2⟩:=src.run w.drew rfl;obtain⟨_,h3⟩:=hold.run w.drew rfl;have hn:=by omega
 have aaD:=by omega
 have aiD:=by omega
 all_goals
   (simp[Builtin.append_,run_underlying ht,run_underlying vD,sizeOf,typeInfo,zeroValue,hi,hk,hz,h1,hn,aaD,aiD,Question.forced,h2,h3,newRow,grownCap]
    grind)
def GI(L:aI)(x:V):Option (List (List V)):=
 match x with
 | .d (.sl ys)=>some (dd ys)
 | .d (.v (.slice none 0 0))=>some []
 | .d (.v (.string s))=>some (dd (s.data.toList.map λb=> [.v (.int .u8 (b.toNat:Nat))]))
 | .rv h=>match L.lookup h with
   | some (.row _ _ xs)=>some xs
   | _=>none
 | _=>none
theorem Src.GJ{k N cap}{b off}{news}(hlen:news.length=N *k)(kA:∀u∈news,u.oneCell'=true)
  (hc:∀(j:Nat) (u:Value),news[j]?=some u->w.cell? ⟨b,off+j,none⟩=some u):Src P k (.slice (some ⟨b,off,none⟩) N cap) N news w:=by
 refine⟨hlen,kA,λw' hw=>⟨rfl,run_firstCells_some w' k N ⟨b,off,none⟩ N cap news hlen λj v hv=>?_⟩⟩;simp_all[Addr.add_lit,World.cell?]
theorem Src.Ul{k cap}:Src P k (.slice none 0 cap) 0 [] w:=⟨by simp,by simp,λw' _=>⟨rfl,by rfl⟩⟩
theorem Src.empty{k cap ao}:Src P k (.slice ao 0 cap) 0 [] w:=by
 refine⟨by simp,by simp,λw' _=>⟨rfl,?_⟩⟩;cases ao<;>simp[Builtin.firstCells,loadCells,loadCellsFrom]
theorem flat_get{α:Type}{k}:∀(xs:List (List α)),(∀x∈xs,x.length=k)->∀q,0<k->xs.flatten[q]?=(xs[q / k]?.bind λx=>x[q % k]?)
 | [],_,q,_=>by simp
 | x0::xs,qd,q,hk=>by
   have h0:=qd x0 (by simp);rw[aqP,aqs,h0];split
   ·rename_i hq;rw[Nat.div_eq_of_lt hq,aqV hq];simp
   ·rw[flat_get xs (λx hx=>qd x (by simp[hx])) (q-k) hk];have e1:q / k=(q-k) / k+1:=by
     rw[Nat.div_eq_sub_div hk (by omega)]
    rw[e1,<-Nat.mod_eq_sub_mod (by omega)];simp
theorem Nw{α:Type}{k}:∀(xs:List (List α)),(∀x∈xs,x.length=k)->xs.flatten.length=xs.length *k
 | [],_=>by simp
 | x0::xs,qd=>by rw[aqP,aph,Nw xs (λx hx=>qd x (by simp[hx])),qd x0 (by simp),apj,aqk];omega
theorem CJ(s:ByteArray):s.data.toList.length=s.size:=by rfl
theorem A4(hi:Inv fo m L w){x}{y}{ys}{k}(hr:aC w (OO fo m) m x y)(h:GI L y=some ys)(hk:0 < k)(vE:∀z∈ys,z.length=k):
  ∃news,Src P k x ys.length news w/\∀(j:Nat) u c,news[j]?=some u->ys.flatten[j]?=some c->aC w (OO fo m) m u c:=by
 unfold GI at h;split at h
 ·rename_i zs;simp only[anc]at h;subst h;obtain⟨ao,cap,rfl,lD,pB,k',b,off,f,ha,rA,hc,hrr⟩:=hr.kU.oL;by_cases h0:zs=[]
  ·subst h0;exact⟨[],by simp[dd,Src.empty],by simp⟩
  ·have iZ:0<zs.length:=apV.2 h0;obtain⟨rfl,hO,au⟩:=ha iZ;have sV:k'=k:=by
    have h1:=rA 0 _ (akC iZ);have h2:=vE (zs[0].map V.d) (by unfold dd;exact apf.2 ⟨_,apk iZ,rfl⟩);rw[<-h1,<-h2];simp
   subst sV;have hlen:(dd zs).length=zs.length:=by simp[dd]
   refine⟨(List.range (zs.length *k')).map λq=>f (q / k') (q % k'),?_,?_⟩
   ·rw[hlen];refine Src.GJ (by simp) ?_ ?_
    ·intro u hu;obtain⟨q,hq,rfl⟩:=apf.1 hu;simp at hq;have h1:q / k'<zs.length:=Nat.div_lt_of_lt_mul (by grind);have h2:q % k'<k':=Nat.mod_lt _ hk;have hg:=akC h1;have:=rA _ _ hg;exact xG (hrr _ _ _ _ hg (akC (by omega)))
    ·intro j u hu;rw[apc]at hu;obtain⟨q,hq,rfl⟩:=ao8.1 hu;grind[List.getElem?_eq_some_iff,Nat.div_lt_of_lt_mul,Nat.mul_comm,Nat.mod_lt,Nat.add_assoc,Nat.div_add_mod]
   ·intro j u c hu rz;rw[apc]at hu;obtain⟨q,hq,rfl⟩:=ao8.1 hu;obtain⟨hj,CK⟩:=apa.1 hq;simp at CK;subst CK;rw[flat_get _ vE _ hk]at rz;obtain⟨z,hz,sX⟩:=apX.1 rz;unfold dd at hz;rw[apc]at hz;obtain⟨z0,hz0,rfl⟩:=ao8.1 hz;rw[apc]at sX;obtain⟨d0,FD,rfl⟩:=ao8.1 sX;exact .d _ _ (hrr _ _ _ _ hz0 FD)
 ·simp only[anc]at h;subst h;rw[hr.cy];exact⟨[],Src.Ul,by simp⟩
 ·rename_i s;simp only[anc]at h;subst h;rw[hr.cy];have kj:k=1\/s.size=0:=by
   cases hl:s.data.toList with
   | nil=>grind[CJ]
   | cons b l=>
     simp_all[dd]
  have hlen:(dd (s.data.toList.map λb=> [D.v (.int .u8 (b.toNat:Nat))])).length=s.size:=by simp[CJ,dd,apx]
  refine⟨s.data.toList.map λb=> .int .u8 (b.toNat:Nat),?_,?_⟩
  ·rw[hlen];refine⟨?_,?_,?_⟩
   ·rw[apx,CJ];grind
   ·intro u hu;obtain⟨b,_,rfl⟩:=apf.1 hu;rfl
   ·intro w' _;refine⟨rfl,?_⟩;simp only[Builtin.firstCells,Sem.run_pure];congr 1;grind[Array.ext',ByteArray.extract_zero_size,Array.toList_map]
  ·intro j u c hu hc;rw[apc]at hu;obtain⟨b,hb,rfl⟩:=ao8.1 hu;have lY:(dd (s.data.toList.map λb=> [D.v (.int .u8 (b.toNat:Nat))])).flatten=s.data.toList.map λb=>V.d (.v (.int .u8 (b.toNat:Nat))):=by
    unfold dd;rw[aqx]
    induction s.data.toList with
    | nil=>rfl
    | cons b l ih=>grind
   rw[lY,apc,hb]at hc;simp only[apB,anc]at hc;subst hc;exact kV _ _
 ·rename_i h';split at h
  ·rename_i ty k' xs hl;simp only[anc]at h;subst h;by_cases h0:xs=[]
   ·subst h0;obtain⟨ao,cap,_,rfl⟩:=Nn hi hl hr;exact⟨[],Src.empty,by simp⟩
   ·have iZ:0<xs.length:=apV.2 h0;obtain⟨b,off,cap,cur,hm,mA,lD,pB,dW,hlen,kA,nA,fC⟩:=qb hi (dL hl) iZ;have:=CF hr;rw[hm]at this;obtain rfl:=ao9 this;have sV:k'=k:=by
     have h1:=hlen 0 _ (akC iZ);grind
    subst sV;have iE:xs.length *k'<=cap *k':=apu _ lD;have CG:∀q,q<xs.length *k'->cur[off+q]?=some (cur.getD (off+q) undef):=λq hq=>by simp[Array.getD,show off+q<cur.size by omega]
    refine⟨(List.range (xs.length *k')).map λq=>cur.getD (off+q) undef,Src.GJ (by simp) ?_ ?_,?_⟩
    ·grind
    ·grind
    ·intro j u c hu rz;rw[apc]at hu;obtain⟨q,hq,rfl⟩:=ao8.1 hu;obtain⟨hj,CK⟩:=apa.1 hq;simp at CK hj;subst CK;rw[flat_get _ vE _ hk]at rz;grind[Option.bind_eq_some_iff,Nat.add_assoc,Nat.mul_comm,Nat.div_add_mod]
  grind
 grind
theorem MB{z}{N q:Nat}{u}(h:(Builtin.zeroCells z N)[q]?=some u):∃p:Nat,z[p]?=some u:=by
 unfold Builtin.zeroCells at h;rw[Array.getElem?_map]at h;obtain⟨r,hr,rfl⟩:=ao8.1 h;have hz:0<z.size:=by
  grind
 have hm:r % z.size<z.size:=Nat.mod_lt _ hz;exact⟨r % z.size,by grind⟩
theorem zP{O}{e}{k}{zv:Value}{z}{olds news:List Value}{xs ys}{cap}(nS:zv.cells.toList=z)(wj:zv.cells.size=k)(kA:∀x∈z,x.oneCell'=true)(hk:0 < k)
  (ho:olds.length=xs.length *k) (FE:news.length=ys.length *k) (CL:∀u∈olds,u.oneCell'=true) (Am:∀u∈news,u.oneCell'=true) (qd:∀x∈xs,x.length=k) (hyk:∀x∈ys,x.length=k)
  (Sq:∀(j:Nat) (u:Value) (c:V),olds[j]?=some u->xs.flatten[j]?=some c->aC w O m u c) (FF:∀(j:Nat) (u:Value) (c:V),news[j]?=some u->ys.flatten[j]?=some c->aC w O m u c)
  (bm:xs.length+ys.length<=cap) (vC:cap<=maxLen) {w0:World} {fr} (mA:fr.heap[w0.heap.size]?=some (.cells (olds.toArray++news.toArray++Builtin.zeroCells zv.cells (cap-(xs.length+ys.length))) e (0,0)))
  {O' m'} (acU:∀u c,aC w O m u c->aC fr O' m' u c):
  (aV.row e k (xs++ys)).Holds fr O' m' (.slice (some ⟨w0.heap.size,0,none⟩) (xs.length+ys.length) cap):=by
 have Ny:∀x∈xs++ys,x.length=k:=by
  grind
 refine .inr ⟨w0.heap.size,0,cap,_,by simp,mA,by grind,vC,?_,λi x hx=>Ny x (ape hx),?_,?_⟩
 ·simp only[Array.size_append,List.size_toArray,size_zeroCells,wj,ho,FE,<-aqk,ap2];grind
 ·grind[List.mem_of_getElem?,MB]
 ·intro i j x y u hx hy hu;rw[ap2]at hu;have hj:j<k:=by grind
  have hi:=(apa.1 hx).1;simp at hi;have hb:(i+1) *k<=(xs.length+ys.length) *k:=apu _ (by omega);have lY:(xs++ys).flatten[i *k+j]?=some y:=by
   rw[flat_get _ Ny _ hk,Nat.mul_comm i k,Nat.mul_add_div hk,Nat.div_eq_of_lt hj,aqi,hx,Nat.mul_add_mod,aqV hj];exact hy
  rw[List.flatten_append,aqs,Nw _ qd]at lY;grind
def sk(P:Program)(t:TypeId):Bool:=
 match P.underlying t with
 | some (.slice _)=>true
 | some .string=>true
 | _=>false
theorem A5{t}(h:sk P t=true):∃d2,P.underlying t=some d2/\((∃e2,d2= .slice e2)\/d2= .string):=by
 unfold sk at h;grind
theorem CM{N by_}(hb:0<by_)(h:N *by_<=140737488355328):N<=maxLen:=by
 have h1:N *1<=N *by_:=Nat.mul_le_mul_left _ hb;grind[maxLen]
theorem adC{dst:Option Tmp}{t t2:TypeId}{so xo:Operand}{ty:TypeId}{pos:String}{after:Array Edge}{guard:Option (Nat×Bool)}{h k by_:Nat}{e e':TypeId}{z:List Value}{xs ys:List (List V)}
  (ht:kB P t=some (e,k,by_,z)) (vD:sk P t2=true) (hs:s.ev so= .rv h) (hl:s.L.lookup h=some (.row e' k xs)) (he:e'=e) (hx:GI s.L (s.ev xo)=some ys) (hk:0<k/\0<by_) (vE:∀y∈ys,y.length=k)
  (hb:(xs.length+ys.length) *by_<=140737488355328):
  ry P n ⟨dst,.call {callee:= .builtin .append,args:= #[so,xo],argTypes:= #[t,t2]},ty,pos,after,guard⟩ s
   (λx s'=>x= .rv h/\s'=⟨(s.kill h).fr,aI.jA (s.kill h).L h (.row e k ((xs++ys).map (V.dU h)))⟩):=by
 intro fo m a w g;subst he;obtain⟨i,zv,hu,hi,hz,kW,vB,nS,wj,kA⟩:=nR ht;obtain⟨d2,nG,ns⟩:=A5 vD;have Nz:=ck g so;rw[hs]at Nz;have wm:=ck g xo;obtain⟨news,src,FF⟩:=A4 (P:=P) g.inv wm hx hk.1 vE;have FC:xs.length+ys.length<=maxLen:=CM hk.2 hb;have sV:∀(l:List (List V)),(∀x∈l,x.length=k)->∀x∈l.map (V.dU h),x.length=k:=by
  intro l hl x hx;obtain⟨y,hy,rfl⟩:=apf.1 hx;rw[iz,apx];exact hl y hy
 have aiE:∀(l:List (List V)),(l.map (V.dU h)).flatten=l.flatten.map (V.kill h):=by
  intro l
  induction l with
  | nil=>rfl
  | cons x l ih=>simp only[apF,aqP,ih,iz,aqd]
 have acX:∀{us:List Value} {l:List (List V)} {v':Value},(∀(j:Nat) (u:Value) (c:V),us[j]?=some u→l.flatten[j]?=some c→aC w (OO fo m) m u c)→
   ∀(j:Nat) (u:Value) (c:V),us[j]?=some u->(l.map (V.dU h)).flatten[j]?=some c->aC w (OO fo m) (eV m h v') u c:=by
  intro us l v' hh j u c hu hc;rw[aiE,apc]at hc;obtain⟨y,hy,rfl⟩:=ao8.1 hc;exact(hh j u y hu hy).kill (λi x hi hx=>by rw[ez v' hi];exact hx)
 obtain⟨sx,Sr,NA⟩:=g.inv.holds h _ (dL hl);have CN:=CF Nz;rw [CN]at Sr;obtain rfl:=ao9 Sr;have ju:∀{v':Value} {w':World},(Builtin.append_ #[t,t2] ty #[a.eval so,a.eval xo]).run P w= .ok v' w'→
   (execOp a.eval ⟨dst,.call {callee:= .builtin .append,args:= #[so,xo],argTypes:= #[t,t2]},ty,pos,after,guard⟩).run P w= .ok (.value v') w':=by
  intro v' w' hr;simp[execOp,resolve,invoke,builtin,hr]
 have grow:∀{ao:Option Addr} {cap:Nat} {olds:List Value},a.eval so= .slice ao xs.length cap→Src P k (.slice ao xs.length cap) xs.length olds w→
   (∀(j:Nat) (u:Value) (c:V),olds[j]?=some u->xs.flatten[j]?=some c->aC w (OO fo m) m u c)->(∀x∈xs,x.length=k)->cap<xs.length+ys.length->
   ∃nx v w' m' x s',(execOp a.eval ⟨dst,.call {callee:= .builtin .append,args:= #[so,xo],argTypes:= #[t,t2]},ty,pos,after,guard⟩).run P w= .ok nx w'/\(nx= .value v\/(nx= .skip/\v=undef))/\
    (x=V.rv h/\s'=⟨(s.kill h).fr,aI.jA (s.kill h).L h (.row e' k ((xs++ys).map (V.dU h)))⟩)/\aC w' (OO fo m') m' v x/\G fo n m' s' a w'/\Step w (own m) w' (own m'):=by
  intro ao cap olds mC hold Sq qd lD;have bz:=sD (P:=P) (ty:=ty) hu nG ns hi kW hz src hold lD (by simp only[maxLen]at FC;omega) (by rw[vB];exact growslice_fits lD hb);have bm:=grownCap_ge w (xs.length+ys.length) cap e';have vC:=grownCap_le_maxLen w (xs.length+ys.length) cap e' FC;have yS:∀b,dq (.slice (some ⟨w.heap.size,0,none⟩) (xs.length+ys.length) (grownCap w (xs.length+ys.length) cap e')) b->dq (a.eval so) b\/w.heap.size<=b:=by
   intro b hb;simp[dq,jJ]at hb;right;omega
  have rT:=hY.alloc w.drew (.cells (olds.toArray++news.toArray++Builtin.zeroCells zv.cells (grownCap w (xs.length+ys.length) cap e'-(xs.length+ys.length))) e');have hh:(aV.row e' k ((xs++ys).map (V.dU h))).Holds (w.drew.alloc (.cells (olds.toArray++news.toArray++Builtin.zeroCells zv.cells (grownCap w (xs.length+ys.length) cap e'-(xs.length+ys.length))) e'))
    (OO fo (eV m h (.slice (some ⟨w.heap.size,0,none⟩) (xs.length+ys.length) (grownCap w (xs.length+ys.length) cap e')))) (eV m h (.slice (some ⟨w.heap.size,0,none⟩) (xs.length+ys.length) (grownCap w (xs.length+ys.length) cap e')))
    (.slice (some ⟨w.heap.size,0,none⟩) (xs.length+ys.length) (grownCap w (xs.length+ys.length) cap e')):=by
   rw[aqd];have:=zP (w:=w) (O:=OO fo m) (m:=eV m h (.slice (some ⟨w.heap.size,0,none⟩) (xs.length+ys.length) (grownCap w (xs.length+ys.length) cap e'))) (e:=e') (k:=k) (zv:=zv) (z:=z) (olds:=olds) (news:=news)
    (xs:=xs.map (V.dU h)) (ys:=ys.map (V.dU h)) (cap:=grownCap w (xs.length+ys.length) cap e') nS wj kA hk.1 (by rw[apx];exact hold.len) (by rw[apx];exact src.len) hold.one src.one (sV _ qd) (sV _ vE)
    (acX Sq) (acX FF) (by simpa using bm) vC (w0:=w)
    (fr:=w.drew.alloc (.cells (olds.toArray++news.toArray++Builtin.zeroCells zv.cells (grownCap w (xs.length+ys.length) cap e'-(xs.length+ys.length))) e'))
    (by simpa using heap_alloc_new w.drew (.cells (olds.toArray++news.toArray++Builtin.zeroCells zv.cells (grownCap w (xs.length+ys.length) cap e'-(xs.length+ys.length))) e'))
    (O':=OO fo (eV m h (.slice (some ⟨w.heap.size,0,none⟩) (xs.length+ys.length) (grownCap w (xs.length+ys.length) cap e'))))
    (m':=eV m h (.slice (some ⟨w.heap.size,0,none⟩) (xs.length+ys.length) (grownCap w (xs.length+ys.length) cap e')))
    (λu c hu=>aC.mono (w:=w) (O:=OO fo m) ⟨rT.size,λb hb _=>rT.block b hb⟩ (by
     rintro b hb (⟨p,y,hy,kI⟩|hf)
     ·by_cases FG:p=h
      ·subst FG;rw[cq]at hy;obtain rfl:=ao9 hy;simp[dq,jJ]at kI;omega
      ·rw[ez _ FG]at hy;exact .inl ⟨p,y,hy,kI⟩
     ·exact .inr hf) (λ_ _ e=>e) hu)
   simpa using this
  obtain⟨g',st⟩:=g.change CN (by rfl) (by rfl) (by rfl) rT.size (λc hc _=>rT.block c hc) yS hh;rw[<-mC]at bz;exact⟨_,_,_,_,_,_,ju bz,.inl rfl,⟨rfl,rfl⟩,.rv h _ (cq _ _) rfl,g',st⟩
 rcases NA with⟨xK,rfl⟩|⟨b,off,cap,cur,mC,mA,lD,pB,dW,hlen,h1,fC⟩
 ·-- nil
  by_cases rB:ys=[]
  ·subst rB;have CO:news=[]:=aqa (by simpa using src.len);subst CO;have bz:(Builtin.append_ #[t,t2] ty #[a.eval so,a.eval xo]).run P w= .ok (.slice none 0 0) w:=by
    obtain⟨q1,q2⟩:=src.run w rfl;simp only[apC]at q1 q2;rw[xK];rcases ns with⟨e2,rfl⟩|rfl<;>simp[Builtin.append_,run_underlying hu,run_underlying nG,sizeOf,typeInfo,hi,kW,q1,q2]
   obtain⟨g',st⟩:=g.change (w':=w) CN rfl rfl rfl (api _) (λ_ _ _=>rfl) (v':= .slice none 0 0) (by intro b hb;simp[dq,jJ]at hb) (r':= .row e' k []) (.inl ⟨rfl,rfl⟩);exact⟨_,_,_,_,_,_,ju bz,.inl rfl,⟨rfl,by simp⟩,.rv h _ (cq _ _) rfl,g',st⟩
  ·exact grow (ao:=none) (cap:=0) (olds:=[]) (by simpa using xK) Src.Ul (by simp) (by simp) (by have:=apV.2 rB;simpa using this)
 ·have qd:∀x∈xs,x.length=k:=by
   intro x hx;obtain⟨j,hj,rfl⟩:=aqF hx;exact hlen j _ (akC hj)
  have iE:xs.length *k<=cap *k:=apu _ lD;have CG:∀q,q<xs.length *k->cur[off+q]?=some (cur.getD (off+q) undef):=λq hq=>by simp[Array.getD,show off+q<cur.size by omega]
  by_cases HT:xs.length+ys.length<=cap
  ·-- there is room
   have aiF:(xs.length+ys.length) *k<=cap *k:=apu _ HT;rw[aqk]at aiF;have CP:=src.len;have bz:=GH (P:=P) (ty:=ty) hu nG ns hi kW src mA (off:=off) (sLen:=xs.length) (sCap:=cap) HT (by omega);rw[<-mC]at bz;have bu:=λq=>iY cur.toList news (off+xs.length *k) (by simp;omega) q
   have wr:=lE w b (cur.toList.take (off+xs.length *k)++news++cur.toList.drop (off+xs.length *k+news.length)).toArray;have yS:∀b',dq (.slice (some ⟨b,off,none⟩) (xs.length+ys.length) cap) b'->dq (a.eval so) b'\/w.heap.size<=b':=by
    intro b' dn;left;rw[mC];exact dn
   have hO:∀c,c<w.heap.size->OO fo (eV m h (.slice (some ⟨b,off,none⟩) (xs.length+ys.length) cap)) c->OO fo m c:=by
    rintro c hc (⟨p,y,hy,kI⟩|hf)
    ·by_cases FG:p=h
     ·subst FG;rw[cq]at hy;obtain rfl:=ao9 hy;exact .inl ⟨p,_,CN,by rw[mC];exact kI⟩
     ·rw[ez _ FG]at hy;exact .inl ⟨p,y,hy,kI⟩
    ·exact .inr hf
   have cQ:bK w (OO fo m) (w.setRow b (cur.toList.take (off+xs.length *k)++news++cur.toList.drop (off+xs.length *k+news.length)).toArray):=
    ⟨wr.size,λc hc ho=>wr.block c hc (λe=>ho (.inl ⟨h,_,CN,by rw[mC];simp[dq,jJ,e]⟩))⟩
   have Ny:∀x∈xs++ys,x.length=k:=by
    intro x hx;rcases apr.1 hx with hx|hx
    ·exact qd x hx
    ·exact vE x hx
   have hh:(aV.row e' k ((xs++ys).map (V.dU h))).Holds (w.setRow b (cur.toList.take (off+xs.length *k)++news++cur.toList.drop (off+xs.length *k+news.length)).toArray)
     (OO fo (eV m h (.slice (some ⟨b,off,none⟩) (xs.length+ys.length) cap))) (eV m h (.slice (some ⟨b,off,none⟩) (xs.length+ys.length) cap)) (.slice (some ⟨b,off,none⟩) (xs.length+ys.length) cap):=by
    refine .inr ⟨b,off,cap,_,by simp,setRow_heap w b cur _ e' _ mA,by simpa using HT,pB,by simp;omega,?_,?_,?_⟩
    ·intro q x hx;exact sV _ Ny x (ape hx)
    ·intro q u hu;rw[aqc,bu]at hu;split at hu
     ·exact src.one u (ape hu)
     ·exact h1 q u (by rw[<-apN];exact hu)
    ·intro p q x y u hx hy hu;rw[aqc,bu]at hu;have hq:q<k:=by have:=(apa.1 hy).1;have:=sV _ Ny x (ape hx);omega
     rw[apc]at hx;obtain⟨x0,ma,rfl⟩:=ao8.1 hx;rw[iz,apc]at hy;obtain⟨y0,rB,rfl⟩:=ao8.1 hy;refine aC.mono cQ hO (λ_ _ e=>e) (aC.kill (m:=m) (λi x hi hx=>by rw[ez _ hi];exact hx) ?_);rw[aqs]at ma;split at ma
     ·rename_i hp;have:=apu k (show p+1<=xs.length by omega);rw[aqk,aqC]at this;rw[if_neg (by omega)]at hu;exact fC p q x0 y0 u ma rB (by rw[<-apN];exact hu)
     ·rename_i hp;have fJ:=(apa.1 ma).1;have e1:p *k=xs.length *k+(p-xs.length) *k:=by rw[<-aqk];congr 1;omega
      have e2:=apu k (show(p-xs.length)+1<=ys.length by omega);rw[aqk,aqC]at e2;rw[if_pos (by omega),show off+p *k+q-(off+xs.length *k)=(p-xs.length) *k+q by omega]at hu;refine FF _ u y0 hu ?_;rw[flat_get _ vE _ hk.1,Nat.mul_comm _ k,Nat.mul_add_div hk.1,Nat.div_eq_of_lt hq,aqi,ma,Nat.mul_add_mod,aqV hq];exact rB
   obtain⟨g',st⟩:=g.change CN wr.os wr.tape wr.output wr.size (λc hc bR=>wr.block c hc (λe=>bR (by rw[mC,e];rfl))) yS hh;exact⟨_,_,_,_,_,_,ju bz,.inl rfl,⟨rfl,rfl⟩,.rv h _ (cq _ _) rfl,g',st⟩
  ·refine grow (ao:=some ⟨b,off,none⟩) (cap:=cap) (olds:=(List.range (xs.length *k)).map λq=>cur.getD (off+q) undef) mC (Src.GJ (by simp) ?_ ?_) ?_ qd (by omega)
   ·intro u hu;obtain⟨q,hq,rfl⟩:=apf.1 hu;simp at hq;exact h1 _ _ (CG q hq)
   ·intro j u hu;rw[apc]at hu;obtain⟨q,hq,rfl⟩:=ao8.1 hu;obtain⟨hj,CK⟩:=apa.1 hq;simp at CK hj;subst CK;simp only[World.cell?,mA];exact CG j hj
   ·intro j u c hu rz;rw[apc]at hu;obtain⟨q,hq,rfl⟩:=ao8.1 hu;obtain⟨hj,CK⟩:=apa.1 hq;simp at CK hj;subst CK;rw[flat_get _ qd _ hk.1]at rz;obtain⟨zz,HO,sX⟩:=apX.1 rz;refine fC (j / k) (j % k) zz c _ HO sX ?_;rw[aqZ,Nat.mul_comm (j / k) k,Nat.div_add_mod];exact CG j hj
end
inductive SK where
 | b
 | i (k:IntKind)
 | s
 deriving DecidableEq
def NB:Value->Value->Option Bool
 | .bool a,.bool b=>some (a==b)
 | .int k a,.int k' b=>if k=k' then some (a==b)else none
 | .string a,.string b=>some (a.toList==b.toList)
 | _,_=>none
def lF:List Value->List Value->Option Bool
 | [],[]=>some true
 | x::l,y::l'=>match NB x y,lF l l' with
   | some a,some b=>some (a&&b)
   | _,_=>none
 | _,_=>none
def NC:SK->Value->Bool
 | .b,.bool _=>true
 | .i k,.int k' _=>k==k'
 | .s,.string _=>true
 | _,_=>false
def fits:List SK->List Value->Bool
 | [],[]=>true
 | k::ks,x::l=>NC k x&&fits ks l
 | _,_=>false
def An(P:Program)(k:TypeId->Option (List SK)):Nat->List Field->Option (List SK)
 | _,[]=>some []
 | o,f::fs=>match k f.type,An P k (o+P.cellsOf f.type) fs with
   | some a,some b=>if f.name≠ "_" /\a.length=P.cellsOf f.type/\f.offset=o then some (a++b)else none
   | _,_=>none
def FH(P:Program):Nat->TypeId->Option (List SK)
 | 0,_=>none
 | m+1,t=>match P.underlying t with
   | some .bool=>some [.b]
   | some (.int k)=>some [.i k]
   | some .string=>some [.s]
   | some (.struct fs)=>if P.stoodInHeld t then none else An P (FH P m) 0 fs.toList
   | _=>none
def valOf(P:Program)(t:TypeId)(xs:List Value):Value:=
 match P.underlying t with
 | some (.struct _)=> .agg xs.toArray
 | _=>xs.headD undef
section
variable {P : Program} {w : World}
theorem GK:∀{a b xs},fits (a++b) xs=true->fits a (xs.take a.length)=true/\fits b (xs.drop a.length)=true
 | [],b,xs,h=>⟨by rfl,by grind⟩
 | k::a,b,[],h=>by grind[fits]
 | k::a,b,x::xs,h=>by
   simp[fits]at h;obtain⟨h1,h2⟩:=GK h.2;exact⟨by simp[fits,h.1,h1],by simpa using h2⟩
theorem od:∀{a xs},fits a xs=true->xs.length=a.length
 | [],[],_=>rfl
 | [],_::_,h=>by grind[fits]
 | _::_,[],h=>by grind[fits]
 | _::a,_::xs,h=>by simp[fits]at h;simp[od h.2]
theorem HU:∀n xs ys {r},xs.length=ys.length->lF xs ys=some r->∃a b,lF (xs.take n) (ys.take n)=some a/\lF (xs.drop n) (ys.drop n)=some b/\r=(a&&b)
 | 0,xs,ys,r,_,h=>⟨true,r,by rfl,by grind,by simp⟩
 | n+1,[],[],r,_,h=>by grind
 | n+1,x::xs,y::ys,r,hl,h=>by
   rw[lF]at h;split at h
   ·rename_i a b h1 h2;obtain⟨c,e,h3,h4,rfl⟩:=HU n xs ys (by grind) h2;simp_all[lF,ary]
   grind
 | n+1,[],_::_,r,hl,_=>by grind
 | n+1,_::_,[],r,hl,_=>by grind
theorem Xh{xs}(h:fits [.b] xs=true):∃a,xs=[.bool a]:=by
 cases xs with
 | nil=>grind[fits]
 | cons x l=>
   have hl:=od h;have:l=[]:=by grind
   subst this;simp[fits]at h;cases x<;>simp[NC]at h
   simp
theorem Xi{k xs}(h:fits [.i k] xs=true):∃a,xs=[.int k a]:=by
 cases xs with
 | nil=>grind[fits]
 | cons x l=>
   have hl:=od h;simp[fits]at h;cases x<;>simp[NC]at h
   grind
theorem Xj{xs}(h:fits [.s] xs=true):∃a,xs=[.string a]:=by
 cases xs with
 | nil=>grind[fits]
 | cons x l=>
   have hl:=od h;have:l=[]:=by grind
   subst this;simp[fits]at h;cases x<;>simp[NC]at h
   simp
theorem CQ{m}{e}{ks}(hk:FH P m e=some ks){xs}{off}(hl:ks.length=P.cellsOf e)(hf:fits ks ((xs.toList.drop off).take ks.length)=true):
  (part e xs off).run P w= .ok (valOf P e ((xs.toList.drop off).take ks.length)) w:=by
 have hlen:=od hf;cases m with
 | zero=>grind[FH]
 | succ m=>
   have one:(∀fs,P.underlying e≠some (.struct fs))->(∀n e',P.underlying e≠some (.array n e'))->ks.length=1->∀kd,P.underlying e=some kd->(part e xs off).run P w= .ok (valOf P e ((xs.toList.drop off).take ks.length)) w:=by
    intro h1 gA h2 kd hu;have hx:∃v,xs[off]?=some v/\(xs.toList.drop off).take 1=[v]:=by
     grind[List.length_take,List.length_drop,Array.getElem?_eq_getElem,List.take_one,List.head?_drop]
    obtain⟨v,hx,ht⟩:=hx;simp_all[valOf,part,isAgg,run_underlying]
   rw[FH]at hk;split at hk
   ·grind
   ·grind
   ·grind
   ·rename_i fs hu;obtain⟨i,hi⟩:=info_of_underlying hu;have hv:valOf P e ((xs.toList.drop off).take ks.length)= .agg ((xs.toList.drop off).take ks.length).toArray:=by
     simp_all[valOf]
    have dW:i.size=P.cellsOf e:=by simp[Program.cellsOf,hi]
    rw[hv];have he:xs.extract off (off+i.size)=((xs.toList.drop off).take ks.length).toArray:=by
     grind
    simp_all[part,isAgg,run_underlying,sizeOf,typeInfo]
   grind
theorem CR{m d}(IH:∀(t:TypeId) (ks:List SK),FH P m t=some ks→∀(xs ys:List Value) (r:Bool),fits ks xs=true→fits ks ys=true→lF xs ys=some r→(Op.equalIn (d+m) t (valOf P t xs) (valOf P t ys)).run P w= .ok r w)
  {xs ys}:∀fs o ks,An P (FH P m) o fs=some ks->fits ks (xs.toList.drop o)=true->fits ks (ys.toList.drop o)=true->∀r,lF (xs.toList.drop o) (ys.toList.drop o)=some r->
   (Op.eqFields (d+m) xs ys fs).run P w= .ok r w
 | [],o,ks,hk,hx,hy,r,hr=>by
   simp only[An,anc]at hk;subst hk;have e1:=od hx;have e2:=od hy;rw[apZ.1 e1,apZ.1 e2]at hr;simp_all[lF,Op.eqFields]
 | f::fs,o,ks,hk,hx,hy,r,hr=>by
   rw[An]at hk;split at hk
   ·rename_i a b ha hb;split at hk
    ·rename_i hc;obtain⟨hn,hl,ho⟩:=hc;simp only[anc]at hk;subst hk;obtain⟨x1,x2⟩:=GK hx;obtain⟨y1,y2⟩:=GK hy;obtain⟨ra,rb,r1,r2,rfl⟩:=HU a.length _ _ (by rw[od hx,od hy]) hr;subst ho;have p1:=CQ (w:=w) ha hl x1;have p2:=CQ (w:=w) ha hl y1;have e1:=IH f.type a ha _ _ ra x1 y1 r1;rw[aqz]at x2 y2 r2;rw[aqz]at r2;rw[hl]at x2 y2 r2;have e2:=CR IH fs _ b hb x2 y2 rb r2;simp only[Op.eqFields,ne_eq,hn,not_false_eq_true,if_true,Sem.run_bind,p1,p2,Result.andThen_ok,e1];cases ra
     ·simp
     grind
    grind
   grind
theorem Ss:∀m d t ks,FH P m t=some ks→∀xs ys r,fits ks xs=true→fits ks ys=true→lF xs ys=some r→
  (Op.equalIn (d+m) t (valOf P t xs) (valOf P t ys)).run P w= .ok r w
 | 0,_,_,_,hk,_,_,_,_,_,_=>by grind[FH]
 | m+1,d,t,ks,hk,xs,ys,r,hx,hy,hr=>by
   rw[FH]at hk;split at hk
   ·simp only[anc]at hk;subst hk;obtain⟨a,rfl⟩:=Xh hx;obtain⟨b,rfl⟩:=Xh hy;simp only[lF,NB,Bool.and_true]at hr;grind[valOf,List.headD_cons,run_equalIn_bool']
   ·simp only[anc]at hk;subst hk;obtain⟨a,rfl⟩:=Xi hx;obtain⟨b,rfl⟩:=Xi hy;simp only[lF,NB,Bool.and_true]at hr;grind[valOf,List.headD_cons,run_equalIn_int]
   ·simp only[anc]at hk;subst hk;obtain⟨a,rfl⟩:=Xj hx;obtain⟨b,rfl⟩:=Xj hy;simp only[lF,NB,Bool.and_true]at hr;grind[valOf,List.headD_cons,run_equalIn_string]
   ·rename_i fs hu;split at hk
    ·cases hk
    ·rename_i bV;have FI:P.fieldsOf t=fs:=by simp[Program.fieldsOf,hu]
     have:=run_equalIn_agg w (d+m) t xs.toArray ys.toArray (by rw[FI];exact hu) (by simpa using bV);simp only[valOf,hu];rw[show d+(m+1)=(d+m)+1 by omega,this,FI];exact CR (λt ks hk xs ys r h1 h2 h3=>Ss m d t ks hk xs ys r h1 h2 h3) fs.toList 0 ks hk (by simpa using hx) (by simpa using hy) r (by simpa using hr)
   grind
def vR:List V->Option (List Value)
 | []=>some []
 | .d (.v x)::l=>match vR l with
   | some r=>some (x::r)
   | none=>none
 | _::_=>none
def ND(P:Program)(t:TypeId):Option (List SK):=
 if P.eqGuardType P.depth t then none else match P.underlying t with
 | some (.struct _)=>FH P 12 t
 | _=>none
def JL(xs ys:List V):Option Bool:=
 match vR xs,vR ys with
 | some a,some b=>lF a b
 | _,_=>none
def wC(ks:List SK)(xs:List V):Bool:=
 match vR xs with
 | some a=>fits ks a
 | none=>false
def HV(P:Program)(op:BinOp)(t:TypeId)(x y:V):Option (V×Prop):=
 match op,x,y with
 | .eql,.agg xs,.agg ys=>match ND P t,JL xs ys with
   | some ks,some r=>some (ki r,wC ks xs=true/\wC ks ys=true)
   | _,_=>none
 | .neq,.agg xs,.agg ys=>match ND P t,JL xs ys with
   | some ks,some r=>some (ki (!r),wC ks xs=true/\wC ks ys=true)
   | _,_=>none
 | _,_,_=>none
theorem GL{O:Nat->Prop}{m:Nat->Option Value}:∀{cs:List V} {as:List Value} (vs:List Value),vR cs=some as->vs.length=cs.length->(∀(j:Nat) (x:Value) (y:V),vs[j]?=some x->cs[j]?=some y->aC w O m x y)->vs=as
 | [],as,[],h,_,_=>by simp only[vR,anc]at h;exact h
 | [],_,_::_,_,hl,_=>by simp at hl
 | _::_,_,[],_,hl,_=>by simp at hl
 | c::cs,as,v::vs,h,hl,hr=>by
   have h0:=hr 0 v c rfl rfl;have ht:∀as',vR cs=some as'->vs=as':=λas' h'=>GL vs h' (by simpa using hl) (λj x y hx hy=>hr (j+1) x y (by simpa using hx) (by simpa using hy))
   cases c with
   | d y=>
     cases y with
     | v u=>
       simp only[vR]at h;split at h
       ·rename_i r tB;simp only[anc]at h;subst h;rw[h0.p6,ht r tB]
       ·cases h
     | _=>simp[vR]at h
   | _=>simp[vR]at h
theorem NF{fo:FO}{m:Nat→Option Value}{op:BinOp}{t:TypeId}{xo yo:Operand}{a b x:V}{c:Prop}(h:HV P op t a b=some (x,c))(hc:c){va vb:Value}(ha:aC w (OO fo m) m va a)(hb:aC w (OO fo m) m vb b):
  ∃v,(do eqGuard op t xo yo va vb;binOp op t va vb:Sem Value).run P w= .ok v w/\aC w (OO fo m) m v x:=by
 have key:∀{xs ys:List V} {ks:List SK} {r:Bool},a= .agg xs→b= .agg ys→ND P t=some ks→JL xs ys=some r→wC ks xs=true→wC ks ys=true→
   ∃us vs:Array Value,va= .agg us/\vb= .agg vs/\P.eqGuardType P.depth t=false/\(Op.equalIn 10000 t (.agg us) (.agg vs)).run P w= .ok r w:=by
  rintro xs ys ks r rfl rfl ht hr f1 f2;generalize e1:V.agg xs=A at ha;generalize e2:V.agg ys=B at hb;cases ha with
  | agg us cs hs h1 h2=>
    cases e1;cases hb with
    | agg vs jB hs' gA lG=>
      cases e2;unfold ND at ht;split at ht
      ·cases ht
      ·rename_i hg;split at ht
       ·rename_i fs hu;refine⟨us,vs,rfl,rfl,by simpa using hg,?_⟩;unfold JL at hr;unfold wC at f1 f2;split at hr
        ·rename_i as bs CS dn;rw[CS]at f1;rw[dn]at f2;have q1:=GL (w:=w) (O:=OO fo m) (m:=m) us.toList CS (by simpa using hs) (λj x y hx hy=>h2 j x y (by simpa using hx) hy);have q2:=GL (w:=w) (O:=OO fo m) (m:=m) vs.toList dn (by simpa using hs') (λj x y hx hy=>lG j x y (by simpa using hx) hy);have:=Ss (P:=P) (w:=w) 12 9988 t ks ht as bs r f1 f2 hr;simp only[valOf,hu,<-q1,<-q2]at this;exact this
        ·cases hr
       ·cases ht
    | _=>cases e2
  | _=>cases e1
 unfold HV at h;split at h
 ·rename_i xs ys;split at h
  ·rename_i ks r hk hr;simp only[anc,ao7]at h;obtain⟨rfl,rfl⟩:=h;obtain⟨us,vs,rfl,rfl,hg,he⟩:=key rfl rfl hk hr hc.1 hc.2;refine⟨.bool r,?_,nE _⟩;rw[Sem.run_bind,run_eqGuard_agg w _ _ _ _ _ _ hg];simp only[Result.andThen_ok,run_eql_struct,he]
  ·cases h
 ·rename_i xs ys;split at h
  ·rename_i ks r hk hr;simp only[anc,ao7]at h;obtain⟨rfl,rfl⟩:=h;obtain⟨us,vs,rfl,rfl,hg,he⟩:=key rfl rfl hk hr hc.1 hc.2;refine⟨.bool (!r),?_,nE _⟩;rw[Sem.run_bind,run_eqGuard_agg w _ _ _ _ _ _ hg];simp only[Result.andThen_ok,run_neq_struct,he]
  ·cases h
 ·cases h
end
section
variable {P : Program} {w w' : World} {fo : FO} {m m' : Nat -> Option Value} {L : aI} {n : Nat} {s : St} {a : Act}
def ay(P:Program)(n:Nat)(ops:Array Oper)(l:List Oper)(s:St)(Q:AX->St->Prop):Prop:=
 ∀fo m0 w0 m a w,Step w0 (own m0) w (own m)->G fo n m s a w->wpListIn (wr fo.r) 0 P ops (gi fo n m0 w0 Q) l a w
theorem G.put(g:G fo n m s a w){dst:Option Tmp}(hd:∀d,dst=some d->d<n){v x}(hr:aC w (OO fo m) m v x):G fo n m (s.put dst x) (a.put dst v) w:=by
 cases dst with
 | none=>exact g
 | some d=>
   refine⟨by simpa[Act.put]using g.size,?_,g.inv,g.defers⟩;intro t y hy;simp[St.put]at hy;rcases hy with⟨rfl,rfl⟩|hy
   ·have:(a.put (some t) v).tmps.getD t undef=v:=by
     have dW:=g.size;simp_all[Act.put]
    grind
   ·obtain⟨hy,bR⟩:=sB hy;obtain⟨h1,h2⟩:=g.fr t y hy;have Ui:d≠t:=λe=>bR e.symm
    simp_all[Act.put]
variable {ops : Array Oper} {Q : AX -> St -> Prop} {o : Oper} {rest : List Oper}
theorem ay.nil(h:Q .normal s):ay P n ops [] s Q:=λ_ _ _ m _ _ st g=> .of m .normal s h g trivial st
theorem s4{r}{Q'}{a}{w w'}{nx}{v}(hw:Region.wanted o (yielded ops a.tmps)=true)(bz:(execOp a.eval o).run P w= .ok nx w')
  (sW:nx= .value v\/(nx= .skip/\v=undef)) (h:wpListIn (wr r) 0 P ops Q' rest (a.put o.dst v) w'):wpListIn (wr r) 0 P ops Q' (o::rest) a w:=by
 unfold wpListIn;grind[xb]
theorem ay.lH{K}(hg:o.guard=none)(hd:∀d,o.dst=some d->d<n)(h:ry P n o s K)(k:∀x s',K x s'->ay P n ops rest (s'.put o.dst x) Q):ay P n ops (o::rest) s Q:=by
 intro fo m0 w0 m a w st g;obtain⟨nx,v,w',m',x,s',bz,sW,hK,hr,g',fK⟩:=h fo m a w g;exact s4 (by simp[Region.wanted,hg]) bz sW (k x s' hK fo m0 w0 m' _ w' (st.trans fK) (g'.put hd hr))
theorem ay.quiet{x}(hg:o.guard=none)(hd:∀d,o.dst=some d->d<n)(h:Xa P o s.ev s.L x)(k:ay P n ops rest (s.put o.dst x) Q):ay P n ops (o::rest) s Q:=by
 intro fo m0 w0 m a w st g;obtain⟨v,bz,hr⟩:=h fo m a.eval w g.inv (λz _=>ck g z);exact s4 (by simp[Region.wanted,hg]) bz (.inl rfl) (k fo m0 w0 m _ w st (g.put hd hr))
def Su(g:Bool)(x:V)(want:Bool):Option (Option Bool):=
 match g with
 | false=>some (some false)
 | true=>match x with
   | oD b=>some (some (b==want))
   | _=>none
@[simp] theorem ah3{x want}:Su false x want=some (some false):=rfl
@[simp] theorem aiG{g b want}:Su g (oD b) want=some (some (g&&(b==want))):=by cases g<;>simp[Su]
theorem NG{g want x r}(h:Su g x want=some r):(g=false/\r=some false)\/∃b,x=oD b/\r=some (g&&(b==want)):=by
 cases g with
 | false=>simp_all
 | true=>
   simp[Su]at h;grind
def fq(ops:Array Oper)(s:St)(o:Oper):Option (Option Bool):=
 match o.guard with
 | none=>some none
 | some (j,want)=>
   match(ops[j]?).bind (·.dst)with
   | some t=>match s.get t with
     | oD b=>some (some (b==want))
     | .gd g x=>Su g x want
     | _=>none
   | none=>none
theorem lg{ops o}(hg:fq ops s o=some none):o.guard=none:=by
 grind[fq,NG]
theorem qQ(g:G fo n m s a w) t:aC w (OO fo m) m (a.tmps.getD t undef) (s.get t):=ck g (.tmp t)
theorem QN{ops}{o:Oper}{j want t}(h:o.guard=some (j,want))(ht:(ops[j]?).bind (·.dst)=some t):t∈o.looksAt ops:=by
 simp_all[Oper.looksAt]
theorem sn{ops}{o:Oper}{s}{w}{fo}{m}{a:Act}(hs:∀t,t∈o.looksAt ops→aC w (OO fo m) m (a.tmps.getD t undef) (s.get t)){b}(h:fq ops s o=some (some b)):
  Region.wanted o (yielded ops a.tmps)=b:=by
 unfold fq at h;split at h
 ·cases h
 ·rename_i j want hg;split at h
  ·rename_i t ht;have hr:=hs t (QN hg ht);have hy:∀b',a.tmps.getD t undef= .bool b'->Region.wanted o (yielded ops a.tmps)=(b'==want):=by
    intro b' dn;have hs:a.tmps[t]?=some (.bool b'):=by
     simp only[aqe]at dn;grind[undef]
    simp_all[Region.wanted,yielded,aqy]
   split at h
   ·rename_i b' jT;simp only[anc]at h;subst h;rw[jT]at hr;exact hy b' hr.cy
   ·rename_i g0 x0 jT;rcases NG h with⟨rfl,hb⟩|⟨b',rfl,hb⟩
    ·simp only[anc]at hb;subst hb;rw[jT]at hr;generalize hv:a.tmps.getD t undef=v at hr;cases hr with
     | gf _=>
       have hs:yielded ops a.tmps j=none:=by
        simp only[yielded,ht,aqy];simp only[aqe]at hv;cases hx:a.tmps[t]? with
        | none=>rfl
        | some x=>rw[hx]at hv;simp only[ap3]at hv;rw[hv];rfl
       simp_all[Region.wanted]
    ·simp only[anc]at hb;subst hb;rw[jT]at hr;generalize hv:a.tmps.getD t undef=v at hr;cases hr with
     | gt _ _ hr=>rw[hy b' (by rw[hv];exact hr.cy)];simp
     | gf _=>
       have hs:yielded ops a.tmps j=none:=by
        simp only[yielded,ht,aqy];simp only[aqe]at hv;cases hx:a.tmps[t]? with
        | none=>rfl
        | some x=>rw[hx]at hv;simp only[ap3]at hv;rw[hv];rfl
       simp_all[Region.wanted]
   grind
  grind
theorem nH(g:G fo n m s a w){b:Bool}(h:fq ops s o=some (some b)):Region.wanted o (yielded ops a.tmps)=b:=sn (λt _=>qQ g t) h
theorem ay.guarded{b}{x}(jC:fq ops s o=some (some b))(hd:∀d,o.dst=some d→d < n)
  (h:b=true->∃du:Operand->V,(∀z,z∈o.op.operands->∀w O m v,aC w O m v (s.ev z)->aC w O m v (du z))/\Xa P o du s.L x) (k:ay P n ops rest (s.put o.dst (.gd b x)) Q):ay P n ops (o::rest) s Q:=by
 intro fo m0 w0 m a w st g;have hw:=nH g jC;cases b with
 | true=>
   obtain⟨du,h1,h2⟩:=h rfl;obtain⟨v,bz,hr⟩:=h2 fo m a.eval w g.inv (λz hz=>h1 z hz _ _ _ _ (ck g z));exact s4 hw bz (.inl rfl) (k fo m0 w0 m _ w st (g.put hd (.gt _ _ hr)))
 | false=>
   unfold wpListIn;rw[if_neg (by grind)];exact⟨λ_ _=>trivial,k fo m0 w0 m _ w st (g.put hd (.gf _))⟩
def CT:Option V->Nat->Option (Nat×Prop)
 | none,d=>some (d,True)
 | some (.d (.v (.int _ l))),_=>some (l.toNat,0<=l)
 | _,_=>none
def HW(P:Program)(t:TypeId)(x:V)(lo hi:Option V):Option (V×Prop):=
 match x with
 | .d (.v (.string s))=>
   if qP P t then match CT lo 0,CT hi s.size with
    | some (l,c1),some (u,c2)=>some (Nh (s.extract l u),(c1/\c2)/\l<=u/\u<=s.size)
    | _,_=>none
   else none
 | .d (.sl xs)=>match nC P t,CT lo 0,CT hi xs.length with
   | some (_,k),some (l,c1),some (u,c2)=>some (.d (.sl ((xs.take u).drop l)),((c1/\c2)/\l<=u/\u<=xs.length)/\∀x∈xs,x.length=k)
   | _,_,_=>none
 | _=>none
theorem HX{isSlice}{len C l u:Nat}{lo hi}(jn:(lo=none∧l=0)∨∃kl,lo=some (.int kl l))(KT:(hi=none∧u=len)∨∃ku,hi=some (.int ku u))(Xk:l≤u)(huC:u≤C):
  (Instr.sliceBounds isSlice len C lo hi none).run P w= .ok (l,u,C) w:=by
 rcases jn with⟨rfl,rfl⟩|⟨kl,rfl⟩<;>rcases KT with⟨rfl,rfl⟩|⟨ku,rfl⟩
 ·rfl
 ·simp[Instr.sliceBounds,Instr.sliceBound,asIntOf,huC]
 ·simp[Instr.sliceBounds,Instr.sliceBound,asIntOf,Xk]
 simp_all[Instr.sliceBounds,Instr.sliceBound,asIntOf]
theorem wD{z ρ}{du:Operand->V}{d l c}(h:CT (z.map du) d=some (l,c))(hc:c)(hr:∀y,z=some y->aC w (OO fo m) m (ρ y) (du y)):(z.map ρ=none/\l=d)\/∃k,z.map ρ=some (.int k l):=by
 cases z with
 | none=>
   simp[CT]at h;exact .inl ⟨rfl,h.1.symm⟩
 | some y=>
   have hy:=hr y rfl;simp at h;generalize du y=v at h hy;unfold CT at h;split at h
   ·grind
   ·rename_i k q h';simp at h';subst h';cases h;exact .inr ⟨k,by simp only[apB];rw[hy.cy,aqX hc]⟩
   grind
theorem NH{t}{xo}{lo hi}{ρ}{du:Operand→V}{x}{c}(h:HW P t (du xo) (lo.map du) (hi.map du)=some (x,c))(hc:c)
  (hx:aC w (OO fo m) m (ρ xo) (du xo)) (jn:∀y,lo=some y->aC w (OO fo m) m (ρ y) (du y)) (KT:∀y,hi=some y->aC w (OO fo m) m (ρ y) (du y)):
  ∃v,(Instr.sliceAt t (ρ xo) (lo.map ρ) (hi.map ρ) none).run P w= .ok v w/\aC w (OO fo m) m v x:=by
 unfold HW at h;split at h
 ·rename_i s hs;rw[hs]at hx;split at h
  ·rename_i ht;split at h
   ·rename_i l c1 u c2 h1 h2;cases h;have hb:=HX (P:=P) (w:=w) (isSlice:=false) (C:=s.size) (wD h1 hc.1.1 jn) (wD h2 hc.1.2 KT) hc.2.1 hc.2.2;exact⟨_,by simp only[Instr.sliceAt,Instr.slice,Sem.run_bind,wA ht w,Result.andThen_ok,hx.cy];simp[hb],Ud _⟩
   grind
  grind
 ·rename_i xs hs;rw[hs]at hx;split at h
  ·rename_i e k l c1 u c2 ht h1 h2;cases h;obtain⟨⟨⟨pL,pK⟩,Xk,hux⟩,hlen⟩:=hc;obtain⟨ao,cap,hv,lD,pB,k',b,off,f,ha,hk,Xl,fC⟩:=hx.kU.oL;obtain⟨NI,vD⟩:=nZ ht w;have hb:=HX (P:=P) (w:=w) (isSlice:=true) (C:=cap) (wD h1 pL jn) (wD h2 pK KT) Xk (by omega);refine⟨_,by simp only[Instr.sliceAt,Instr.slice,Sem.run_bind,NI,vD,Result.andThen_ok,hv,hb];rfl,.d _ _ ?_⟩;have nF:((xs.take u).drop l).length=u-l:=by grind
   refine .sl _ _ _ _ k b (off+l *k) (λi j=>f (l+i) j) nF.symm (by omega) (by omega) ?_ ?_ ?_ ?_
   ·intro h0;obtain⟨e1,e2,e3⟩:=ha (by omega);rw[if_neg (by omega),e1];simp_all[Addr.add_lit]
   ·grind
   ·intro i j hi hj;have au:l+i<xs.length:=by omega
    have sV:k'=k:=by rw[<-hk _ _ (akC au)];grind
    grind
   grind
  grind
 grind
def Ao(P:Program)(t:TypeId):Bool:=
 match P.underlying t with
 | some .bool=>true
 | _=>false
def EM(P:Program)(op:BinOp)(t:TypeId)(x y:V):Option (V×Prop):=
 match op,x,y with
 | .eql,oD a,oD b=>if Ao P t then some (ki (a==b),True)else none
 | .neq,oD a,oD b=>if Ao P t then some (ki (!(a==b)),True)else none
 | _,_,_=>none
def JM(ρ:Operand->V)(c:Call):Option (V×Prop):=
 match c.callee,c.args.toList with
 | .builtin .max,[x,y]=>match ρ x,ρ y with
   | .d (.v (.int k a)),.d (.v (.int _ b))=>some (jt k (if b > a then b else a),True)
   | _,_=>none
 | .builtin .min,[x,y]=>match ρ x,ρ y with
   | .d (.v (.int k a)),.d (.v (.int _ b))=>some (jt k (if b<a then b else a),True)
   | _,_=>none
 | _,_=>none
def CU(P:Program)(t:TypeId):Bool:=
 match P.underlying t with
 | some (.interface _)=>false
 | some _=>true
 | none=>false
def GN:List V->Option (List D)
 | []=>some []
 | .d y::l=>match GN l with
   | some r=>some (y::r)
   | none=>none
 | _::_=>none
theorem JN:∀{l r},GN l=some r->l=r.map .d
 | [],r,h=>by simp_all[GN]
 | x::l,r,h=>by
   unfold GN at h;split at h
   ·rename_i heq;cases heq
   ·rename_i y l' heq;cases heq;split at h
    ·rename_i r' hr;simp at h;subst h;rw[JN hr];rfl
    ·cases h
   ·cases h
def Um(P:Program)(t:TypeId)(x:V):Option (V×Prop):=
 if CU P t then match x with
  | .d (.v v)=>some (.d (.uB t false [.v v]),True)
  | .d (.sl xs)=>some (.d (.uB t false [.sl xs]),True)
  | .agg cs=>match GN cs with
    | some ds=>some (.d (.uB t true ds),True)
    | none=>none
  | _=>none
 else none
def MT(ag:Bool)(cs:List D):V:=if ag then .agg (cs.map .d)else match cs with
 | [y]=> .d y
 | _=> .any
def zeroV(P:Program)(t:TypeId):V:=match(P.info? t).bind (·.zero)with
 | some (.agg cs)=>if cs.all (·.oneCell')then .agg (cs.toList.map λx=> .d (.v x))else .any
 | some x=>if x.oneCell' then .d (.v x)else .any
 | none=> .any
def aaE(P:Program)(t:TypeId):Bool:=((P.info? t).bind (·.zero)).isSome
def MU(P:Program)(x:V)(a:TypeId)(ok:Bool):Option (V×Prop):=
 if CU P a then match x with
  | .d (.uB t ag cs)=>if t=a then(if ok then some (.bA [MT ag cs,oD true],True)else some (MT ag cs,True))
    else if ok&&aaE P a then some (.bA [zeroV P a,oD false],True)else none
  | .d (.v .nilIface)=>if ok&&aaE P a then some (.bA [zeroV P a,oD false],True)else none
  | _=>none
 else none
def yT(P:Program)(t:TypeId):Bool:=
 match P.underlying t with
 | some (.interface _)=>true
 | _=>false
def Un:Operand->Bool
 | .const _=>true
 | _=>false
def HY(P:Program)(op:BinOp)(t:TypeId)(k:Bool)(x y:V):Option (V×Prop):=
 match op,x,y with
 | .eql,.d (.uB ..),.d (.v .nilIface)=>if yT P t then some (ki false,True)else none
 | .neq,.d (.uB ..),.d (.v .nilIface)=>if yT P t then some (ki true,True)else none
 | .eql,.d (.v .nilIface),.d (.v .nilIface)=>if yT P t&&k then some (ki true,True)else none
 | .neq,.d (.v .nilIface),.d (.v .nilIface)=>if yT P t&&k then some (ki false,True)else none
 | _,_,_=>none
def Uo(P:Program)(ρ:Operand->V)(o:Oper):Option (V×Prop):=
 match o.op with
 | .build t ps=>HS P t (ps.toList.map λp=>(p.1,ρ p.2))
 | .binOp op t x y _=>match HV P op t (ρ x) (ρ y)with
   | some r=>some r
   | none=>match HY P op t (Un y) (ρ x) (ρ y)with
     | some r=>some r
     | none=>EM P op t (ρ x) (ρ y)
 | .call c=>JM ρ c
 | .slice t x lo hi none=>HW P t (ρ x) (lo.map ρ) (hi.map ρ)
 | .makeInterface t x=>Um P t (ρ x)
 | .typeAssert x _ a ok=>MU P (ρ x) a ok
 | _=>none
def q2(P:Program)(ρ:Operand->V)(L:aI)(o:Oper):Option (V×Prop):=
 match Uo P ρ o with
 | some r=>some r
 | none=>q1 P ρ L o
theorem MC t a b(h:P.underlying t=some .bool):(binOp .neq t (.bool a) (.bool b)).run P w= .ok (.bool (!(a==b))) w:=by
 have h1:=run_eql_bool (w:=w) t a b h;simp[binOp]at h1⊢;generalize (Op.equal t (.bool a) (.bool b)).run P w=R at h1⊢;cases R with
 | ok u w'=>simp_all
 | _=>simp at h1
theorem MD{op}{t}{xo yo}{a b x}{c}(h:EM P op t a b=some (x,c)){va vb}(ha:aC w (OO fo m) m va a)(hb:aC w (OO fo m) m vb b):
  ∃v,(do eqGuard op t xo yo va vb;binOp op t va vb:Sem Value).run P w= .ok v w/\aC w (OO fo m) m v x:=by
 unfold EM at h;split at h
 ·obtain rfl:=ha.cy;obtain rfl:=hb.cy;split at h
  ·cases h;have hu:P.underlying t=some .bool:=by
    grind[Ao]
   simp_all[eqGuard,run_eql_bool,nE]
  grind
 ·obtain rfl:=ha.cy;obtain rfl:=hb.cy;split at h
  ·cases h;have hu:P.underlying t=some .bool:=by
    grind[Ao]
   simp_all[eqGuard,MC,nE]
  grind
 grind
theorem FJ{t}(h:CU P t=true) w:∃d,(underlying t).run P w= .ok d w/\∀ms,d≠ .interface ms:=by
 unfold CU at h;split at h
 ·cases h
 ·simp_all[run_underlying]
 grind
theorem Up{t}{a x}{c}(h:Um P t a=some (x,c)){va}(ha:aC w (OO fo m) m va a):
  ∃v,(Instr.makeInterface t va).run P w= .ok v w/\aC w (OO fo m) m v x:=by
 unfold Um at h;split at h
 ·rename_i ht;obtain⟨d,hd,Xm⟩:=FJ ht w;have bz:(Instr.makeInterface t va).run P w= .ok (.iface t va) w:=by
   simp only[Instr.makeInterface,Sem.run_bind,hd,Result.andThen_ok]
   first
    | rfl
    | (· rfl)
  refine⟨_,bz,?_⟩;split at h
  ·cases h;have hr:=ha.kU;cases hr with
   | v _ h1=>exact .d _ _ (.Nb t _ _ h1 (.v _ h1))
  ·cases h;have hr:=ha.kU;obtain⟨a',cap,hv,-⟩:=hr.oL;subst hv;exact .d _ _ (.Nb t _ _ rfl hr)
  ·split at h
   ·rename_i ds Xn;cases h;rw[JN Xn]at ha;cases ha with
    | agg vs _ hs h1 hh=>
      refine .d _ _ (.T4 t vs ds (by grind) h1 (λj v y hv hy=>?_));have:=hh j v (.d y) hv (by grind);exact this.kU
   grind
  grind
 grind
theorem Cd{t ms}(h:P.underlying t=some (.interface ms)) d u x:(Op.equalIn (d+1) t (.iface u x) .nilIface).run P w= .ok false w:=by
 simp[Op.equalIn,run_underlying h]
theorem Ce{t ms}(h:P.underlying t=some (.interface ms)) d:(Op.equalIn (d+1) t .nilIface .nilIface).run P w= .ok true w:=by
 simp[Op.equalIn,run_underlying h]
theorem wE{t}(h:yT P t=true):∃ms,P.underlying t=some (.interface ms):=by
 grind[yT]
theorem JO{v t ag cs O}(h:eT w O v (.uB t ag cs)):∃u,v= .iface t u:=by
 cases h<;>exact⟨_,rfl⟩
theorem NJ{op}{t}{xo yo}{a b x}{c}(h:HY P op t (Un yo) a b=some (x,c)){va vb}(ha:aC w (OO fo m) m va a)(hb:aC w (OO fo m) m vb b):
  ∃v,(do eqGuard op t xo yo va vb;binOp op t va vb:Sem Value).run P w= .ok v w/\aC w (OO fo m) m v x:=by
 unfold HY at h;split at h
 ·obtain rfl:=hb.cy;obtain⟨u,rfl⟩:=JO ha.kU;split at h
  ·rename_i ht;obtain⟨ms,hu⟩:=wE ht;cases h;have he:∀t',(Op.equal t (.iface t' u) .nilIface).run P w= .ok false w:=λt'=>Cd hu 9999 t' u
   simp_all[eqGuard,binOp,nE]
  grind
 ·obtain rfl:=hb.cy;obtain⟨u,rfl⟩:=JO ha.kU;split at h
  ·rename_i ht;obtain⟨ms,hu⟩:=wE ht;cases h;have he:∀t',(Op.equal t (.iface t' u) .nilIface).run P w= .ok false w:=λt'=>Cd hu 9999 t' u
   simp_all[eqGuard,binOp,nE]
  grind
 ·obtain rfl:=ha.cy;obtain rfl:=hb.cy;split at h
  ·rename_i ht;rw[apb]at ht;obtain⟨ht,hk⟩:=ht;obtain⟨cv,rfl⟩:∃cv,yo= .const cv:=by
    cases yo<;>first|exact⟨_,rfl⟩|cases hk
   obtain⟨ms,hu⟩:=wE ht;cases h;have he:(Op.equal t .nilIface .nilIface).run P w= .ok true w:=Ce hu 9999;simp_all[eqGuard,pure,binOp,nE]
  grind
 ·obtain rfl:=ha.cy;obtain rfl:=hb.cy;split at h
  ·rename_i ht;rw[apb]at ht;obtain⟨ht,hk⟩:=ht;obtain⟨cv,rfl⟩:∃cv,yo= .const cv:=by
    cases yo<;>first|exact⟨_,rfl⟩|cases hk
   obtain⟨ms,hu⟩:=wE ht;cases h;have he:(Op.equal t .nilIface .nilIface).run P w= .ok true w:=Ce hu 9999;simp_all[eqGuard,pure,binOp,nE]
  grind
 grind
theorem KU{a}(h:aaE P a=true):∃v,(zeroValue a).run P w= .ok v w/\aC w (OO fo m) m v (zeroV P a):=by
 obtain⟨v,hv⟩:=aqb.1 h;obtain⟨i,hi,hz⟩:=apX.1 hv;refine⟨v,by simp_all[zeroValue,typeInfo],?_⟩;unfold zeroV;rw[hv];split
 ·rename_i cs heq;cases heq;split
  ·rename_i bS;rw[Array.all_eq_true']at bS;refine .agg cs _ (by simp) (λj x hx=>bS x (aqL hx)) (λj x y hx hy=>?_);rw[apc,apN,hx]at hy;simp at hy;subst hy;exact .d _ _ (.v _ (bS x (aqL hx)))
  ·exact .any _
 ·rename_i x hx heq;cases heq;split
  ·rename_i h1;exact .d _ _ (.v _ h1)
  ·exact .any _
 grind
theorem Xo{t ag cs v}(h:eT w (OO fo m) v (.uB t ag cs)):∃u,v= .iface t u/\aC w (OO fo m) m u (MT ag cs):=by
 cases h with
 | Nb _ x y hx hr=>exact⟨x,rfl,.d _ _ hr⟩
 | T4 _ vs _ hs h1 hr=>
   refine⟨.agg vs,rfl,.agg vs _ (by grind) h1 (λj x y hx hy=>?_)⟩;rw[apc]at hy;obtain⟨y',nr,rfl⟩:=ao8.1 hy;exact .d _ _ (hr j x y' hx nr)
theorem QO{xt a:TypeId}{ok:Bool}{y x:V}{c:Prop}(h:MU P y a ok=some (x,c)){va:Value}(ha:aC w (OO fo m) m va y):
  ∃v,(Instr.typeAssert va xt a ok).run P w= .ok v w/\aC w (OO fo m) m v x:=by
 unfold MU at h;split at h
 ·rename_i ht;obtain⟨d,hd,Xm⟩:=FJ ht w;have bA:∀(u:Value) (z:V) (b:Bool),aC w (OO fo m) m u z->aC w (OO fo m) m (.tuple #[u,.bool b]) (.bA [z,oD b]):=λu z b hu=>by
   refine .bA _ _ rfl (λj x y hx hy=>?_)
   match j,hx,hy with
   | 0,hx,hy=>simp at hx hy;subst hx;subst hy;exact hu
   | 1,hx,hy=>simp at hx hy;subst hx;subst hy;exact nE _
  split at h
  ·rename_i t ag cs;obtain⟨u,rfl,hu⟩:=Xo ha.kU;split at h
   ·rename_i hta;split at h
    ·rename_i aN;subst aN;simp only[anc,ao7]at h;obtain⟨rfl,_⟩:=h;refine⟨_,?_,bA u _ true hu⟩;cases d with
     | interface ms=>exact(Xm ms rfl).elim
     | _=>simp[Instr.typeAssert,hd,hta]
    ·rename_i aN;simp only[anc,ao7]at h;obtain⟨rfl,_⟩:=h;refine⟨_,?_,hu⟩;cases d with
     | interface ms=>exact(Xm ms rfl).elim
     | _=>simp[Instr.typeAssert,hd,hta,aN]
   ·rename_i hta;split at h
    ·rename_i aN;rw[apb]at aN;obtain⟨rfl,hz⟩:=aN;obtain⟨z,HO,sX⟩:=KU (w:=w) (fo:=fo) (m:=m) hz;simp only[anc,ao7]at h;obtain⟨rfl,_⟩:=h;refine⟨_,?_,bA z _ false sX⟩;cases d with
     | interface ms=>exact(Xm ms rfl).elim
     | _=>simp[Instr.typeAssert,hd,hta,HO]
    ·cases h
  ·obtain rfl:=ha.cy;split at h
   ·rename_i aN;rw[apb]at aN;obtain⟨rfl,hz⟩:=aN;obtain⟨z,HO,sX⟩:=KU (w:=w) (fo:=fo) (m:=m) hz;simp only[anc,ao7]at h;obtain⟨rfl,_⟩:=h;refine⟨_,?_,bA z _ false sX⟩;cases d with
    | interface ms=>exact(Xm ms rfl).elim
    | _=>simp[Instr.typeAssert,hd,HO]
   ·cases h
  ·cases h
 ·cases h
theorem uM{du o x c}(h:q2 P du L o=some (x,c))(hc:c):Xa P o du L x:=by
 unfold q2 at h;split at h
 ·rename_i r h';simp only[anc]at h;subst h;have h:=h';unfold Uo at h;split at h
  ·rename_i t ps aD;intro fo m ρ w hi hr;obtain⟨v,h1,h2⟩:=Nu (w:=w) (m:=m) (O:=OO fo m) (ps:=ps.map λp=>(p.1,ρ p.2)) (by simp) (by
    intro j p q hp hq;rw[apN,Array.getElem?_map]at hp;obtain⟨y,hy,rfl⟩:=ao8.1 hp;rw[apc,apN,hy]at hq;simp only[apB,anc]at hq;subst hq;refine⟨rfl,hr _ ?_⟩;rw[aD];simp only[Op.operands,arD,apf];grind) h hc
   simp_all[execOp]
  ·rename_i op t xo yo ty aD;intro fo m ρ w hi hr;have key:∃v,(do eqGuard op t xo yo (ρ xo) (ρ yo);binOp op t (ρ xo) (ρ yo):Sem Value).run P w= .ok v w/\aC w (OO fo m) m v x:=by
    split at h
    ·rename_i r tB;simp only[anc]at h;subst h;exact NF (w:=w) (fo:=fo) (m:=m) (xo:=xo) (yo:=yo) tB hc (hr xo (by simp_all[Op.operands])) (hr yo (by simp_all[Op.operands]))
    ·split at h
     ·rename_i r tB;simp only[anc]at h;subst h;exact NJ (w:=w) (fo:=fo) (m:=m) (xo:=xo) (yo:=yo) tB (hr xo (by simp_all[Op.operands])) (hr yo (by simp_all[Op.operands]))
     ·exact MD (w:=w) (fo:=fo) (m:=m) (xo:=xo) (yo:=yo) h (hr xo (by simp_all[Op.operands])) (hr yo (by simp_all[Op.operands]))
   obtain⟨v,h1,h2⟩:=key;refine⟨v,?_,h2⟩;rw[Sem.run_bind]at h1;simp only[execOp,aD,Sem.run_bind];simp_all
  ·rename_i cl aD;intro fo m ρ w hi hr;obtain⟨callee,args,argTypes⟩:=cl;unfold JM at h;split at h
   ·rename_i xo yo qc oa;simp only at qc oa;obtain rfl:args= #[xo,yo]:=by grind
    subst qc;have e1:=hr xo (by simp_all[Op.operands,Call.operands]);have e2:=hr yo (by simp_all[Op.operands,Call.operands]);split at h
    ·rename_i k a k' b ha hb;simp only[anc,ao7]at h;obtain⟨rfl,rfl⟩:=h;rw[ha]at e1;rw[hb]at e2;exact⟨_,by simp[execOp,aD,resolve,invoke,builtin,e1.cy,e2.cy,run_max_int2,run_min_int2],kV _ _⟩
    grind
   ·rename_i xo yo qc oa;simp only at qc oa;obtain rfl:args= #[xo,yo]:=by grind
    subst qc;have e1:=hr xo (by simp_all[Op.operands,Call.operands]);have e2:=hr yo (by simp_all[Op.operands,Call.operands]);split at h
    ·rename_i k a k' b ha hb;simp only[anc,ao7]at h;obtain⟨rfl,rfl⟩:=h;rw[ha]at e1;rw[hb]at e2;exact⟨_,by simp[execOp,aD,resolve,invoke,builtin,e1.cy,e2.cy,run_max_int2,run_min_int2],kV _ _⟩
    grind
   grind
  ·rename_i t xo lo hi aD;intro fo m ρ w cm hr;obtain⟨v,h1,h2⟩:=NH (w:=w) (fo:=fo) (m:=m) (ρ:=ρ) h hc (hr xo (by simp_all[Op.operands])) (λy hy=>hr y (by simp_all[Op.operands])) (λy hy=>hr y (by simp_all[Op.operands]));simp_all[execOp]
  ·rename_i t xo aD;intro fo m ρ w hi hr;obtain⟨v,h1,h2⟩:=Up (w:=w) (fo:=fo) (m:=m) h (hr xo (by simp_all[Op.operands]));simp_all[execOp]
  ·rename_i xo xt a ok aD;intro fo m ρ w hi hr;obtain⟨v,h1,h2⟩:=QO (w:=w) (fo:=fo) (m:=m) (xt:=xt) h (hr xo (by simp_all[Op.operands]));simp_all[execOp]
  grind
 grind[aaA]
def EN(P:Program)(s:St)(t:TypeId)(ao xo:Operand):Option (V×St×Prop):=
 match gD P t,(s.ev xo).cl with
 | some (_,k),some cs=>
   match s.ev ao with
   | .bp h off=>match s.L.lookup h with
     | some (.box b KS dX)=>some (.any,{s with L:=aI.jA s.L h (.box b KS (putAt off cs dX))},cs.length=k/\off+k<=dX.length)
     | _=>none
   | .ep h k' i j=>match s.L.lookup h with
     | some (.row e HL xs)=>some (.any,{s with L:=aI.jA s.L h (.row e HL (xs.set i (if j=0/\k=HL then cs else putAt j cs (xs[i]?.getD []))))},(cs.length=k/\i<xs.length)/\j+k<=HL/\k'=HL)
     | _=>none
   | _=>none
 | _,_=>none
def HZ(P:Program)(s:St)(h:Nat)(t:TypeId)(lo co:Operand):Option (V×St×Prop):=
 match kB P t,s.ev lo,s.ev co with
 | some (e,k,by_,z),.d (.v (.int _ l)),.d (.v (.int _ c))=>
   some (.rv h,{s with L:=(h,.row e k (List.replicate l.toNat (z.map λx=> .d (.v x))))::s.L},(0<k/\h∉keys s.L)/\(0<=l/\l<=c)/\(c<=maxLen/\by_ *c.toNat<=140737488355328))
 | _,_,_=>none
def qR(s:St):List (Nat×Operand)->Nat->Option (List (List V))
 | [],_=>some []
 | (i,x)::l,j=>if i=j then match(s.ev x).cl,qR s l (j+1)with
   | some cs,some r=>some (cs::r)
   | _,_=>none
   else none
def A6(P:Program)(s:St)(h0:Nat)(c:Call):Option (V×St×Prop):=
 match c.callee,c.args.toList,c.argTypes.toList with
 | .builtin .append,[so,xo],[t,t2]=>
   match kB P t,GI s.L (s.ev xo)with
   | some (e,k,by_,_),some ys=>
     if sk P t2 then
      match s.ev so with
      | .rv h=>match s.L.lookup h with
        | some (.row e' k' xs)=>some (.rv h,⟨(s.kill h).fr,aI.jA (s.kill h).L h (.row e k ((xs++ys).map (V.dU h)))⟩,((e'=e/\k'=k)/\0<k/\0<by_)/\(∀y∈ys,y.length=k)/\(xs.length+ys.length) *by_<=140737488355328)
        | _=>none
      | .d (.v (.slice none 0 0))=>some (.rv h0,{s with L:=(h0,.row e k ys)::s.L},(0<k/\0<by_/\h0∉keys s.L)/\(∀y∈ys,y.length=k)/\ys.length *by_<=140737488355328)
      | _=>none
     else none
   | _,_=>none
 | _,_,_=>none
end
section
variable {P : Program} {w w' : World} {fo : FO} {m m' : Nat -> Option Value} {L : aI} {n : Nat} {s : St} {a : Act}
theorem hY.refl w:hY w w:=⟨rfl,rfl,rfl,api _,λ_ _=>rfl⟩
theorem Uq{dst}{t t2}{so xo}{ty}{pos}{after}{guard}{h k by_}{e}{z}{ys}
  (ht:kB P t=some (e,k,by_,z)) (vD:sk P t2=true) (hs:s.ev so= .d (.v (.slice none 0 0))) (hn:h∉keys s.L) (hx:GI s.L (s.ev xo)=some ys) (hk:0<k/\0<by_) (vE:∀y∈ys,y.length=k)
  (hb:ys.length *by_<=140737488355328):
  ry P n ⟨dst,.call {callee:= .builtin .append,args:= #[so,xo],argTypes:= #[t,t2]},ty,pos,after,guard⟩ s
   (λx s'=>x= .rv h/\s'={s with L:=(h,.row e k ys)::s.L}):=by
 intro fo m a w g;obtain⟨i,zv,hu,hi,hz,kW,vB,nS,wj,kA⟩:=nR ht;obtain⟨d2,nG,ns⟩:=A5 vD;have mC:=ck g so;rw [hs]at mC;have xK:=mC.cy;have wm:=ck g xo;obtain⟨news,src,FF⟩:=A4 (P:=P) g.inv wm hx hk.1 vE;have FC:ys.length≤maxLen:=CM hk.2 hb;have ju:∀{v':Value} {w':World},(Builtin.append_ #[t,t2] ty #[a.eval so,a.eval xo]).run P w= .ok v' w'→
   (execOp a.eval ⟨dst,.call {callee:= .builtin .append,args:= #[so,xo],argTypes:= #[t,t2]},ty,pos,after,guard⟩).run P w= .ok (.value v') w':=by
  simp_all[execOp,resolve,invoke,builtin]
 by_cases rB:ys=[]
 ·subst rB;have CO:news=[]:=aqa (by simpa using src.len);subst CO;have bz:(Builtin.append_ #[t,t2] ty #[a.eval so,a.eval xo]).run P w= .ok (.slice none 0 0) w:=by
   obtain⟨q1,q2⟩:=src.run w rfl;simp only[apC]at q1 q2;rw[xK];rcases ns with⟨e2,rfl⟩|rfl<;>simp[Builtin.append_,run_underlying hu,run_underlying nG,sizeOf,typeInfo,hi,kW,q1,q2]
  obtain⟨g',st⟩:=g.new (hY.refl w) hn (x:= .slice none 0 0) (r:= .row e k []) (by simp[dq,jJ]) (.inl ⟨rfl,rfl⟩);exact⟨_,_,_,_,_,_,ju bz,.inl rfl,⟨rfl,rfl⟩,.rv h _ (cq _ _) rfl,g',st⟩
 ·have iZ:=apV.2 rB;have bz:=sD (P:=P) (ty:=ty) (ao:=none) (sLen:=0) (sCap:=0) (olds:=[]) hu nG ns hi kW hz src Src.Ul (by omega) (by grind[maxLen]) (by simp_all[growslice_fits]);have bm:=grownCap_ge w (0+ys.length) 0 e;have vC:=grownCap_le_maxLen w (0+ys.length) 0 e (by omega);have yS:∀b,dq (.slice (some ⟨w.heap.size,0,none⟩) (0+ys.length) (grownCap w (0+ys.length) 0 e)) b->w.heap.size<=b:=by
   simp[dq,jJ]
  have rT:hY w (w.drew.alloc (.cells (#[]++news.toArray++Builtin.zeroCells zv.cells (grownCap w (0+ys.length) 0 e-(0+ys.length))) e)):=by
   have:=hY.alloc w.drew (.cells (#[]++news.toArray++Builtin.zeroCells zv.cells (grownCap w (0+ys.length) 0 e-(0+ys.length))) e);exact⟨this.os,this.tape,this.output,this.size,this.block⟩
  obtain⟨g',st⟩:=g.new rT hn (x:= .slice (some ⟨w.heap.size,0,none⟩) (0+ys.length) (grownCap w (0+ys.length) 0 e)) (r:= .row e k ys) yS (by
   have:=zP (w:=w) (O:=OO fo m) (m:=m) (e:=e) (k:=k) (zv:=zv) (z:=z) (olds:=[]) (news:=news) (xs:=[]) (ys:=ys) (cap:=grownCap w (0+ys.length) 0 e) nS wj kA hk.1 (by simp) src.len (by simp) src.one (by simp) vE
    (by simp) FF (by omega) vC (w0:=w) (fr:=w.drew.alloc (.cells (#[]++news.toArray++Builtin.zeroCells zv.cells (grownCap w (0+ys.length) 0 e-(0+ys.length))) e))
    (heap_alloc_new w.drew (.cells (#[]++news.toArray++Builtin.zeroCells zv.cells (grownCap w (0+ys.length) 0 e-(0+ys.length))) e))
    (O':=OO fo (eV m h (.slice (some ⟨w.heap.size,0,none⟩) (0+ys.length) (grownCap w (0+ys.length) 0 e)))) (m':=eV m h (.slice (some ⟨w.heap.size,0,none⟩) (0+ys.length) (grownCap w (0+ys.length) 0 e)))
    (λu c hu=>aC.mono (w:=w) (O:=OO fo m) ⟨rT.size,λb hb _=>rT.block b hb⟩ (CH g.inv yS) (sC g.inv hn _) hu)
   grind)
  rw[<-xK]at bz;exact⟨_,_,_,_,_,_,ju bz,.inl rfl,⟨rfl,rfl⟩,.rv h _ (cq _ _) rfl,g',st⟩
def oN(xs:List (List V))(l h:Nat):List (List V):=(xs.take h).drop l
theorem aaF{dst}{t}{xo}{lo hi}{ty}{pos}{after}{guard}{h k}{e e'}{xs}{l u:Nat}{kl ku}
  (ht:nC P t=some (e,k)) (hs:s.ev xo= .rv h) (hl:s.L.lookup h=some (.row e' k xs))
  (jn:(lo=none/\l=0)\/∃z,lo=some z/\s.ev z= .d (.v (.int kl l))) (KT:(hi=none/\u=xs.length)\/∃z,hi=some z/\s.ev z= .d (.v (.int ku u))) (Xk:l<=u) (hux:u<=xs.length):
  ry P n ⟨dst,.slice t xo lo hi none,ty,pos,after,guard⟩ s
   (λx s'=>x= .rv h/\s'=⟨(s.kill h).fr,aI.jA (s.kill h).L h (.row e' k ((oN xs l u).map (V.dU h)))⟩):=by
 intro fo m a w g;have Nz:=ck g xo;rw[hs]at Nz;have CN:=CF Nz;obtain⟨sx,Sr,NA⟩:=g.inv.holds h _ (dL hl);rw[CN]at Sr;obtain rfl:=ao9 Sr;obtain⟨NI,vD⟩:=nZ ht w;have sZ:∀{C:Nat},u<=C->(Instr.sliceBounds true xs.length C (lo.map a.eval) (hi.map a.eval) none).run P w= .ok (l,u,C) w:=by
  intro C huC;have h1:∀z,s.ev z= .d (.v (.int kl l))->a.eval z= .int kl l:=λz hz=>by have:=ck g z;rw[hz]at this;exact this.cy
  have h2:∀z,s.ev z= .d (.v (.int ku u))->a.eval z= .int ku u:=λz hz=>by have:=ck g z;rw[hz]at this;exact this.cy
  rcases jn with⟨rfl,rfl⟩|⟨z,rfl,hz⟩<;>rcases KT with⟨rfl,rfl⟩|⟨z',rfl,Ap⟩
  ·rfl
  ·simp_all[Instr.sliceBounds,Instr.sliceBound,asIntOf]
  ·simp_all[Instr.sliceBounds,Instr.sliceBound,asIntOf]
  simp_all[Instr.sliceBounds,Instr.sliceBound,asIntOf]
 have acY:∀{ao:Option Addr} {C:Nat},a.eval xo= .slice ao xs.length C→u≤C→
   (execOp a.eval ⟨dst,.slice t xo lo hi none,ty,pos,after,guard⟩).run P w= .ok (.value (.slice (if C=l then ao else ao.map (·.add (l *k))) (u-l) (C-l))) w:=by
  simp_all[execOp,Instr.sliceAt,Instr.slice,Sem.run_bind,Result.andThen_ok,ark]
 have nF:(oN xs l u).length=u-l:=by grind[oN]
 have hcg:∀(i:Nat) (x:List V),(oN xs l u)[i]?=some x->i<u-l/\xs[l+i]?=some x:=by
  grind[oN]
 rcases NA with⟨xK,rfl⟩|⟨b,off,cap,cur,mC,mA,lD,pB,dW,hlen,h1,fC⟩
 ·have NK:u=0:=by grind
  subst NK;have Nv:l=0:=by omega
  subst Nv;have bz:=acY (ao:=none) (C:=0) (by omega) (by omega);obtain⟨g',st⟩:=g.change (w':=w) CN rfl rfl rfl (api _) (λ_ _ _=>rfl) (v':= .slice none 0 0) (by grind) (r':= .row e' k []) (.inl ⟨rfl,rfl⟩);refine⟨_,_,_,_,_,_,bz,.inl rfl,⟨rfl,by rfl⟩,?_,g',st⟩;exact .rv h _ (by simp[cq]) rfl
 ·have bz:=acY mC (by omega);have hv':(if cap=l then(some (⟨b,off,none⟩:Addr))else(some (⟨b,off,none⟩:Addr)).map (·.add (l *k)))=some ⟨b,if cap=l then off else off+l *k,none⟩:=by
   grind[Addr.add_lit]
  rw[hv']at bz;have yS:∀b',dq (.slice (some ⟨b,if cap=l then off else off+l *k,none⟩) (u-l) (cap-l)) b'->dq (a.eval xo) b'\/w.heap.size<=b':=by
   intro b' dn;left;rw[mC];exact dn
  have iE:(cap-l) *k+l *k=cap *k:=by rw[<-aqk];grind
  have hh:(aV.row e' k ((oN xs l u).map (V.dU h))).Holds w (OO fo (eV m h (.slice (some ⟨b,if cap=l then off else off+l *k,none⟩) (u-l) (cap-l)))) (eV m h (.slice (some ⟨b,if cap=l then off else off+l *k,none⟩) (u-l) (cap-l)))
    (.slice (some ⟨b,if cap=l then off else off+l *k,none⟩) (u-l) (cap-l)):=by
   refine .inr ⟨b,if cap=l then off else off+l *k,cap-l,cur,by grind,mA,by grind,by omega,?_,?_,h1,?_⟩
   ·grind
   ·intro i x hx;rw[apc]at hx;obtain⟨x0,ma,rfl⟩:=ao8.1 hx;grind[iz,List.length_map]
   ·intro i j x y v hx hy hv;rw[apc]at hx;obtain⟨x0,ma,rfl⟩:=ao8.1 hx;rw[iz,apc]at hy;obtain⟨y0,rB,rfl⟩:=ao8.1 hy;obtain⟨cm,iR⟩:=hcg i x0 ma;have bR:¬cap=l:=by omega
    rw[if_neg bR]at hv⊢;have:=fC (l+i) j x0 y0 v iR rB (by grind);refine aC.mono (w:=w) (O:=OO fo m) (bK.refl w _) ?_ (λ_ _ e=>e) (aC.kill (m:=m) (λi x hi hx=>by simp_all[ez]) this);rintro c hc (⟨p,y,hy,kI⟩|hf)
    ·by_cases FG:p=h
     ·subst FG;rw[cq]at hy;obtain rfl:=ao9 hy;exact .inl ⟨p,_,CN,by grind⟩
     ·rw[ez _ FG]at hy;exact .inl ⟨p,y,hy,kI⟩
    ·exact .inr hf
  obtain⟨g',st⟩:=g.change (w':=w) CN rfl rfl rfl (api _) (λ_ _ _=>rfl) yS hh;exact⟨_,_,_,_,_,_,bz,.inl rfl,⟨rfl,rfl⟩,.rv h _ (cq _ _) rfl,g',st⟩
end
section
variable {P : Program} {w w' : World} {fo : FO} {m m' : Nat -> Option Value} {L : aI} {n : Nat} {s : St} {a : Act}
def Ur:V->Option (Bool×List D)
 | .agg cs=>(GN cs).map λl=>(true,l)
 | .d x=>some (false,[x])
 | _=>none
def CV(es:List ME)(k:Value)(g:Bool)(cs:List D):List ME:=
 if es.any (λe=>sh e.1 k)then es.map (λe=>if sh e.1 k then(k,g,cs)else e)else es++ [(k,g,cs)]
theorem aaG{O v x k g cs}(hr:aC w O m v x)(h:Ur x=some (g,cs)):aC w O (λ_=>none) v (ME.val (k,g,cs)):=by
 unfold Ur at h;split at h
 ·obtain⟨l,hl,he⟩:=ao8.1 h;cases he;rw[JN hl]at hr;cases hr with
  | agg vs _ hs h1 hh=>
    refine .agg vs _ hs h1 (λj x y hx hy=>?_);have:=hh j x y hx hy;rw[apc]at hy;obtain⟨z,_,rfl⟩:=ao8.1 hy;exact .d _ _ this.kU
 ·cases h;exact .d _ _ hr.kU
 grind
def sE(P:Program)(s:St)(t:TypeId)(mo ko vo:Operand):Option (V×St×Prop):=
 match tyM P t,s.ev mo,s.ev ko,Ur (s.ev vo)with
 | some (d,_),.rv h,.d (.v k),some (g,cs)=>match s.L.lookup h with
   | some (.mp es)=>some (.any,{s with L:=aI.jA s.L h (.mp (CV es k g cs))},mv d k=true/\JJ d es=true)
   | _=>none
 | _,_,_,_=>none
theorem aaH{dst}{t ty}{pos}{after}{guard}{h}(hn:h∉keys s.L):
  ry P n ⟨dst,.makeMap t none,ty,pos,after,guard⟩ s (λx s'=>x= .rv h/\s'={s with L:=(h,.mp [])::s.L}):=by
 intro fo m a w g;have hx:∀b,dq (.map (some w.heap.size)) b->w.heap.size<=b:=by simp[dq,jJ]
 obtain⟨g',st⟩:=g.new (hY.alloc w (.map #[] 0)) hn (r:= .mp []) hx ⟨w.heap.size,#[],0,rfl,(MapKept.heap_alloc w _).1,rfl,by simp,by simp⟩;refine⟨_,_,_,_,_,_,?_,.inl rfl,⟨rfl,rfl⟩,.rv h _ (cq _ _) rfl,g',st⟩;rfl
theorem MF{t}{mo ko vo}(a:Act) dst ty pos after guard op(aD:op= .mapUpdate t mo ko vo∨op= .insert t mo ko vo)(h:(Instr.mapUpdate t (a.eval mo) (a.eval ko) (a.eval vo)).run P w= .ok () w'):
  (execOp a.eval ⟨dst,op,ty,pos,after,guard⟩).run P w= .ok .skip w':=by
 rcases aD with rfl|rfl<;>simp[execOp,h]
theorem Sv{dst}{t ty}{pos}{after}{guard}{op}{mo ko vo}(aD:op= .mapUpdate t mo ko vo∨op= .insert t mo ko vo){x}{s1}{c}(h:sE P s t mo ko vo=some (x,s1,c))(hc:c):
  ry P n ⟨dst,op,ty,pos,after,guard⟩ s (λx' s'=>x'=x/\s'=s1):=by
 intro fo m a w gG;unfold sE at h;split at h
 ·rename_i d e hh k g cs htm hm hk hv;split at h
  ·rename_i es hl;simp only[anc,ao7]at h;obtain⟨rfl,rfl,rfl⟩:=h;have r1:=ck gG mo;have r2:=ck gG ko;have r3:=ck gG vo;rw[hm]at r1;rw[hk]at r2;have ek:=r2.cy;obtain⟨u,hu,r,arr,clock,rfl,hb,hs,gz,GD⟩:=gG.inv.holds hh _ (dL hl);have em:a.eval mo= .map (some r):=by
    generalize a.eval mo=vm at r1;cases r1 with
    | rv _ _ e _=>grind
   obtain⟨kt,kj,rP⟩:=Nj htm w;have KO:=MapKept.run_checkKey (P:=P) (w:=w) rP (tF hc.1) false 9999;have hkt:=MapKept.run_keyThatStays (P:=P) (w:=w) (tF hc.1);have JP:=aaG (k:=k) r3 hv;have au:r<w.heap.size:=(apn.1 hb).1;have wrote:∀o,EL w r {w with heap:=w.heap.setIfInBounds r o}:=λo=>⟨rfl,rfl,rfl,by simp,λc _ bR=>by grind⟩
   have rJ:∀o,bK w (OO fo m) {w with heap:=w.heap.setIfInBounds r o}:=λo=>⟨by simp,λb _ dn=>by
    have:b≠r:=λe=>dn (.inl ⟨hh,_,hu,e.symm⟩)
    grind⟩
   have fin:∀o:Obj,(Instr.mapUpdate t (a.eval mo) (a.eval ko) (a.eval vo)).run P w= .ok () {w with heap:=w.heap.setIfInBounds r o}→Nc (CV es k g cs) {w with heap:=w.heap.setIfInBounds r o} (OO fo m) (.map (some r))→
     ∃nx v w' m' x s',(execOp a.eval ⟨dst,op,ty,pos,after,guard⟩).run P w= .ok nx w'/\(nx= .value v\/(nx= .skip/\v=undef))/\(x= .any/\s'={s with L:=aI.jA s.L hh (.mp (CV es k g cs))})/\
     aC w' (OO fo m') m' v x/\G fo n m' s' a w'/\Step w (own m) w' (own m'):=by
    intro o h1 h2;obtain⟨g',st⟩:=gG.jA hu (b:=r) rfl (wrote o) (r:= .mp (CV es k g cs)) h2;exact⟨.skip,undef,_,m,.any,_,MF a dst ty pos after guard op aD h1,.inr ⟨rfl,rfl⟩,⟨rfl,rfl⟩,.any _,g',st⟩
   rw[em,ek]at fin;rcases A0 (w:=w) (O:=OO fo m) hc.1 es arr.toList (by omega) hc.2 (λi a e ha he=>GD i a e (by grind) he) 0 with⟨q1,q2,q3⟩|⟨j,v,y,a',e',q1,q2,q3,q4,q5,q6,q7⟩
   ·have hf:=MapKept.run_findKey (P:=P) (w:=w) rP q1;have Xp:CV es k g cs=es++ [(k,g,cs)]:=by
     unfold CV;grind
    refine fin (.map (arr.push {key:=k,val:=a.eval vo,born:=clock}) (clock+1)) ?_ ?_
    ·simp[Instr.mapUpdate,kj,MapKept.run_getObj_map hb,KO,hf,MapKept.run_setObj_map _ hb,Result.andThen,Sem.run_bind]
    ·rw[Xp];refine⟨r,(arr.push {key:=k,val:=a.eval vo,born:=clock}),(clock+1),rfl,by grind,by grind,?_,?_⟩
     ·rw[aqd,aqE];refine⟨gz,by simp,?_⟩;rintro x hx y hy rfl;simp only[apF,List.map_nil,aqJ]at hy;subst hy;obtain⟨e,he,rfl⟩:=apf.1 hx;have h1:=q3 e he;have h2:=(p9 (apd.1 hc.2 e he) hc.1).2 rfl;grind
     ·intro i a e ha he;rw[Array.getElem?_push]at ha;rw[aqs]at he;split at ha
      ·rename_i hi;rw[if_neg (by omega),show i-es.length=0 by omega]at he;simp only[apE,anc]at ha he;subst ha;subst he;exact⟨rfl,JP.mono (rJ _) (λ_ _ h=>h) (λ_ _ e=>e)⟩
      ·rename_i hi;have cm:i<arr.size:=(apn.1 ha).1;rw[if_pos (by omega)]at he;obtain⟨p1,p2⟩:=GD i a e ha he;exact⟨p1,p2.mono (rJ _) (λ_ _ h=>h) (λ_ _ e=>e)⟩
   ·have hf:=MapKept.run_findKey (P:=P) (w:=w) rP q1;have Sw:arr[j]?=some a':=by grind
    have Xp:CV es k g cs=es.map (λe=>if sh e.1 k then(k,g,cs)else e):=by
     unfold CV;rw[if_pos];grind[List.any_eq_true,List.mem_of_getElem?,p9,List.all_eq_true]
    have pJ:(es.map (λe=>if sh e.1 k then((k,g,cs):ME)else e)).map (·.1)=es.map (·.1):=by
     rw[aqx];apply List.map_congr_left;intro e he;simp only[Function.comp_apply];split
     ·rename_i h;exact((p9 (apd.1 hc.2 e he) hc.1).1 h).symm
     ·rfl
    refine fin (.map (arr.modify j λe=>{e with key:=k,val:=a.eval vo}) clock) ?_ ?_
    ·simp[Instr.mapUpdate,kj,MapKept.run_getObj_map hb,KO,hf,Sw,q6,hkt,MapKept.run_setObj_map _ hb,Result.andThen,Sem.run_bind]
    ·rw[Xp];refine⟨r,(arr.modify j λe=>{e with key:=k,val:=a.eval vo}),clock,rfl,by grind,by grind,by grind,?_⟩;intro i a e ha he;rw[apc]at he;obtain⟨e0,ru,rfl⟩:=ao8.1 he;rw[Array.getElem?_modify]at ha;by_cases NL:j=i
     ·subst NL;rw[if_pos rfl,Sw]at ha;simp only[apB,anc]at ha;rw[q5]at ru;obtain rfl:=ao9 ru;subst ha;rw[if_pos ((p9 (apd.1 hc.2 e' (ape q5)) hc.1).2 q7)];exact⟨rfl,JP.mono (rJ _) (λ_ _ h=>h) (λ_ _ e=>e)⟩
     ·rw[if_neg NL]at ha;have bR:sh e0.1 k=false:=by
       cases hq:sh e0.1 k with
       | false=>rfl
       | true=>
         have h1:=(p9 (apd.1 hc.2 e0 (ape ru)) hc.1).1 hq;have h2:(es.map (·.1))[i]?=some k:=by grind
         have h3:(es.map (·.1))[j]?=some k:=by grind
         grind[List.getElem?_eq_some_iff,List.getElem?_inj]
      rw[bR];obtain⟨p1,p2⟩:=GD i a e0 ha ru;exact⟨p1,p2.mono (rJ _) (λ_ _ h=>h) (λ_ _ e=>e)⟩
  grind
 grind
end
end Go.Ab

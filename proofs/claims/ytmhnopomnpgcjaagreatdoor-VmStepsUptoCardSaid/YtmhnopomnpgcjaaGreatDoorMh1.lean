/-
  The texts A B C Mp D E F G H Eq I J Mq, one behind the other.
-/
import Derived.WalkKit
import Derived.Calls
import Derived.TacticsIn
import Derived.OrdersIn
import Derived.MapKept
import Derived.Great.BuildSlice
import Derived.Laws.StructEq
import Derived.Laws.Small
set_option linter.unusedSimpArgs false
set_option linter.unusedVariables false
namespace Go.Ab
abbrev Q0:Option (Nat×Nat):=some (0,0)
abbrev Q3:Option (Nat×Nat):=some (0,1)
abbrev arb:Option (Nat×Nat):=some (1,1)
abbrev arc:Option (Nat×Nat):=some (0,2)
abbrev ard:Option (Nat×Nat):=some (2,2)
abbrev arf:Option (Nat×Nat):=some (0,3)
abbrev arh:Option (Nat×Nat):=some (1,2)
abbrev akC:=@List.getElem?_eq_getElem
abbrev anc:=@Option.some.injEq
abbrev aoI:=@Prod.mk.injEq
abbrev aoJ:=@Option.map_eq_some_iff
abbrev aoK:=@Option.some.inj
abbrev aoL:=@List.getElem?_eq_some_iff
abbrev aoM:=@Bool.and_eq_true
abbrev aoN:=@List.getElem?_map
abbrev aoO:=@List.mem_of_getElem?
abbrev aoP:=@List.all_eq_true
abbrev aoQ:=@List.mem_map
abbrev aoR:=@Nat.lt_or_eq_of_le
abbrev aoS:=@List.length_append
abbrev aoT:=@Nat.le_refl
abbrev aoU:=@List.length_cons
abbrev aoV:=@List.getElem_mem
abbrev aoW:=@List.mem_cons_of_mem
abbrev aoX:=@List.cons_append
abbrev aoY:=@Array.getElem?_eq_some_iff
abbrev aoZ:=@List.mem_cons_self
abbrev ao0:=@List.mem_cons
abbrev ao1:=@List.mem_append
abbrev ao2:=@Nat.lt_succ_self
abbrev ao3:=@Nat.lt_of_lt_of_le
abbrev ao4:=@Nat.mul_le_mul_right
abbrev ao5:=@List.take_append_drop
abbrev ao6:=@ByteArray.size_append
abbrev ao7:=@Array.getElem?_eq_getElem
abbrev ao8:=@List.length_map
abbrev ao9:=@List.map_cons
abbrev apa:=@Int.tmod_eq_emod_of_nonneg
abbrev apb:=@List.append_assoc
abbrev apc:=@Option.map_some
abbrev apd:=@List.length_nil
abbrev ape:=@List.getElem?_cons_zero
abbrev apf:=@List.mem_append_left
abbrev apg:=@List.length_take
abbrev aph:=@Bool.false_eq_true
abbrev api:=@List.take_add_one
abbrev apj:=@List.nil_append
abbrev apk:=@List.append_nil
abbrev apl:=@List.take_length
abbrev apm:=@Array.getElem?_toList
abbrev apn:=@List.mem_append_right
abbrev apo:=@List.sizeOf_lt_of_mem
abbrev apq:=@List.getElem?_append_left
abbrev apr:=@Nat.le_trans
abbrev aps:=@List.cons.sizeOf_spec
abbrev apt:=@Int.tdiv_eq_ediv_of_nonneg
abbrev apu:=@Option.bind_eq_some_iff
abbrev apv:=@List.getElem?_cons_succ
abbrev apw:=@List.length_eq_zero_iff
abbrev apx:=@List.nodup_cons
abbrev apy:=@Bool.true_and
abbrev apz:=@Nat.zero_add
abbrev apA:=@Option.getD_some
abbrev apB:=@List.length_pos_iff
abbrev apC:=@List.getElem?_eq_none
abbrev apD:=@Int.le_refl
abbrev apE:=@List.filter_append_perm
abbrev apF:=@List.getElem?_append_right
abbrev apG:=@Nat.pow_le_pow_right
abbrev apH:=@List.filter_cons
abbrev apI:=@List.eq_nil_of_length_eq_zero
abbrev apJ:=@Option.isSome_iff_exists
abbrev apK:=@List.getElem?_toArray
abbrev apL:=@List.map_append
abbrev apM:=@Array.getD_eq_getD_getElem?
abbrev apN:=@List.getElem?_drop
abbrev apO:=@List.mem_of_mem_take
abbrev apP:=@Nat.le_max_right
abbrev apQ:=@Nat.add_zero
abbrev apR:=@Array.getElem?_setIfInBounds_ne
abbrev apS:=@Nat.add_mul
abbrev apT:=@Decidable.not_not
abbrev apU:=@List.mem_filter
abbrev apV:=@List.eq_nil_iff_forall_not_mem
abbrev apW:=@Nat.le_max_left
abbrev apX:=@ByteArray.data_append
abbrev apY:=@List.mem_filterMap
abbrev apZ:=@Nat.lt_or_ge
abbrev ap0:=@Nat.zero_le
abbrev ap1:=@List.getElem?_append
abbrev ap2:=@List.mem_range
abbrev ap3:=@List.any_eq_false
abbrev ap4:=@List.any_append
abbrev ap5:=@Nat.testBit_two_pow_mul_add
abbrev ap6:=@List.map_map
abbrev ap7:=@Option.bind_some
abbrev ap8:=@List.drop_drop
abbrev ap9:=@Bool.and_eq_false_iff
abbrev aqa:=@List.getLastD_eq_getLast?
abbrev aqb:=@Nat.one_mul
abbrev aqc:=@List.reverse_reverse
abbrev aqd:=@List.nodup_append
abbrev aqe:=@List.getElem_of_mem
abbrev aqf:=@List.filterMap_cons
abbrev aqg:=@List.any_eq_true
abbrev aqh:=@List.mem_singleton
abbrev aqi:=@List.countP_append
abbrev aqj:=@Array.mem_of_getElem?
abbrev aqk:=@Bool.eq_iff_iff
abbrev aql:=@List.range_succ
abbrev aqm:=@List.length_set
abbrev aqn:=@List.length_filter_le
abbrev aqo:=@List.flatten_cons
abbrev aqp:=@Array.mem_toList_iff
abbrev aqq:=@Classical.byContradiction
abbrev aqr:=@List.mem_take_iff_getElem
abbrev aqs:=@List.drop_eq_getElem_cons
abbrev aqt:=@List.findIdx?_eq_some_iff_getElem
abbrev aqu:=@Nat.mod_eq_of_lt
abbrev aqv:=@List.countP_cons
abbrev aqw:=@Int.toNat_of_nonneg
abbrev aqx:=@List.length_reverse
abbrev aqy:=@List.getElem?_range
abbrev aqz:=@Nat.add_assoc
abbrev aqA:=@ByteArray.ext
abbrev aqB:=@List.append_of_mem
abbrev aqC:=@ByteArray.append_assoc
abbrev aqD:=@List.getLast?_eq_some_getLast
abbrev aqE:=@List.take_append_of_le_length
abbrev aqF:=@List.reverse_cons
abbrev aqG:=@Bool.not_eq_true'
abbrev aqH:=@List.length_singleton
abbrev aqI:=@Array.mem_append
abbrev aqJ:=@List.contains_eq_mem
abbrev aqK:=@List.mem_flatMap
abbrev aqL:=@List.mem_of_getLast?
abbrev aqM:=@List.nodup_iff_count
abbrev aqN:=@Nat.eq_of_testBit_eq
abbrev aqO:=@List.sum_cons
abbrev aqP:=@Int.fdiv_eq_ediv_of_nonneg
abbrev aqQ:=@List.takeWhile_cons
abbrev aqR:=@Option.map_none
abbrev aqS:=@List.getElem?_zip_eq_some
abbrev aqT:=@Int.natCast_add
abbrev aqU:=@List.mem_or_eq_of_mem_set
abbrev aqV:=@Nat.min_eq_left
abbrev aqW:=@List.getElem?_take
abbrev aqX:=@List.map_nil
abbrev aqY:=@List.length_erase_of_mem
abbrev aqZ:=@List.getLast?_cons
abbrev aq0:=@List.Nodup.idxOf_getElem
abbrev aq1:=@Array.getElem_push
abbrev aq2:=@Bool.and_assoc
abbrev aq3:=@Nat.mul_le_mul
abbrev aq4:=@Classical.axiomOfChoice
abbrev aq5:=@List.getElem?_set
abbrev aq6:=@Int.toNat_natCast
abbrev aq7:=@Function.comp_def
abbrev aq8:=@List.all_cons
abbrev aq9:=@List.mem_toArray
abbrev ara:=@List.length_drop
inductive D where
 | v (x:Value)
 | sl (xs:List (List D))
 | uj (t:TypeId) (ag:Bool) (cs:List D)
instance:Inhabited D:=⟨.v undef⟩
def D.nn:D->D
 | .v (.slice none 0 0)=> .sl []
 | x=>x
inductive V where
 | d (x:D)
 | bp (h off:Nat)
 | rv (h:Nat)
 | ep (h k i j:Nat)
 | rp (cs:List D)
 | sv (h n:Nat)
 | fu (fn:Fn) (first ei:List V)
 | agg (cs:List V)
 | bA (vs:List V)
 | gd (g:Bool) (x:V)
 | kn (Q:Value->Prop)
 | any
@[match_pattern] abbrev iD(n:Int):V:= .d (.v (.int .i64 n))
@[match_pattern] abbrev oD(b:Bool):V:= .d (.v (.bool b))
instance:Inhabited V:=⟨.any⟩
inductive eW(w:World) (O:Nat->Prop):Value->D->Prop
 | v (x:Value) (h1:x.oneCell'=true):eW w O x (.v x)
 | sl (a:Option Addr) (n cap:Nat) (xs:List (List D)) (k b off:Nat) (f:Nat→Nat→Value)
   (hn:n=xs.length) (lA:n<=cap) (pq:cap<=maxLen) (ha:0<n->a=some ⟨b,off,none⟩/\¬O b/\b<w.heap.size)
   (hk:∀(i:Nat) (x:List D),xs[i]?=some x->x.length=k)
   (hc:∀i j,i<n->j<k->w.cell? ⟨b,off+i *k+j,none⟩=some (f i j))
   (hr:∀(i j:Nat) (x:List D) (y:D),xs[i]?=some x->x[j]?=some y->eW w O (f i j) y):
   eW w O (.slice a n cap) (.sl xs)
 | MX (t:TypeId) (x:Value) (y:D) (hx:x.oneCell'=true) (h:eW w O x y):eW w O (.iface t x) (.uj t false [y])
 | TO (t:TypeId) (vs:Array Value) (cs:List D) (hs:vs.size=cs.length) (h1:∀(j:Nat) (x:Value),vs[j]?=some x→x.oneCell'=true)
   (h:∀(j:Nat) (x:Value) (y:D),vs[j]?=some x->cs[j]?=some y->eW w O x y):eW w O (.iface t (.agg vs)) (.uj t true cs)
inductive aB(w:World) (O:Nat->Prop) (m:Nat->Option Value):Value->V->Prop
 | d (x:Value) (y:D) (h:eW w O x y):aB w O m x (.d y)
 | bp (h off b:Nat) (e:m h=some (.pointer (some ⟨b,0,none⟩))):aB w O m (.pointer (some ⟨b,off,none⟩)) (.bp h off)
 | rv (h:Nat) (x:Value) (e:m h=some x) (e1:x.oneCell'=true):aB w O m x (.rv h)
 | ep (h k i j b o n c:Nat) (e:m h=some (.slice (some ⟨b,o,none⟩) n c)):aB w O m (.pointer (some ⟨b,o+i *k+j,none⟩)) (.ep h k i j)
 | rp (b off:Nat) (cs:List D) (f:Nat→Value) (hb:¬O b) (aw:b < w.heap.size)
   (hc:∀j,j<cs.length->w.cell? ⟨b,off+j,none⟩=some (f j))
   (hr:∀(j:Nat) (y:D),cs[j]?=some y->eW w O (f j) y):aB w O m (.pointer (some ⟨b,off,none⟩)) (.rp cs)
 | sv (h n b cap:Nat) (e:m h=some (.pointer (some ⟨b,0,none⟩))) (hc:n<=cap) (hx:cap<=maxLen):aB w O m (.slice (some ⟨b,0,none⟩) n cap) (.sv h n)
 | fu (fn:Fn) (first ei:Array Value) (cf cc:List V) (s1:first.size=cf.length) (s2:ei.size=cc.length)
   (h1:∀(j:Nat) (x:Value) (y:V),first[j]?=some x->cf[j]?=some y->aB w O m x y)
   (h2:∀(j:Nat) (x:Value) (y:V),ei[j]?=some x->cc[j]?=some y->aB w O m x y):aB w O m (.func fn first ei) (.fu fn cf cc)
 | agg (vs:Array Value) (cs:List V) (hs:vs.size=cs.length) (h1:∀(j:Nat) (x:Value),vs[j]?=some x→x.oneCell'=true)
   (h:∀(j:Nat) (x:Value) (y:V),vs[j]?=some x->cs[j]?=some y->aB w O m x y):aB w O m (.agg vs) (.agg cs)
 | bA (vs:Array Value) (cs:List V) (hs:vs.size=cs.length)
   (h:∀(j:Nat) (x:Value) (y:V),vs[j]?=some x->cs[j]?=some y->aB w O m x y):aB w O m (.tuple vs) (.bA cs)
 | gt (x:Value) (y:V) (h:aB w O m x y):aB w O m x (.gd true y)
 | gf (y:V):aB w O m undef (.gd false y)
 | kn (x:Value) (Q:Value->Prop) (h:Q x):aB w O m x (.kn Q)
 | any (x:Value):aB w O m x .any
structure bK(w:World) (O:Nat->Prop) (w':World):Prop where
 size:w.heap.size<=w'.heap.size
 block:∀b,b<w.heap.size->¬O b->w'.heap[b]?=w.heap[b]?
theorem bK.refl(w:World)(O:Nat->Prop):bK w O w:=⟨aoT _,λ_ _ _=>rfl⟩
theorem Cw{w w':World}{b o:Nat}{x:Value}(hb:w'.heap[b]?=w.heap[b]?)(h:w.cell? ⟨b,o,none⟩=some x):w'.cell? ⟨b,o,none⟩=some x:=by
 rw[World.cell?_of_block (w:=w) (a:=⟨b,o,none⟩) hb];exact h
theorem TP{w:World}{b o:Nat}{x:Value}(h:w.cell? ⟨b,o,none⟩=some x):b<w.heap.size:=World.block_lt_of_cell? w (a:=⟨b,o,none⟩) h
theorem eW.mono{w w':World}{O O':Nat->Prop}(hk:bK w O w')(hO:∀b,b<w.heap.size->O' b->O b){x:Value}{y:D}(h:eW w O x y):eW w' O' x y:=by
 induction h with
 | v x h1=>exact .v x h1
 | sl a n cap xs k b off f hn lA pq ha sG hc hr ih=>
   refine .sl a n cap xs k b off f hn lA pq (λh=>⟨(ha h).1,λho=>(ha h).2.1 (hO b (ha h).2.2 ho),ao3 (ha h).2.2 hk.size⟩) sG (λi j hi hj=>?_) ih;have h0:=ha (by omega);exact Cw (hk.block b h0.2.2 h0.2.1) (hc i j hi hj)
 | MX t x y hx h ih=>exact .MX t x y hx ih
 | TO t vs cs hs h1 h ih=>exact .TO t vs cs hs h1 ih
theorem aB.mono{w w':World}{O O':Nat→Prop}{m m':Nat→Option Value}(hk:bK w O w')(hO:∀b,b < w.heap.size→O' b→O b)(hm:∀h x,m h=some x→m' h=some x)
  {x:Value} {y:V} (h:aB w O m x y):aB w' O' m' x y:=by
 induction h with
 | d x y h=>exact .d x y (h.mono hk hO)
 | bp h off b e=>exact .bp h off b (hm _ _ e)
 | rv h x e e1=>exact .rv h x (hm _ _ e) e1
 | ep h k i j b o n c e=>exact .ep h k i j b o n c (hm _ _ e)
 | rp b off cs f hb aw hc hr=>
   exact .rp b off cs f (λho=>hb (hO b aw ho)) (ao3 aw hk.size) (λj hj=>Cw (hk.block b aw hb) (hc j hj)) (λj y hy=>(hr j y hy).mono hk hO)
 | sv h n b cap e hc hx=>exact .sv h n b cap (hm _ _ e) hc hx
 | fu fn first ei cf cc s1 s2 h1 h2 Fs Kv=>exact .fu fn first ei cf cc s1 s2 Fs Kv
 | agg vs cs hs h1 h ih=>exact .agg vs cs hs h1 ih
 | bA vs cs hs h ih=>exact .bA vs cs hs ih
 | gt x y h ih=>exact .gt x y ih
 | gf y=>exact .gf y
 | kn x Q h=>exact .kn x Q h
 | any x=>exact .any x
def jJ:Value->Nat->Prop
 | .pointer (some a),b=>a.block=b
 | .slice (some a) _ _,b=>a.block=b
 | .map (some r),b=>r=b
 | .func (.yield l) _ _,b=>l=b
 | _,_=>False
def dn:Value->Nat->Prop
 | .tuple vs,b=>∃v,v∈vs/\jJ v b
 | v,b=>jJ v b
structure Env where
 H:World->(Nat->Prop)->Value->Prop
 mono:∀{w w':World} {O O':Nat->Prop} {x:Value},H w O x->(∀b,dn x b->w'.heap[b]?=w.heap[b]?)->bK w O w'->(∀b,b<w.heap.size->O' b->O b)->H w' O' x
 lt:∀{w:World} {O:Nat->Prop} {x:Value} {b:Nat},H w O x->dn x b->b<w.heap.size
abbrev ME:=Value×Bool×List D
def ME.val(e:ME):V:=if e.2.1 then .agg (e.2.2.map .d)else .d (e.2.2.headD default)
def MY(es:List ME)(w:World)(O:Nat->Prop)(x:Value):Prop:=
 ∃r arr clock,x= .map (some r)/\w.heap[r]?=some (.map arr clock)/\arr.size=es.length/\(es.map (·.1)).Nodup/\
  ∀(i:Nat) (a:MapEntry) (e:ME),arr[i]?=some a->es[i]?=some e->a.key=e.1/\aB w O (λ_=>none) a.val e.val
theorem Kw{es:List ME}{w w':World}{O O':Nat->Prop}{x:Value}(h:MY es w O x)(hb:∀b,dn x b->w'.heap[b]?=w.heap[b]?)(hk:bK w O w')(hO:∀b,b<w.heap.size->O' b->O b):MY es w' O' x:=by
 obtain⟨r,arr,clock,rfl,h1,h2,h3,h4⟩:=h;exact⟨r,arr,clock,rfl,by rw[hb r rfl];exact h1,h2,h3,λi a e ha he=>⟨(h4 i a e ha he).1,(h4 i a e ha he).2.mono hk hO (λ_ _ e=>e)⟩⟩
theorem adl{es:List ME}{w:World}{O:Nat->Prop}{x:Value}{b:Nat}(h:MY es w O x)(hb:dn x b):b<w.heap.size:=by
 obtain⟨r,arr,clock,rfl,h1,h2,h3,h4⟩:=h;simp only[dn,jJ]at hb;subst hb;exact(aoY.1 h1).1
inductive aV where
 | box (b:Nat) (ty:TypeId) (cs:List V)
 | row (ty:TypeId) (k:Nat) (xs:List (List V))
 | env (A:Env)
 | mp (es:List ME)
abbrev aI:=List (Nat×aV)
def keys(L:aI):List Nat:=L.map (·.1)
def own(m:Nat->Option Value)(b:Nat):Prop:=∃h x,m h=some x/\dn x b
def aV.Holds(w:World)(O:Nat->Prop)(m:Nat->Option Value)(x:Value):aV->Prop
 | .box b ty cs=>∃bb,(b=0∨b=bb+1)∧∃cur,x= .pointer (some ⟨bb,0,none⟩)∧w.heap[bb]?=some (.cells cur ty (0,0))∧cur.size=cs.length∧
   (∀(j:Nat) (v:Value),cur[j]?=some v->v.oneCell'=true)/\∀(j:Nat) (v:Value) (c:V),cur[j]?=some v->cs[j]?=some c->aB w O m v c
 | .row ty k xs=>(x= .slice none 0 0∧xs=[])∨∃b off cap cur,x= .slice (some ⟨b,off,none⟩) xs.length cap∧w.heap[b]?=some (.cells cur ty (0,0))∧
   xs.length<=cap/\cap<=maxLen/\off+cap *k<=cur.size/\(∀(i:Nat) (x:List V),xs[i]?=some x->x.length=k)/\(∀(j:Nat) (v:Value),cur[j]?=some v->v.oneCell'=true)/\
   ∀(i j:Nat) (x:List V) (y:V) (v:Value),xs[i]?=some x->x[j]?=some y->cur[off+i *k+j]?=some v->aB w O m v y
 | .env A=>A.H w O x
 | .mp es=>MY es w O x
structure FO where
 f:Nat->Prop
 D:List Deferred
 r:Option Nat:=none
 nm:Bool:=false
instance:CoeFun FO (λ_=>Nat->Prop):=⟨FO.f⟩
instance:Coe (Nat->Prop) FO:=⟨λf=>⟨f,[],none,false⟩⟩
def OO(fo:FO)(m:Nat->Option Value):Nat->Prop:=λb=>own m b\/fo b
def EB:List (Nat×List Value):=[(0,[.int .u64 1,.int .u64 10,.int .u64 100,.int .u64 1000,.int .u64 10000,.int .u64 100000,.int .u64 1000000,.int .u64 10000000,.int .u64 100000000,.int .u64 1000000000,.int .u64 10000000000,.int .u64 100000000000,.int .u64 1000000000000,.int .u64 10000000000000,.int .u64 100000000000000,.int .u64 1000000000000000,.int .u64 10000000000000000,.int .u64 100000000000000000,.int .u64 1000000000000000000,.int .u64 10000000000000000000])]
def uV(w:World)(O:Nat->Prop):Prop:=∀p∈EB,p.1<w.heap.size/\¬O p.1/\(∀(j:Nat) (v:Value),p.2[j]?=some v->v.oneCell'=true/\w.cell? ⟨p.1,j,none⟩=some v)/\∃t z,w.heap[p.1]?=some (.cells p.2.toArray t z)
theorem uV.mono{w w':World}{O O':Nat->Prop}(h:uV w O)(hk:bK w O w')(hO:∀b,b<w.heap.size->O' b->O b):uV w' O':=by
 intro p hp;obtain⟨h1,h2,h3,t,z,h4⟩:=h p hp;exact⟨ao3 h1 hk.size,λh=>h2 (hO _ h1 h),λj v hj=>⟨(h3 j v hj).1,Cw (hk.block _ h1 h2) (h3 j v hj).2⟩,t,z,by rw[hk.block _ h1 h2];exact h4⟩
structure Inv(fo:FO) (m:Nat->Option Value) (L:aI) (w:World):Prop where
 nodup:(keys L).Nodup
 fI:∀h x,m h=some x->h∈keys L
 apart:∀h h' x x' b,m h=some x->m h'=some x'->dn x b->dn x' b->h=h'
 others:∀h x b,m h=some x->dn x b->¬fo b
 ej:∀b,fo b->b<w.heap.size
 holds:∀h r,(h,r)∈L->∃x,m h=some x/\r.Holds w (OO fo m) m x
 ef:uV w (OO fo m)
structure Step(w:World) (o:Nat->Prop) (w':World) (o':Nat->Prop):Prop where
 os:w'.os=w.os
 tape:w'.tape=w.tape
 output:w'.output=w.output
 size:w.heap.size<=w'.heap.size
 block:∀b,b<w.heap.size->¬o b->w'.heap[b]?=w.heap[b]?
 owned:∀b,b<w.heap.size->o' b->o b
theorem Step.refl(w:World)(o:Nat->Prop):Step w o w o:=⟨rfl,rfl,rfl,aoT _,λ_ _ _=>rfl,λ_ _ h=>h⟩
theorem Step.trans{w w' Ad:World}{o o' lU:Nat->Prop}(h:Step w o w' o')(k:Step w' o' Ad lU):Step w o Ad lU:=
 ⟨k.os.trans h.os,k.tape.trans h.tape,k.output.trans h.output,apr h.size k.size,
  λb hb ho=>(k.block b (ao3 hb h.size) (λiC=>ho (h.owned b hb iC))).trans (h.block b hb ho),
  λb hb ho=>h.owned b hb (k.owned b (ao3 hb h.size) ho)⟩
theorem Step.rq{w w':World}{o o' fo:Nat->Prop}(h:Step w o w' o'):bK w (λb=>o b\/fo b) w':=
 ⟨h.size,λb hb ho=>h.block b hb (λx=>ho (.inl x))⟩
theorem Step.sub{w w':World}{o o' fo:Nat->Prop}(h:Step w o w' o'):∀b,b<w.heap.size->(o' b\/fo b)->(o b\/fo b):=
 λb hb ho=>ho.imp (h.owned b hb) id
end Go.Ab
namespace Go.Ab
structure St where
 fr:List (Nat×V)
 L:aI
def eX(t:Nat):List (Nat×V)->V
 | []=> .any
 | (k,x)::l=>if k=t then x else eX t l
def vL(t:Nat):List (Nat×V)->List (Nat×V)
 | []=> []
 | (k,x)::l=>if k=t then vL t l else(k,x)::vL t l
theorem se{t p}:∀{l},p∈vL t l->p∈l/\p.1≠t
 | [],h=>by cases h
 | (k,x)::l,h=>by
   rw[vL]at h;split at h
   ·have:=se h;exact⟨aoW _ this.1,this.2⟩
   ·rcases ao0.1 h with rfl|h
    ·grind
    ·have:=se h;exact⟨aoW _ this.1,this.2⟩
theorem xq{t}:∀{l},eX t l= .any\/(t,eX t l)∈l
 | []=> .inl rfl
 | (k,x)::l=>by
   rw[eX];split
   ·rename_i hk;subst hk;exact .inr aoZ
   ·exact(xq).imp id (aoW _)
def St.get(s:St)(t:Nat):V:=eX t s.fr
def St.put(s:St)(t:Option Nat)(x:V):St:=
 match t with
 | none=>s
 | some t=>{s with fr:=(t,x)::vL t s.fr}
def EC(v:Value):V:=if v.oneCell' then .d (.v v)else .any
def St.ev(s:St):Operand->V
 | .tmp t=>s.get t
 | .const v=>EC v
 | .global g=>match EB.lookup g with
   | some cs=> .rp (cs.map .v)
   | none=> .d (.v (.pointer (some ⟨g,0,none⟩)))
 | .func f=> .fu (.func f) [] []
structure G(fo:FO) (n:Nat) (m:Nat->Option Value) (s:St) (a:Act) (w:World):Prop where
 size:a.tmps.size=n
 fr:∀t x,(t,x)∈s.fr->t<n/\aB w (OO fo m) m (a.tmps.getD t undef) x
 inv:Inv fo m s.L w
 defers:a.defers=fo.D
def wr(r:Option Nat):Fence:={Fence.wide with round:=r}
theorem Gq{r n P f args w R}(h:Calls P f args w R):CallsIn (wr r) n P f args w R:=
 (callsIn_wide).2 h
theorem yK{P o ρ w w' nx}(h:(execOp ρ o).run P w= .ok nx w')(hn:∀d,nx≠ .defer d):∀c,o.op≠ .defer c:=by
 intro c hc;simp[execOp,hc]at h;cases hr:(resolve ρ c o.type).run P w with
 | ok d w1=>rw[hr]at h;simp at h;grind
 | halt x w1=>simp_all
theorem Cx{r ρ o}(h:∀c,o.op≠ .defer c):o.semAt r ρ=execOp ρ o:=by
 cases r with
 | none=>rfl
 | some l=>simp_all[Oper.semAt_some]
theorem wW{r}{P}{o}{a}{w w'}{nx}{v}{next}{Q}(bw:(execOp a.eval o).run P w= .ok nx w')
  (sH:nx= .value v\/(nx= .skip/\v=undef)) (h:next (a.put o.dst v) w'):o.wpIn (wr r) 0 P a w next Q:=by
 refine⟨λ_ _=>trivial,?_⟩;rw[Cx (yK bw (by grind)),bw];rcases sH with rfl|⟨rfl,rfl⟩
 ·exact h
 ·exact h
theorem yL{r}{P}{o}{a}{w w'}{f}{args}{next}{Q}(bw:(execOp a.eval o).run P w= .ok (.enter f args) w')
  (h:Calls P f args w' fun
   | .returned v,Ad=>next (a.put o.dst v) Ad
   | .panicked chain,Ad=>Q (.panic chain) a Ad
   | .outgrown,_=>LetsOut Q):o.wpIn (wr r) 0 P a w next Q:=by
 refine⟨λ_ _=>trivial,?_⟩;rw[Cx (yK bw (by simp)),bw];exact⟨λh=>by grind[wr,Fence.wide],Gq h⟩
theorem W1{r}{P}{o}{a}{w w'}{v}{next}{Q}(hd:∀c,o.op≠ .defer c)(bw:(execOp a.eval o).run P w= .halt (.panic v) w')
  (h:Q (.panic [{v,recovered:=false}]) a w'):o.wpIn (wr r) 0 P a w next Q:=by
 refine⟨λ_ _=>trivial,?_⟩;rw[Cx hd,bw];exact h
inductive AX where
 | normal
 | exit (i:Nat)
 | goto (l:Nat)
 | ret
 | ix (x:V)
def AP(w:World)(O:Nat->Prop)(m:Nat->Option Value)(chain:List PanicEntry)(x:V):Prop:=
 ∃v gM,chain={v:=v,recovered:=false}::gM/\(∀e∈gM,e.goexit=false)/\aB w O m v x
def bF(w:World)(O:Nat->Prop)(m:Nat->Option Value):Exit->AX->Prop
 | .normal,.normal=>True
 | .exit i,.exit j=>i=j
 | .goto i,.goto j=>i=j
 | .ret,.ret=>True
 | .panic chain,.ix x=>AP w O m chain x
 | _,_=>False
def FO.mark(fo:FO)(ms:List Nat):FO:=⟨λb=>fo.f b\/b∈ms,ms.map (λr=>⟨.collected r,#[]⟩)++fo.D,fo.r,fo.nm⟩
@[simp] theorem FO.AQ(fo:FO):fo.mark []=fo:=by
 simp[FO.mark]
theorem FO.Kx(fo:FO) ms MZ:(fo.mark ms).mark MZ=fo.mark (MZ++ms):=by
 obtain⟨f,D,r,k⟩:=fo;simp[FO.mark,or_assoc,or_comm]
def Marks(k:Bool)(w w':World)(ms:List Nat):Prop:=(ms.Nodup/\(k=true->ms=[]))/\∀r∈ms,w.heap.size<=r/\w'.heap[r]?=some (.deferred (some []))
theorem Marks.nil k w w':Marks k w w' []:=⟨⟨List.nodup_nil,λ_=>rfl⟩,by simp⟩
def fZ(fo:FO)(n:Nat)(m:Nat->Option Value)(w:World)(Q:AX->St->Prop)(e:Exit)(a':Act)(w':World):Prop:=
 ∃ms m' x s',Marks fo.nm w w' ms/\Q x s'/\G (fo.mark ms) n m' s' a' w'/\bF w' (OO (fo.mark ms) m') m' e x/\Step w (own m) w' (own m')
theorem fZ.of{fo}{n}{m}{w}{Q}{e}{a'}{w'} m' x s'(h:Q x s')(g:G fo n m' s' a' w')(hx:bF w' (OO fo m') m' e x)
  (st:Step w (own m) w' (own m')):fZ fo n m w Q e a' w':=⟨[],m',x,s',Marks.nil _ _ _,h,by simp_all,by simp_all,st⟩
def gN:Code->Bool
 | .rangeFunc .. =>true
 | .seq x y=>gN x||gN y
 | .cond _ x y=>gN x||gN y
 | .block _ c=>gN c
 | .loop c=>gN c
 | .scope c=>gN c
 | _=>false
def av(P:Program)(n:Nat)(c:Code)(s:St)(Q:AX->St->Prop):Prop:=
 ∀fo m a w,(gN c=true->fo.r=none/\fo.nm=false)->G fo n m s a w->Code.wpIn (wr fo.r) 0 P c (fZ fo n m w Q) a w
theorem fZ.mono{fo n m w Q Q'}(hq:∀x s,Q x s->Q' x s){e a' w'}(h:fZ fo n m w Q e a' w'):fZ fo n m w Q' e a' w':=by
 obtain⟨ms,m',x,s',h0,h1,h2⟩:=h;exact⟨ms,m',x,s',h0,hq _ _ h1,h2⟩
theorem fZ.step{fo n m m1 w w1 Q}(hs:Step w (own m) w1 (own m1)){e a' w'}(h:fZ fo n m1 w1 Q e a' w'):fZ fo n m w Q e a' w':=by
 obtain⟨ms,m',x,s',h0,h1,h2,h3,h4⟩:=h;exact⟨ms,m',x,s',⟨h0.1,λr hr=>⟨apr hs.size (h0.2 r hr).1,(h0.2 r hr).2⟩⟩,h1,h2,h3,hs.trans h4⟩
theorem Marks.app{fo:FO}{n m1 m2 s a w w1 w2 ms MZ k}(h:Marks k w w1 ms)(g:G (fo.mark ms) n m1 s a w1)(st:Step w1 (own m1) w2 (own m2))(hs:w.heap.size<=w1.heap.size)(h':Marks k w1 w2 MZ):Marks k w w2 (MZ++ms):=by
 refine⟨⟨aqd.2 ⟨h'.1.1,h.1.1,?_⟩,λe=>by rw[h.1.2 e,h'.1.2 e];rfl⟩,λr hr=>?_⟩
 ·rintro r s8 _ hr rfl;have:=(aoY.1 (h.2 r hr).2).1;have:=(h'.2 r s8).1;omega
 ·rcases ao1.1 hr with hr|hr
  ·exact⟨apr hs (h'.2 r hr).1,(h'.2 r hr).2⟩
  ·refine⟨(h.2 r hr).1,?_⟩;rw[st.block r (aoY.1 (h.2 r hr).2).1 ?_]
   ·exact(h.2 r hr).2
   ·rintro⟨i,x,hx,hb⟩;exact g.inv.others i x r hx hb (.inr hr)
theorem fZ.marked{fo}{n}{m m1}{s}{a}{w w1}{ms}{Q}(hm:Marks fo.nm w w1 ms)(g:G (fo.mark ms) n m1 s a w1)(hs:Step w (own m) w1 (own m1)){e}{a'}{w'}
  (h:fZ (fo.mark ms) n m1 w1 Q e a' w'):fZ fo n m w Q e a' w':=by
 obtain⟨MZ,m',x,s',h0,h1,h2,h3,h4⟩:=h;rw[FO.Kx]at h2 h3;exact⟨MZ++ms,m',x,s',hm.app g h4 hs.size h0,h1,h2,h3,hs.trans h4⟩
section
variable {P : Program} {n : Nat} {s : St} {Q : AX -> St -> Prop}
theorem av.mono{c Q'}(h:av P n c s Q)(hq:∀x s,Q x s->Q' x s):av P n c s Q':=
 λfo m a w hr g=>Code.wpIn_mono (λ_ _ _=>fZ.mono hq) (h fo m a w hr g)
def Wk(n:Nat)(s s':St):Prop:=∀fo m a w,G fo n m s a w->∃m',G fo n m' s' a w/\Step w (own m) w (own m')
theorem Wk.refl n s:Wk n s s:=λ_ m _ w g=>⟨m,g,Step.refl w _⟩
theorem Wk.trans{s1 s2 s3}(h:Wk n s1 s2)(k:Wk n s2 s3):Wk n s1 s3:=λfo m a w g=>
 let ⟨m1,g1,t1⟩:=h fo m a w g
 let ⟨m2,g2,t2⟩:=k fo m1 a w g1
 ⟨m2,g2,t1.trans t2⟩
theorem av.weaken{c s'}(h:Wk n s s')(k:av P n c s' Q):av P n c s Q:=λfo m a w hr g=>by
 obtain⟨m',g',hs⟩:=h fo m a w g;exact Code.wpIn_mono (λ_ _ _=>fZ.step hs) (k fo m' a w hr g')
theorem G.TQ{fo m a w}(g:G fo n m s a w) x e(hx:bF w (OO fo m) m e x)(h:Q x s):fZ fo n m w Q e a w:=
 .of m x s h g hx (Step.refl w _)
theorem av.skip(h:Q .normal s):av P n .skip s Q:=λ_ _ _ _ _ g=>wpIn_skip (g.TQ .normal .normal trivial h)
theorem av.exit{i}(h:Q (.exit i) s):av P n (.exit i) s Q:=λ_ _ _ _ _ g=>wpIn_exit (g.TQ (.exit i) (.exit i) rfl h)
theorem av.ret(h:Q .ret s):av P n .ret s Q:=λ_ _ _ _ _ g=>wpIn_ret (g.TQ .ret .ret trivial h)
def AX.then(next:St->Prop)(Q:AX->St->Prop):AX->St->Prop
 | .normal,s=>next s
 | x,s=>Q x s
theorem av.seq{x y}(h:av P n x s (AX.then (λs'=>av P n y s' Q) Q)):av P n (.seq x y) s Q:=λfo m a w hr g=>by
 refine wpIn_seq (Code.wpIn_mono (λe a1 w1 hp=>?_) (h fo m a w (λe=>hr (by simp[gN,e])) g));obtain⟨ms,m1,x1,s1,hm,hq,g1,hx,hs⟩:=hp;cases e with
 | normal=>
   cases x1<;>simp[bF]at hx
   exact Code.wpIn_mono (λ_ _ _=>fZ.marked hm g1 hs) (hq (fo.mark ms) m1 a1 w1 (λe=>hr (by simp[gN,e])) g1)
 | exit i=>cases x1<;>simp[bF]at hx;exact⟨ms,m1,_,s1,hm,hq,g1,hx,hs⟩
 | goto i=>cases x1<;>simp[bF]at hx;exact⟨ms,m1,_,s1,hm,hq,g1,hx,hs⟩
 | ret=>cases x1<;>simp[bF]at hx;exact⟨ms,m1,_,s1,hm,hq,g1,hx,hs⟩
 | panic ch=>cases x1<;>simp[bF]at hx;exact⟨ms,m1,_,s1,hm,hq,g1,hx,hs⟩
 | outgrown=>simp_all[bF]
theorem aB.pV{w O m x v}(h:aB w O m x (.d (.v v))):x=v:=by
 cases h with
 | d _ _ h=>cases h with
   | v _ _=>rfl
theorem Ky{α:Type}{l:List (Nat×α)}{i x}(h:l.lookup i=some x):(i,x)∈l:=by
 induction l with
 | nil=>cases h
 | cons p l ih=>
   grind
theorem M1{w}{O}{m}(h:uV w O) i:aB w O m (.pointer (some ⟨i,0,none⟩)) (match EB.lookup i with
  | some cs=> .rp (cs.map .v)
  | none=> .d (.v (.pointer (some ⟨i,0,none⟩)))):=by
 split
 ·rename_i cs hl;obtain⟨h1,h2,h3,-⟩:=h (i,cs) (Ky hl);refine .rp i 0 _ (λj=>cs[j]?.getD undef) h2 h1 (λj hj=>?_) (λj y hy=>?_)
  ·grind
  ·rw[aoN]at hy;obtain⟨v,hv,rfl⟩:=aoJ.1 hy;simp[hv];exact .v _ (h3 j v hv).1
 ·exact .d _ _ (.v _ rfl)
theorem cm{fo m a w}(g:G fo n m s a w) o:aB w (OO fo m) m (a.eval o) (s.ev o):=by
 cases o with
 | tmp t=>
   simp[St.ev,St.get];rcases xq with h|h
   ·rw[h];exact .any _
   ·exact(g.fr t _ h).2
 | const v=>
   simp[St.ev];unfold EC;split
   ·rename_i h;exact .d _ _ (.v _ h)
   ·exact .any _
 | global i=>exact M1 g.inv.ef i
 | func f=>exact .fu _ _ _ _ _ rfl rfl (by simp) (by simp)
theorem av.cond{c x y b}(hc:s.ev c=oD b)(ht:b=true->av P n x s Q)(hf:b=false->av P n y s Q):av P n (.cond c x y) s Q:=λfo m a w hr g=>by
 have he:=cm g c;rw[hc]at he;exact wpIn_cond_split he.pV (λh=>ht h fo m a w (λe=>hr (by simp[gN,e])) g) (λh=>hf h fo m a w (λe=>hr (by simp[gN,e])) g)
def AX.inBlock(id:Nat)(Q:AX->St->Prop):AX->St->Prop
 | .exit i,s=>if i=id then Q .normal s else Q (.exit i) s
 | x,s=>Q x s
theorem av.block{id c}(h:av P n c s (AX.inBlock id Q)):av P n (.block id c) s Q:=λfo m a w hr g=>by
 refine wpIn_block (Code.wpIn_mono (λe a1 w1 hp=>?_) (h fo m a w hr g));obtain⟨ms,m1,x1,s1,hm,hq,g1,hx,hs⟩:=hp;cases e with
 | exit i=>
   cases x1<;>simp[bF]at hx
   subst hx;simp[Exit.inBlock];simp[AX.inBlock]at hq;split at hq
   ·rename_i h;rw[if_pos h];exact⟨ms,m1,.normal,s1,hm,hq,g1,trivial,hs⟩
   ·rename_i h;rw[if_neg h];exact⟨ms,m1,_,s1,hm,hq,g1,rfl,hs⟩
 | normal=>cases x1<;>simp[bF]at hx;exact⟨ms,m1,_,s1,hm,hq,g1,hx,hs⟩
 | goto i=>cases x1<;>simp[bF]at hx;exact⟨ms,m1,_,s1,hm,hq,g1,hx,hs⟩
 | ret=>cases x1<;>simp[bF]at hx;exact⟨ms,m1,_,s1,hm,hq,g1,hx,hs⟩
 | panic ch=>cases x1<;>simp[bF]at hx;exact⟨ms,m1,_,s1,hm,hq,g1,hx,hs⟩
 | outgrown=>simp_all[bF]
theorem least(p:Nat->Prop)(h:∃k,p k):∃k,p k/\∀j,p j->k<=j:=by
 obtain⟨k,hk⟩:=h
 induction k using Nat.strongRecOn with
 | _ k ih=>
   grind
theorem av.loop{c}(I:Nat→St→Prop)(h0:∃k,I k s)
  (round:∀k s,I k s->av P n c s (AX.then (λs'=>∃k',k'<k/\∃s'',Wk n s' s''/\I k' s'') Q)):av P n (.loop c) s Q:=λfo m a w hr g=>by
 classical
 let J a1 w1 k:=∃ms m1 s1,Marks fo.nm w w1 ms/\I k s1/\G (fo.mark ms) n m1 s1 a1 w1/\Step w (own m) w1 (own m1)
 refine wpIn_loop (λa1 w1=>∃k,J a1 w1 k) (λa1 w1=>if h:∃k,J a1 w1 k then Classical.choose (least _ h)else 0) ?_ ?_
 ·obtain⟨k,hk⟩:=h0;exact⟨k,[],m,s,Marks.nil _ _ _,hk,by simp_all,Step.refl w _⟩
 ·intro a1 w1 hI;rw[dif_pos hI];obtain⟨ms,m1,s1,hm,hi,g1,vl⟩:=(Classical.choose_spec (least _ hI)).1;refine Code.wpIn_mono (λe a2 w2 hp=>?_) (round _ s1 hi (fo.mark ms) m1 a1 w1 hr g1);obtain⟨R3,m2,x2,s2,s9,hq,g2,hx,rB⟩:=fZ.marked hm g1 vl hp;cases e with
  | normal=>
    cases x2<;>simp[bF]at hx
    obtain⟨k',aw,s3,hw,hi3⟩:=hq;obtain⟨m3,g3,W2⟩:=hw (fo.mark R3) m2 a2 w2 g2;have hJ:J a2 w2 k':=⟨R3,m3,s3,s9,hi3,g3,rB.trans W2⟩
    refine⟨⟨k',hJ⟩,?_⟩;rw[dif_pos ⟨k',hJ⟩];exact Nat.lt_of_le_of_lt ((Classical.choose_spec (least _ ⟨k',hJ⟩)).2 k' hJ) aw
  | exit i=>cases x2<;>simp[bF]at hx;exact⟨R3,m2,_,s2,s9,hq,g2,hx,rB⟩
  | goto i=>cases x2<;>simp[bF]at hx;exact⟨R3,m2,_,s2,s9,hq,g2,hx,rB⟩
  | ret=>cases x2<;>simp[bF]at hx;exact⟨R3,m2,_,s2,s9,hq,g2,hx,rB⟩
  | panic ch=>cases x2<;>simp[bF]at hx;exact⟨R3,m2,_,s2,s9,hq,g2,hx,rB⟩
  | outgrown=>simp_all[bF]
end
inductive AE where
 | ret (x:V)
 | ix (x:V)
def Ends(w:World)(O:Nat->Prop)(m:Nat->Option Value):Ending->AE->Prop
 | .returned v,.ret x=>aB w O m v x
 | .panicked chain,.ix x=>AP w O m chain x
 | _,_=>False
def mv(fo:FO)(m:Nat->Option Value)(w:World)(R:AE->aI->Prop)(e:Ending)(w':World):Prop:=
 ∃m' r L',R r L'/\Ends w' (OO fo m') m' e r/\Inv fo m' L' w'/\Step w (own m) w' (own m')
def ir(w:World)(O:Nat->Prop)(m:Nat->Option Value)(xs:Array Value)(ys:List V):Prop:=
 xs.size=ys.length/\∀(j:Nat) (x:Value) (y:V),xs[j]?=some x->ys[j]?=some y->aB w O m x y
def aE(P:Program)(f:FuncId)(args:List V)(L:aI)(R:AE->aI->Prop):Prop:=
 ∀fo m w (xs:Array Value),Inv fo m L w->ir w (OO fo m) m xs args->Calls P f xs w (mv fo m w R)
theorem aE.mono{P f args L R R'}(h:aE P f args L R)(hr:∀r L,R r L->R' r L):aE P f args L R':=
 λfo m w xs hi hx=>(h fo m w xs hi hx).mono λ_ _ ⟨m',r,L',h1,h2⟩=>⟨m',r,L',hr _ _ h1,h2⟩
def eH(k:Nat):List V->List (Nat×V)
 | []=> []
 | x::l=>(k,x)::eH (k+1) l
theorem pW{t x}:∀{l k},(t,x)∈eH k l->k<=t/\l[t-k]?=some x/\t<k+l.length
 | [],_,h=>by cases h
 | y::l,k,h=>by
   simp[eH]at h;rcases h with⟨rfl,rfl⟩|h
   ·simp
   ·obtain⟨h1,h2,h3⟩:=pW h;grind
def aeQ:TypeDesc->Bool
 | .struct _|.array _ _=>true
 | _=>false
def gS(P:Program)(t:TypeId):Option (Bool×Nat):=
 match P.underlying t,P.info? t with
 | some d,some i=>some (aeQ d,i.size)
 | _,_=>none
def cw(P:Program)(t:TypeId)(f:Nat):Option (Nat×Bool×Nat):=
 match P.underlying t with
 | some (.struct fs)=>match fs[f]? with
   | some fl=>match gS P fl.type with
     | some (g,k)=>if k=0 then none else some (fl.offset,g,k)
     | none=>none
   | none=>none
 | _=>none
def nC(P:Program)(t:TypeId):Option (TypeId×Nat):=
 match P.underlying t with
 | some (.slice e)=>(P.info? e).map λi=>(e,i.size)
 | _=>none
def ED(P:Program)(t:TypeId):Option (Nat×Bool×Nat):=
 match P.underlying t with
 | some (.array n e)=>(gS P e).map λp=>(n,p.1,p.2)
 | _=>none
def rW(P:Program)(t:TypeId):Bool:=
 match P.underlying t with
 | some .string=>true
 | _=>false
def ta(P:Program)(t:TypeId):Option IntKind:=
 match P.underlying t with
 | some (.int k)=>some k
 | _=>none
section
variable {P : Program} {w : World}
theorem pX{t g k}(h:gS P t=some (g,k)) w:(isAgg t).run P w= .ok g w/\(sizeOf t).run P w= .ok k w:=by
 unfold gS at h;split at h
 ·rename_i d i hd hi;cases h;constructor
  ·simp[isAgg,run_underlying hd];cases d<;>rfl
  ·simp[sizeOf,typeInfo,hi]
 grind
theorem oa{t e k}(h:nC P t=some (e,k)) w:(underlying t).run P w= .ok (.slice e) w/\(sizeOf e).run P w= .ok k w:=by
 unfold nC at h;split at h
 ·rename_i e' he;obtain⟨i,hi,hx⟩:=aoJ.1 h;cases hx;exact⟨run_underlying he w,by simp[sizeOf,typeInfo,hi]⟩
 grind
theorem AR{t n k g}(h:ED P t=some (n,g,k)) w:∃e,(underlying t).run P w= .ok (.array n e) w/\(isAgg e).run P w= .ok g w/\(sizeOf e).run P w= .ok k w:=by
 unfold ED at h;split at h
 ·obtain⟨i,hi,hx⟩:=aoJ.1 h;grind[run_underlying,pX]
 grind
theorem M3{t}{f o k}{g}(h:cw P t f=some (o,g,k)) w:
  ∃fs fl,(underlying t).run P w= .ok (.struct fs) w/\fs[f]?=some fl/\fl.offset=o/\(isAgg fl.type).run P w= .ok g w/\(sizeOf fl.type).run P w= .ok k w/\k≠0:=by
 unfold cw at h;split at h
 ·rename_i fs tc;split at h
  ·rename_i fl lV;split at h
   ·rename_i g' k' ha;split at h
    ·cases h
    ·rename_i hk;cases h;exact⟨fs,fl,run_underlying tc w,lV,rfl,(pX ha w).1,(pX ha w).2,hk⟩
   grind
  grind
 grind
theorem xr{t}{k}(h:gS P t=some (true,k)){b off}{f}(hc:∀j,j < k→w.cell? ⟨b,off+j,none⟩=some (f j)):
  (Instr.loadAt t (.pointer (some ⟨b,off,none⟩))).run P w= .ok (.agg ((List.range k).map f).toArray) w:=by
 obtain⟨h1,h2⟩:=pX h w;simp_all[run_loadCells,Addr.add_lit,Instr.loadAt,Instr.sureAddr,loadVar]
theorem xu{t}{k}(h:gS P t=some (false,k)){b off}{v}(hc:w.cell? ⟨b,off,none⟩=some v):
  (Instr.loadAt t (.pointer (some ⟨b,off,none⟩))).run P w= .ok v w:=by
 obtain⟨h1,h2⟩:=pX h w;simp_all[Instr.loadAt,Instr.sureAddr,loadVar]
theorem xv{t}{f o k}{g}(h:cw P t f=some (o,g,k)){b off}:
  (Instr.fieldAt t (.pointer (some ⟨b,off,none⟩)) f).run P w= .ok (.pointer (some ⟨b,off+o,none⟩)) w:=by
 obtain⟨fs,fl,h1,h2,h3,h4,h5,h6⟩:=M3 h w;simp_all[Instr.fieldAt,Instr.sureAddr,fieldPlace,Addr.add_lit]
end
theorem eW.oJ{w}{O}{x}{xs}(h:eW w O x (.sl xs)):
  ∃(a:Option Addr) (cap:Nat),x= .slice a xs.length cap/\xs.length<=cap/\cap<=maxLen/\∃(k b off:Nat) (f:Nat->Nat->Value),(0<xs.length->a=some ⟨b,off,none⟩/\¬O b/\b<w.heap.size)/\(∀(i:Nat) x,xs[i]?=some x->x.length=k)/\
   (∀i j,i<xs.length->j<k->w.cell? ⟨b,off+i *k+j,none⟩=some (f i j))/\(∀i j x y,xs[i]?=some x->x[j]?=some y->eW w O (f i j) y):=by
 cases h with
 | sl a n cap _ k b off f hn lA pq ha hk hc hr=>subst hn;exact⟨a,cap,rfl,lA,pq,k,b,off,f,ha,hk,hc,hr⟩
theorem aB.kR{w O m x y}(h:aB w O m x (.d y)):eW w O x y:=by
 cases h with
 | d _ _ h=>exact h
theorem aB.cy{w O m x v}(h:aB w O m x (.d (.v v))):x=v:=h.pV
theorem adm{w}{O}{m}{x}{xs}(h:eW w O x (.sl xs)){i}(hi:i < xs.length):
  ∃b off k cap,x= .slice (some ⟨b,off,none⟩) xs.length cap/\(∀y∈xs,y.length=k)/\aB w O m (.pointer (some ⟨b,off+i *k,none⟩)) (.rp (xs[i]?.getD [])):=by
 obtain⟨a,cap,rfl,lA,pq,k,b,off,f,ha,hk,hc,hr⟩:=h.oJ;obtain⟨rfl,hO,aw⟩:=ha (by omega);have jS:=akC hi;refine⟨b,off,k,cap,rfl,?_,?_⟩
 ·intro y hy;obtain⟨j,hj,rfl⟩:=aqe hy;exact hk j _ (akC hj)
 ·rw[jS];refine .rp b (off+i *k) _ (f i) hO aw (λj hj=>?_) (λj y hy=>hr i j _ y jS hy);grind
def aN(k:IntKind)(n:Int):Prop:=k.min<=n/\n<=k.max
def kj(b:Bool):V:=oD b
def ju(k:IntKind)(n:Int):V:= .d (.v (.int k n))
def M4(s:ByteArray):V:= .d (.v (.string s))
def V.un:V->V
 | .gd _ x=>x
 | x=>x
def V.B7:V->Prop
 | .gd g _=>g=true
 | _=>True
def wj(t:Bool)(a b:V):Option (V×Prop):=
 match t with
 | true=>some (a.un,a.B7)
 | false=>some (b.un,b.B7)
theorem TR{a b}:wj true a b=some (a.un,a.B7):=rfl
theorem Qv{a b}:wj false a b=some (b.un,b.B7):=rfl
theorem aar{t p q}:wj t (oD p) (oD q)=some (oD (if t then p else q),True):=by cases t<;>rfl
theorem aas{t g p q}:wj t (.gd g (oD p)) (oD q)=some (oD (if t then p else q),t=true->g=true):=by grind[wj,V.un,V.B7]
theorem aat{t g p q}:wj t (oD p) (.gd g (oD q))=some (oD (if t then p else q),t=false->g=true):=by grind[wj,V.un,V.B7]
def iV(P:Program)(t:TypeId):List D:=(((P.info? t).bind (·.zero)).map λz=>z.cells.toList.map λx=>(D.v x).nn).getD []
def cellAt(xs:List (List V))(i j:Nat)(z:List V):V:=match xs[i]? with
 | some r=>r[j]?.getD .any
 | none=>z.headD .any
def TS(xs:List (List V))(i j k:Nat)(z:List V):List V:=match xs[i]? with
 | some r=>(r.drop j).take k
 | none=>z
theorem W3{xs i j z} h:cellAt xs i j z=xs[i][j]?.getD .any:=by simp[cellAt,akC h]
theorem M5{xs i j k z} h:TS xs i j k z=(xs[i].drop j).take k:=by simp[TS,akC h]
def EE(P:Program)(L:aI)(t:TypeId)(x:V):Option (V×Prop):=
 match gS P t with
 | none=>none
 | some (g,k)=>
   match x with
   | .bp h off=>match L.lookup h with
     | some (.box _ _ cs)=>if g then some (.agg ((cs.drop off).take k),off+k<=cs.length)else some (cs[off]?.getD .any,off<cs.length)
     | _=>none
   | .rp cs=>if g then some (.agg ((cs.take k).map .d),k<=cs.length)else some (.d (cs[0]?.getD default),0<cs.length)
   | .ep h k' i j=>match L.lookup h with
     | some (.row _ HB xs)=>if g then some (.agg (TS xs i j k ((iV P t).map .d)),i<xs.length/\j+k<=k'/\k'=HB)else some (cellAt xs i j ((iV P t).map .d),i<xs.length/\j<k'/\k'=HB)
     | _=>none
   | _=>none
def wm(P:Program)(t:TypeId)(f:Nat)(x:V):Option (V×Prop):=
 match cw P t f with
 | none=>none
 | some (o,_,_)=>
   match x with
   | .bp h off=>some (.bp h (off+o),True)
   | .rp cs=>some (.rp (cs.drop o),True)
   | .ep h k i j=>some (.ep h k i (j+o),True)
   | _=>none
def HC(P:Program)(t:TypeId)(f:Nat)(x:V):Option (V×Prop):=
 match cw P t f with
 | none=>none
 | some (o,g,k)=>
   match x with
   | .agg cs=>if g then some (.agg ((cs.drop o).take k),o+k<=cs.length)else some (cs[o]?.getD .any,o<cs.length)
   | _=>none
def wo(P:Program)(L:aI)(t:TypeId)(x i:V):Option (V×Prop):=
 match i with
 | .d (.v (.int _ n))=>
   match nC P t,x with
   | some (e,k),.d (.sl xs)=>some (.rp (xs[n.toNat]?.getD (iV P e)),(0<=n/\n.toNat<xs.length)/\(xs[n.toNat]?.getD (iV P e)).length=k)
   | some (_,k),.rv h=>match L.lookup h with
     | some (.row _ k' xs)=>some (.ep h k n.toNat 0,(0<=n/\n.toNat<xs.length)/\k=k')
     | _=>none
   | some (_,k),.sv h l=>some (.bp h (n.toNat *k),0<=n/\n.toNat<l)
   | _,x=>match ED P t,x with
     | some (len,_,k),.bp h off=>some (.bp h (off+n.toNat *k),0<=n/\n<len)
     | some (len,_,k),.rp cs=>some (.rp (cs.drop (n.toNat *k)),0<=n/\n<len)
     | _,_=>none
 | _=>none
def HD(P:Program)(t:TypeId)(x i:V):Option (V×Prop):=
 match i with
 | .d (.v (.int _ n))=>
   match x with
   | .d (.v (.string s))=>if rW P t then some (ju .u8 ((s.data.toList[n.toNat]?.getD 0).toNat:Nat),0<=n/\n.toNat<s.size)else none
   | .agg cs=>match ED P t with
     | some (len,false,1)=>some (cs[n.toNat]?.getD .any,(0<=n/\n<len)/\cs.length=len)
     | _=>none
   | _=>none
 | _=>none
def TT(op:BinOp)(x y:V):Option (V×Prop):=
 match x,y with
 | .d (.v (.int k a)),.d (.v (.int k' b))=>
   match op with
   | .shl=>some (ju k (k.wrap (a *2^(min b.toNat k.bits))),0<=b)
   | .shr=>some (ju k (a.fdiv (2^(min b.toNat k.bits))),0<=b)
   | .add=>if k=k' then(if k= .i64 then some (ju .i64 (a+b),aN .i64 (a+b))else some (ju k (k.wrap (a+b)),True))else none
   | .sub=>if k=k' then(if k= .i64 then some (ju .i64 (a-b),aN .i64 (a-b))else some (ju k (k.wrap (a-b)),True))else none
   | .mul=>if k=k' then(if k= .i64 then some (ju .i64 (a *b),aN .i64 (a *b))else some (ju k (k.wrap (a *b)),True))else none
   | .quo=>if k=k' then some (ju k (k.wrap (a.tdiv b)),b≠0)else none
   | .rem=>if k=k' then some (ju k (a.tmod b),b≠0)else none
   | .and=>if k=k' then some (ju k (k.wrap ((BitVec.ofInt k.bits a) &&& (BitVec.ofInt k.bits b)).toNat),True)else none
   | .or=>if k=k' then some (ju k (k.wrap ((BitVec.ofInt k.bits a) ||| (BitVec.ofInt k.bits b)).toNat),True)else none
   | .xor=>if k=k' then some (ju k (k.wrap ((BitVec.ofInt k.bits a) ^^^ (BitVec.ofInt k.bits b)).toNat),True)else none
   | .andNot=>if k=k' then some (ju k (k.wrap ((BitVec.ofInt k.bits a) &&& ~~~(BitVec.ofInt k.bits b)).toNat),True)else none
   | .eql=>if k=k' then some (kj (a==b),True)else none
   | .neq=>if k=k' then some (kj (a !=b),True)else none
   | .lss=>if k=k' then some (kj (decide (a<b)),True)else none
   | .leq=>if k=k' then some (kj (decide (a<=b)),True)else none
   | .gtr=>if k=k' then some (kj (decide (a > b)),True)else none
   | .geq=>if k=k' then some (kj (decide (a>=b)),True)else none
 | .d (.v (.string a)),.d (.v (.string b))=>
   match op with
   | .add=>some (M4 (a++b),((a.size+b.size:Nat):Int)<=IntKind.i64.max)
   | .eql=>some (kj (a.toList==b.toList),True)
   | .neq=>some (kj (!(a.toList==b.toList)),True)
   | _=>none
 | _,_=>none
def unV(op:UnOp)(x:V):Option (V×Prop):=
 match op,x with
 | .not,oD b=>some (kj (!b),True)
 | .neg,.d (.v (.int k n))=>if k= .i64 then some (ju .i64 (-n),aN .i64 (-n))else some (ju k (k.wrap (0-n)),True)
 | _,_=>none
def TU(P:Program)(L:aI)(t:TypeId)(x:V):Option (V×Prop):=
 match x with
 | .d (.v (.string s))=>if rW P t then some (ju .i64 (s.size:Nat),True)else none
 | .d (.sl xs)=>if(nC P t).isSome then some (ju .i64 (xs.length:Nat),True)else none
 | .d (.v (.slice _ n _))=>if(nC P t).isSome then some (ju .i64 (n:Nat),True)else none
 | .rv h=>match L.lookup h with
   | some (.row _ _ xs)=>if(nC P t).isSome then some (ju .i64 (xs.length:Nat),True)else none
   | _=>none
 | .sv _ l=>if(nC P t).isSome then some (ju .i64 (l:Nat),True)else none
 | _=>none
def MF(P:Program)(src dst:TypeId)(x:V):Option (V×Prop):=
 match x,ta P dst with
 | .d (.v (.int k n)),some k'=>if(ta P src).isSome then(if k=k' then some (ju k' n,aN k' n)else some (ju k' (k'.wrap n),True))else none
 | .d (.v (.string s)),none=>if rW P src&&rW P dst then some (M4 s,True)else none
 | _,_=>none
def Gr(x:V)(i:Nat):Option (V×Prop):=
 match x with
 | .bA vs=>some (vs[i]?.getD .any,i<vs.length)
 | _=>none
def Cy(x:V):Option (V×Prop):=
 match x with
 | .bp h off=>some (.bp h off,True)
 | .rp cs=>some (.rp cs,True)
 | .ep h k i j=>some (.ep h k i j,True)
 | _=>none
def TV(P:Program)(ρ:Operand->V)(L:aI)(c:Call):Option (V×Prop):=
 match c.callee,c.args.toList,c.argTypes.toList with
 | .builtin .len,[x],[t]=>TU P L t (ρ x)
 | _,_,_=>none
def tyM(P:Program)(t:TypeId):Option (TypeDesc×TypeId):=
 match P.underlying t with
 | some (.map k e)=>(P.underlying k).map λd=>(d,e)
 | _=>none
def aeR(P:Program)(t:TypeId):Option V:=((P.info? t).bind (·.zero)).bind λz=>match z with
 | .agg vs=>if vs.all (·.oneCell')then some (.agg (vs.toList.map λx=> .d (D.v x).nn))else none
 | z=>if z.oneCell' then some (.d (D.v z).nn)else none
def mn:TypeDesc->Value->Bool
 | .bool,.bool _=>true
 | .int k,.int k' _=>k'==k
 | .string,.string _=>true
 | _,_=>false
def rY:Value->Value->Bool
 | .bool a,.bool b=>a==b
 | .int j a,.int k b=>j==k&&a==b
 | .string a,.string b=>a==b
 | _,_=>false
def yM:List ME->Value->Option V
 | [],_=>none
 | e::es,k=>if rY e.1 k then some e.val else yM es k
def Jt(d:TypeDesc)(es:List ME):Bool:=es.all λe=>mn d e.1
@[simp] theorem agl d:Jt d []=true:=rfl
def Ae(ok:Bool)(v:V)(b:Bool):V:=if ok then .bA [v,kj b]else v
def EF(P:Program)(L:aI)(t:TypeId)(x i:V)(ok:Bool):Option (V×Prop):=
 match tyM P t,x,i with
 | some (d,e),.rv h,.d (.v k)=>match L.lookup h,aeR P e with
   | some (.mp es),some z=>some (Ae ok ((yM es k).getD z) (yM es k).isSome,mn d k=true/\Jt d es=true)
   | _,_=>none
 | _,_,_=>none
def q1(P:Program)(ρ:Operand->V)(L:aI)(o:Oper):Option (V×Prop):=
 match o.op with
 | .move x=>some (ρ x,True)
 | .assign x=>some (ρ x,True)
 | .pick c a b=>match ρ c with
   | oD t=>wj t (ρ a) (ρ b)
   | _=>none
 | .load t a=>EE P L t (ρ a)
 | .fieldAddr t a f=>wm P t f (ρ a)
 | .field t a f=>HC P t f (ρ a)
 | .indexAddr t x i=>wo P L t (ρ x) (ρ i)
 | .index t x i=>HD P t (ρ x) (ρ i)
 | .binOp op _ x y _=>TT op (ρ x) (ρ y)
 | .unOp op _ x=>unV op (ρ x)
 | .convert src dst x=>MF P src dst (ρ x)
 | .extract x i=>Gr (ρ x) i
 | .nilCheck x=>Cy (ρ x)
 | .makeFunc fn first ei=>some (.fu fn (first.toList.map ρ) (ei.toList.map ρ),True)
 | .lookup t x i ok=>EF P L t (ρ x) (ρ i) ok
 | .call c=>TV P ρ L c
 | _=>none
section
variable {P : Program} {w : World} {O : Nat -> Prop} {m : Nat -> Option Value}
theorem td{d k}(h:mn d k=true):MapKept.IsKey d k:=by
 cases d<;>cases k<;>simp_all[mn,MapKept.IsKey]
theorem pY{d a b}(ha:mn d a=true)(hb:mn d b=true):rY a b=true↔a=b:=by
 cases d<;>cases a<;>cases b<;>simp_all[mn,rY,MapKept.bytes_beq]
theorem M6{t e d}(h:tyM P t=some (d,e)) w:∃k,(underlying t).run P w= .ok (.map k e) w/\P.underlying k=some d:=by
 unfold tyM at h;split at h
 ·rename_i k e' he;obtain⟨d',hd,hx⟩:=aoJ.1 h;cases hx;exact⟨k,run_underlying he w,hd⟩
 grind
theorem W4{x}(h:x.oneCell'=true):eW w O x (D.v x).nn:=by
 unfold D.nn;split
 ·rename_i heq;cases heq;exact .sl none 0 0 [] 0 0 0 (λ_ _=>undef) rfl (by omega) (by simp) (by omega) (by simp) (by omega) (by simp)
 ·exact .v x h
theorem W5{t z}(h:aeR P t=some z) w:∃v,(zeroValue t).run P w= .ok v w/\∀O m,aB w O m v z:=by
 obtain⟨v,hv,h2⟩:=apu.1 h;obtain⟨i,hi,hz⟩:=apu.1 hv;refine⟨v,by simp_all[zeroValue,typeInfo],λO m=>?_⟩;split at h2
 ·rename_i vs;split at h2
  ·rename_i bV;simp at h2;subst h2;rw[Array.all_eq_true']at bV;refine .agg vs _ (by simp) (λj x hx=>bV x (aqj hx)) ?_;intro j x y hx hy;rw[aoN,apm,hx]at hy;simp at hy;subst hy;exact .d _ _ (W4 (bV x (aqj hx)))
  grind
 ·split at h2
  ·rename_i h1;simp at h2;subst h2;exact .d _ _ (W4 h1)
  grind
theorem AS{d}{k}(hk:mn d k=true):∀es l,l.length=es.length→es.all (fun e=>mn d e.1)=true→
  (∀(i:Nat) a e,l[i]?=some a->es[i]?=some e->a.key=e.1/\aB w O (λ_=>none) a.val e.val)->∀i,
  (Instr.findNow d k l i=some none/\yM es k=none/\∀e∈es,rY e.1 k=false)\/∃j v y a e,Instr.findNow d k l i=some (some (i+j,v))/\yM es k=some y/\aB w O (λ_=>none) v y/\l[j]?=some a/\es[j]?=some e/\a.key=k/\e.1=k
 | [],[],_,_,_,i=> .inl ⟨rfl,rfl,by simp⟩
 | [],_::_,h,_,_,_=>by grind
 | _::_,[],h,_,_,_=>by grind
 | e::es,a::l,hl,hf,hr,i=>by
   simp only[aq8,aoM]at hf;obtain⟨h1,h2⟩:=hr 0 a e rfl rfl;obtain⟨r,hs,aio⟩:=MapKept.sameNow_of_keys (td hk) (td (h1 ▸ hf.1:mn d a.key=true));by_cases hek:e.1=k
   ·have nD:r=true:=aio.2 (by grind);subst nD;exact .inr ⟨0,a.val,e.val,a,e,by simp[Instr.findNow,hs],by grind[yM,pY],h2,rfl,rfl,by grind,hek⟩
   ·have nD:r=false:=by
     grind
    have bR:rY e.1 k=false:=by
     grind[rY,pY]
    rcases AS hk es l (by grind) hf.2 (λi a e ha he=>hr (i+1) a e (by grind) (by grind)) (i+1)with⟨q1,q2,q3⟩|⟨j,v,y,a',e',q1,q2,q3,q4,q5,q6⟩
    ·grind[Instr.findNow,q1,yM]
    ·exact .inr ⟨j+1,v,y,a',e',by grind[Instr.findNow,q1],by simp_all[yM],q3,by grind,by grind,q6⟩
theorem Ml{fo}{L}{t}{x i}{ok}{y}{c}(h:EF P L t x i ok=some (y,c))(hc:c)(hi:Inv fo m L w){vx vi}(hx:aB w (OO fo m) m vx x)(hv:aB w (OO fo m) m vi i):
  ∃v,(Instr.lookup t vx vi ok).run P w= .ok v w/\aB w (OO fo m) m v y:=by
 unfold EF at h;split at h
 ·rename_i d e hh k htm;split at h
  ·rename_i es z hl hz;cases h;obtain rfl:=hv.cy;have fp:∀{L:aI},L.lookup hh=some (.mp es)->(hh,aV.mp es)∈L:=by
    intro L
    induction L with
    | nil=>simp
    | cons p L ih=>
      grind
   obtain⟨u,hu,r,arr,clock,rfl,hb,hs,gv,Gt⟩:=hi.holds hh _ (fp hl);have hxu:vx= .map (some r):=by
    cases hx with
    | rv _ _ e _=>grind
   subst hxu;obtain⟨kt,km,rC⟩:=M6 htm w;obtain⟨vz,HE,sI⟩:=W5 hz w;have Kz:=MapKept.run_checkKey (P:=P) (w:=w) rC (td hc.1) arr.isEmpty 9999;have acH:∀{v:Value} {y:V},aB w (OO fo m) (λ_=>none) v y->aB w (OO fo m) m v y:=λh=>h.mono (bK.refl w _) (λ_ _ h=>h) (λ_ _ e=>by cases e)
   have fin:∀{v:Value} {y:V} {b:Bool},aB w (OO fo m) m v y->aB w (OO fo m) m (if ok then .tuple #[v,.bool b]else v) (Ae ok y b):=by
    intro v y b hr;cases ok with
    | false=>simp_all[Ae]
    | true=>
      simp only[Ae,if_true];refine .bA _ _ rfl ?_;intro j x y' hx hy
      match j with
      | 0=>grind
      | 1=>simp only [apv,ape,anc]at hy;subst hy
           have:Value.bool b=x:=by grind
           subst this;exact .d _ _ (.v _ rfl)
      | j+2=>grind
   rcases AS (w:=w) (O:=OO fo m) hc.1 es arr.toList (by omega) hc.2 (λi a e ha he=>Gt i a e (by grind) he) 0 with⟨q1,q2,q3⟩|⟨j,v,y,a',e',q1,q2,q3,-⟩
   ·have hf:=MapKept.run_findKey (P:=P) (w:=w) rC q1;refine⟨_,?_,by rw[q2];exact fin (sI _ _)⟩;simp[Instr.lookup,km,MapKept.run_getObj_map hb,Kz,hf,HE,Result.andThen,Sem.run_bind]
   ·have hf:=MapKept.run_findKey (P:=P) (w:=w) rC q1;refine⟨_,?_,by rw[q2];exact fin (acH q3)⟩;simp[Instr.lookup,km,MapKept.run_getObj_map hb,Kz,hf,Result.andThen,Sem.run_bind]
  grind
 grind
end
def W6(P:Program)(o:Oper)(dt:Operand->V)(L:aI)(x:V):Prop:=
 ∀fo m (ρ:Operand->Value) w,Inv fo m L w->(∀z,z∈o.op.operands->aB w (OO fo m) m (ρ z) (dt z))->
  ∃v,(execOp ρ o).run P w= .ok (.value v) w/\aB w (OO fo m) m v x
section
variable {P : Program} {w : World} {fo : FO} {m : Nat -> Option Value} {L : aI}
theorem dK{α:Type}{h r}:∀{L:List (Nat×α)},L.lookup h=some r->(h,r)∈L
 | [],e=>by grind
 | (k,y)::l,e=>by
   rw[List.lookup_cons]at e;by_cases hk:h=k
   ·subst hk;simp at e;subst e;exact aoZ
   ·have:(h==k)=false:=by simpa using hk
    rw[this]at e;exact aoW _ (dK e)
theorem nE b:aB w (OO fo m) m (.bool b) (kj b):= .d _ _ (.v _ rfl)
theorem kT k n:aB w (OO fo m) m (.int k n) (ju k n):= .d _ _ (.v _ rfl)
theorem TW s:aB w (OO fo m) m (.string s) (M4 s):= .d _ _ (.v _ rfl)
theorem aeS{x g y}(h:aB w (OO fo m) m x (.gd g y))(hg:g=true):aB w (OO fo m) m x y:=by
 subst hg;cases h with
 | gt _ _ h=>exact h
theorem vn{O v x}(h:aB w O m v x)(hc:x.B7):aB w O m v x.un:=by
 cases x with
 | gd g y=>
   subst hc;cases h with
   | gt _ _ h=>exact h
 | _=>exact h
theorem Qw{t}{a b}{x}{c}(h:wj t a b=some (x,c))(hc:c){va vb}(ha:aB w (OO fo m) m va a)(hb:aB w (OO fo m) m vb b):
  aB w (OO fo m) m (if t then va else vb) x:=by
 cases t with
 | true=>
   cases h;grind[vn]
 | false=>
   cases h;grind[vn]
theorem xw{x h off}(hr:aB w (OO fo m) m x (.bp h off)):∃b,m h=some (.pointer (some ⟨b,0,none⟩))/\x= .pointer (some ⟨b,off,none⟩):=by
 cases hr with
 | bp _ _ b e=>grind
theorem Cz{x}{cs}(hr:aB w (OO fo m) m x (.rp cs)):∃(b off:Nat) (f:Nat→Value),x= .pointer (some ⟨b,off,none⟩)∧¬(OO fo m) b∧b < w.heap.size∧
  (∀j,j<cs.length->w.cell? ⟨b,off+j,none⟩=some (f j))/\∀j y,cs[j]?=some y->eW w (OO fo m) (f j) y:=by
 cases hr with
 | rp b off _ f hb aw hc hr=>exact⟨b,off,f,rfl,hb,aw,hc,hr⟩
theorem W7{x h n}(hr:aB w (OO fo m) m x (.sv h n)):∃b cap,x= .slice (some ⟨b,0,none⟩) n cap/\m h=some (.pointer (some ⟨b,0,none⟩))/\n<=cap/\cap<=maxLen:=by
 cases hr with
 | sv _ _ b cap e hc hx=>grind
theorem CA{x h k i j}(hr:aB w (OO fo m) m x (.ep h k i j)):∃b o n c,m h=some (.slice (some ⟨b,o,none⟩) n c)/\x= .pointer (some ⟨b,o+i *k+j,none⟩):=by
 cases hr with
 | ep _ _ _ _ b o n c e=>grind
theorem CB{x h}(hr:aB w (OO fo m) m x (.rv h)):m h=some x:=by
 cases hr with
 | rv _ _ e _=>exact e
theorem R4{x}{cs}(hr:aB w (OO fo m) m x (.agg cs)):∃vs:Array Value,x= .agg vs∧vs.size=cs.length∧(∀(j:Nat) x,vs[j]?=some x→x.oneCell'=true)∧
  ∀(j:Nat) x y,vs[j]?=some x->cs[j]?=some y->aB w (OO fo m) m x y:=by
 cases hr with
 | agg vs _ hs h1 h=>grind
theorem adn{x}{cs}(hr:aB w (OO fo m) m x (.bA cs)):∃vs:Array Value,x= .tuple vs∧vs.size=cs.length∧
  ∀(j:Nat) x y,vs[j]?=some x->cs[j]?=some y->aB w (OO fo m) m x y:=by
 cases hr with
 | bA vs _ hs h=>grind
theorem KA(hi:Inv fo m L w){h b}{ty}{cs}(hl:(h,aV.box b ty cs)∈L):
  ∃bb,(b=0\/b=bb+1)/\m h=some (.pointer (some ⟨bb,0,none⟩))/\∃cur:Array Value,w.heap[bb]?=some (.cells cur ty (0,0))/\cur.size=cs.length/\(∀(j:Nat) v,cur[j]?=some v->v.oneCell'=true)/\
   (∀j,w.cell? ⟨bb,j,none⟩=cur[j]?)/\∀(j:Nat) v c,cur[j]?=some v->cs[j]?=some c->aB w (OO fo m) m v c:=by
 obtain⟨x,hx,bb,kq,cur,rfl,hh,hs,h1,hr⟩:=hi.holds h _ hl;grind[World.cell?]
theorem pZ(hi:Inv fo m L w){h k}{ty}{xs}(hl:(h,aV.row ty k xs)∈L)(bR:0 < xs.length):
  ∃b off cap cur,m h=some (.slice (some ⟨b,off,none⟩) xs.length cap)/\w.heap[b]?=some (.cells cur ty (0,0))/\xs.length<=cap/\cap<=maxLen/\off+cap *k<=cur.size/\
   (∀(i:Nat) x,xs[i]?=some x->x.length=k)/\(∀(j:Nat) v,cur[j]?=some v->v.oneCell'=true)/\(∀j,w.cell? ⟨b,j,none⟩=cur[j]?)/\
   ∀i j x y v,xs[i]?=some x->x[j]?=some y->cur[off+i *k+j]?=some v->aB w (OO fo m) m v y:=by
 obtain⟨x,hx,hh⟩:=hi.holds h _ hl;rcases hh with⟨_,rfl⟩|⟨b,off,cap,cur,rfl,hb,h1,h2,h3,h4,h5,h6⟩
 ·grind
 grind[World.cell?]
theorem ado(hi:Inv fo m L w){h k ty xs}(hl:(h,aV.row ty k xs)∈L):∃a cap,m h=some (.slice a xs.length cap):=by
 obtain⟨x,hx,hh⟩:=hi.holds h _ hl;rcases hh with⟨rfl,rfl⟩|⟨b,off,cap,cur,rfl,_⟩
 ·grind
 grind
theorem xx{k}{f}{cs}(hlen:cs.length=k)(h1:∀j,j < k→(f j).oneCell'=true)(hr:∀(j:Nat) (y:V),cs[j]?=some y→aB w (OO fo m) m (f j) y):
  aB w (OO fo m) m (.agg ((List.range k).map f).toArray) (.agg cs):=by
 refine .agg _ _ (by grind) ?_ ?_
 ·grind
 grind
theorem xy{x y O}(h:eW w O x y):x.oneCell'=true:=by
 cases h<;>first|rfl|omega
theorem Ft{t}{a x}{c}(h:EE P L t a=some (x,c))(hc:c)(hi:Inv fo m L w){va}(ha:aB w (OO fo m) m va a):
  ∃v,(Instr.loadAt t va).run P w= .ok v w/\aB w (OO fo m) m v x:=by
 unfold EE at h;split at h
 ·cases h
 ·rename_i g k hA;split at h
  ·-- box
   rename_i hh off;split at h
   ·rename_i bb0 ty cs hl;obtain⟨bb,kq,hm,cur,mw,hs,kB,nz,fD⟩:=KA hi (dK hl);obtain⟨b,e,rfl⟩:=xw ha;rw[hm]at e;obtain rfl:bb=b:=by grind
    cases g with
    | true=>
      simp only[if_true,anc,aoI]at h;obtain⟨rfl,rfl⟩:=h;have CC:∀j,j<k->cur[off+j]?=some (cur.getD (off+j) undef):=λj hj=>by simp[Array.getD,show off+j<cur.size by omega]
      refine⟨_,xr hA (f:=λj=>cur.getD (off+j) undef) (λj hj=>?_),xx ?_ ?_ ?_⟩
      ·grind
      ·grind
      ·grind
      grind
    | false=>
      simp only[aph,if_false,anc,aoI]at h;obtain⟨rfl,rfl⟩:=h;grind[Array.getElem?_eq_getElem,List.getElem?_eq_getElem,xu]
   grind
  ·-- rp
   rename_i cs;obtain⟨b,off,f,rfl,hb,aw,nz,fD⟩:=Cz ha;cases g with
   | true=>
     simp only[if_true,anc,aoI]at h;obtain⟨rfl,rfl⟩:=h;refine⟨_,xr hA (f:=f) (λj hj=>nz j (by omega)),xx (by grind) ?_ ?_⟩
     ·intro j hj;exact xy (fD j _ (akC (by omega)))
     ·intro j y hy;rw[aoN,aqW]at hy;split at hy
      ·obtain⟨z,hz,rfl⟩:=aoJ.1 hy;exact .d _ _ (fD j z hz)
      grind
   | false=>
     simp only[aph,if_false,anc,aoI]at h;obtain⟨rfl,rfl⟩:=h;have h2:cs[0]?=some (cs[0]'hc):=akC hc;exact⟨_,xu hA (by simpa using nz 0 hc),by rw[h2];exact .d _ _ (fD 0 _ h2)⟩
  ·-- ep
   rename_i hh k' i j;split at h
   ·rename_i ty HB xs hl;obtain⟨b,o,n,cc,e,rfl⟩:=CA ha;cases g with
    | true=>
      simp only[if_true,anc,aoI]at h;obtain⟨rfl,rfl⟩:=h;obtain⟨hix,hjk,rfl⟩:=hc;obtain⟨b',off,cap,cur,hm,mw,lA,pq,dZ,hlen,kB,nz,fD⟩:=pZ hi (dK hl) (by omega);rw[hm]at e;simp only[anc,Value.slice.injEq,Addr.mk.injEq]at e;obtain⟨⟨rfl,rfl,_⟩,_,_⟩:=e;have jS:xs[i]?=some xs[i]:=akC hix;have lW:=hlen i _ jS;have iE:(i+1) *k'<=cap *k':=ao4 _ (by omega);rw[apS,aqb]at iE;have CC:∀q,q<k->cur[off+i *k'+j+q]?=some (cur.getD (off+i *k'+j+q) undef):=λq hq=>by simp[Array.getD,show off+i *k'+j+q<cur.size by omega]
      refine⟨_,xr hA (f:=λq=>cur.getD (off+i *k'+j+q) undef) (λq hq=>?_),xx ?_ ?_ ?_⟩
      ·grind
      ·grind[M5]
      ·grind
      grind[M5,Nat.add_assoc]
    | false=>
      simp only[aph,if_false,anc,aoI]at h;obtain⟨rfl,rfl⟩:=h;obtain⟨hix,hjk,rfl⟩:=hc;obtain⟨b',off,cap,cur,hm,mw,lA,pq,dZ,hlen,kB,nz,fD⟩:=pZ hi (dK hl) (by omega);rw[hm]at e;simp only[anc,Value.slice.injEq,Addr.mk.injEq]at e;obtain⟨⟨rfl,rfl,_⟩,_,_⟩:=e;have jS:xs[i]?=some xs[i]:=akC hix;have lW:=hlen i _ jS;have iE:(i+1) *k'<=cap *k':=ao4 _ (by omega);rw[apS,aqb]at iE;grind[Array.getElem?_eq_getElem,List.getElem?_eq_getElem,xu,W3]
   grind
  grind
theorem Gu{t}{f}{a x}{c}(h:wm P t f a=some (x,c)){va}(ha:aB w (OO fo m) m va a):
  ∃v,(Instr.fieldAt t va f).run P w= .ok v w/\aB w (OO fo m) m v x:=by
 unfold wm at h;split at h
 ·cases h
 ·rename_i o g k hF;split at h
  ·cases h;obtain⟨b,e,rfl⟩:=xw ha;exact⟨_,xv hF,.bp _ _ b e⟩
  ·cases h;obtain⟨b,off,f',rfl,hb,aw,nz,fD⟩:=Cz ha;refine⟨_,xv hF,.rp b (off+o) _ (λj=>f' (o+j)) hb aw (λj hj=>?_) (λj y hy=>?_)⟩
   ·grind
   grind
  ·cases h;obtain⟨b,oo,n,cc,e,rfl⟩:=CA ha;refine⟨_,xv hF,?_⟩;rw[aqz];exact .ep _ _ _ _ b oo n cc e
  grind
theorem HF{vs}{cs:List V}{o k}{g}{ft}(h4:(isAgg ft).run P w= .ok g w)(h5:(sizeOf ft).run P w= .ok k w)(hs:vs.size=cs.length)
  (h1:∀(j:Nat) (x:Value),vs[j]?=some x->x.oneCell'=true) (hr:∀(j:Nat) (x:Value) (y:V),vs[j]?=some x->cs[j]?=some y->aB w (OO fo m) m x y)
  (hb:if g then o+k<=cs.length else o<cs.length):
  ∃v,(part ft vs o).run P w= .ok v w/\aB w (OO fo m) m v (if g then .agg ((cs.drop o).take k)else cs[o]?.getD .any):=by
 cases g with
 | true=>
   refine⟨.agg (vs.extract o (o+k)),by simp_all[part],?_⟩;refine .agg _ _ (by grind) ?_ ?_
   ·grind[Array.getElem?_extract]
   grind
 | false=>
   simp at hb⊢;exact⟨vs[o]'(by omega),by simp_all[part],by grind⟩
theorem M7{t}{f}{a x}{c}(h:HC P t f a=some (x,c))(hc:c){va}(ha:aB w (OO fo m) m va a):
  ∃v,(Instr.field t va f).run P w= .ok v w/\aB w (OO fo m) m v x:=by
 unfold HC at h;split at h
 ·cases h
 ·rename_i o g k hF;split at h
  ·rename_i cs;obtain⟨fs,fl,h1,h2,h3,h4,h5,h6⟩:=M3 hF w;obtain⟨vs,rfl,hs,h7,hr⟩:=R4 ha;have hh:(if g then o+k<=cs.length else o<cs.length)/\x=(if g then .agg ((cs.drop o).take k)else cs[o]?.getD .any):=by
    grind
   obtain⟨v,hv,fD⟩:=HF h4 h5 hs h7 hr hh.1;simp_all[Instr.field,asAgg]
  grind
theorem M8(hi:Inv fo m L w){h k ty xs}(hl:L.lookup h=some (.row ty k xs)){x}(hr:aB w (OO fo m) m x (.rv h)):∃a cap,m h=some x/\x= .slice a xs.length cap:=by
 obtain⟨a,cap,e⟩:=ado hi (dK hl);grind[CB,Option.some.injEq]
theorem Gv{t}{a i x}{c}(h:wo P L t a i=some (x,c))(hc:c)(hi:Inv fo m L w){va vi}(ha:aB w (OO fo m) m va a)(hv:aB w (OO fo m) m vi i):
  ∃v,(Instr.indexAt t va vi).run P w= .ok v w/\aB w (OO fo m) m v x:=by
 unfold wo at h;split at h
 ·rename_i kk n;obtain rfl:=hv.cy;split at h
  ·rename_i e k xs hE;cases h;obtain⟨⟨h0,h1⟩,h2⟩:=hc;obtain⟨b,off,k',cap,rfl,hk,fD⟩:=adm (m:=m) ha.kR h1;have sG:k'=k:=by
    grind
   subst sG;obtain⟨h3,h4⟩:=oa hE w;refine⟨_,?_,by rw[akC h1]at fD⊢;exact fD⟩;have aw:n<xs.length:=by omega
   simp[Instr.indexAt,asIntOf,h3,h4,h0,aw,Addr.add_lit]
  ·rename_i e k hh hE;split at h
   ·rename_i ty k' xs hl;cases h;obtain⟨⟨h0,h1⟩,rfl⟩:=hc;obtain⟨b,off,cap,cur,hm,-⟩:=pZ hi (dK hl) (by omega);have:=CB ha;rw[hm]at this;obtain rfl:=aoK this;obtain⟨h3,h4⟩:=oa hE w;have aw:n<xs.length:=by omega
    refine⟨.pointer (some ⟨b,off+n.toNat *k+0,none⟩),?_,.ep _ _ _ _ b off _ _ hm⟩;simp[Instr.indexAt,asIntOf,h3,h4,h0,aw,Addr.add_lit]
   grind
  ·rename_i e k hh l hE;cases h;obtain⟨h0,h1⟩:=hc;obtain⟨b,cap,rfl,em,lA,pq⟩:=W7 ha;obtain⟨h3,h4⟩:=oa hE w;have aw:n<l:=by omega
   refine⟨_,?_,.bp _ _ b em⟩;simp[Instr.indexAt,asIntOf,h3,h4,h0,aw,Addr.add_lit]
  ·split at h
   ·rename_i len g k hh off hA _ _ _;cases h;obtain⟨h0,h1⟩:=hc;obtain⟨e,h3,h5,h4⟩:=AR hA w;obtain⟨b,e',rfl⟩:=xw ha;refine⟨_,?_,.bp _ _ b e'⟩;simp[Instr.indexAt,asIntOf,h3,h4,h0,h1,Addr.add_lit,Instr.sureAddr]
   ·rename_i len g k cs hA _ _ _;cases h;obtain⟨h0,h1⟩:=hc;obtain⟨e,h3,h5,h4⟩:=AR hA w;obtain⟨b,off,f',rfl,hb,aw,nz,fD⟩:=Cz ha;refine⟨.pointer (some ⟨b,off+n.toNat *k,none⟩),?_,.rp b (off+n.toNat *k) _ (λj=>f' (n.toNat *k+j)) hb aw (λj hj=>?_) (λj y hy=>?_)⟩
    ·simp[Instr.indexAt,asIntOf,h3,h4,h0,h1,Addr.add_lit,Instr.sureAddr]
    ·grind
    grind
   grind
 grind
theorem wq{t}(h:rW P t=true) w:(underlying t).run P w= .ok .string w:=by
 grind[rW,run_underlying]
theorem M9{t}{a i x}{c}(h:HD P t a i=some (x,c))(hc:c){va vi}(ha:aB w (OO fo m) m va a)(hv:aB w (OO fo m) m vi i):
  ∃v,(Instr.index t va vi).run P w= .ok v w/\aB w (OO fo m) m v x:=by
 unfold HD at h;split at h
 ·rename_i kk n;obtain rfl:=hv.cy;split at h
  ·rename_i s;obtain rfl:=ha.cy;split at h
   ·cases h;obtain⟨h0,h1⟩:=hc;have e2:s.data.toList[n.toNat]?=some (s[n.toNat]'h1):=by
     rw[apm];exact ao7 h1
    simp_all[Instr.index,asIntOf,wq,kT]
   grind
  ·split at h
   ·rename_i len hA;cases h;obtain⟨vs,rfl,hs,h7,hr⟩:=R4 ha;obtain⟨e,h3,h5,h4⟩:=AR hA w;obtain⟨v,hv',fD⟩:=HF (o:=n.toNat) h5 h4 hs h7 hr (by grind);simp_all[Instr.index,asIntOf]
   grind
  grind
 grind
theorem iX{k n}(h:aN k n):k.wrap n=n:=by
 unfold aN IntKind.min IntKind.max at h;unfold IntKind.wrap;cases k<;>simp[IntKind.bits,IntKind.signed]at *<;>omega
theorem TX{op}{t}{xo yo}{a b x}{c}(h:TT op a b=some (x,c))(hc:c){va vb}(ha:aB w (OO fo m) m va a)(hb:aB w (OO fo m) m vb b):
  ∃v,(do eqGuard op t xo yo va vb;binOp op t va vb:Sem Value).run P w= .ok v w/\aB w (OO fo m) m v x:=by
 unfold TT at h;split at h
 ·rename_i k p k' q;obtain rfl:=ha.cy;obtain rfl:=hb.cy;have hg:(eqGuard op t xo yo (.int k p) (.int k' q)).run P w= .ok () w:=by
   simp[eqGuard]
  rw[Sem.run_bind,hg];simp only[Result.andThen_ok];split at h
  ·cases h;exact⟨_,by simp[binOp,Op.shift,Int.not_lt.2 hc],kT _ _⟩
  ·cases h;exact⟨_,by simp[binOp,Op.shift,Int.not_lt.2 hc],kT _ _⟩
  all_goals (split at h;rotate_left;cases h;rename_i hk;subst hk)
  case h_3|h_4|h_5=>
   split at h
   ·rename_i hk;subst hk;cases h;simp_all[binOp,Op.intArith,ne_eq,not_true_eq_false,if_false,Sem.run_pure,iX,kT]
   ·cases h;simp[binOp,Op.intArith,kT]
  case h_6|h_7=>
   cases h;simp_all[binOp,Op.intDiv,kT]
  case h_8|h_9|h_10|h_11=>
   cases h;exact⟨_,by simp only[binOp,Op.intBits,ne_eq,not_true_eq_false,if_false,Sem.run_pure],kT _ _⟩
  all_goals
   cases h;exact⟨_,by simp[binOp,Op.intCmp],nE _⟩
 ·rename_i p q;obtain rfl:=ha.cy;obtain rfl:=hb.cy;have hg:(eqGuard op t xo yo (.string p) (.string q)).run P w= .ok () w:=by
   simp[eqGuard]
  rw[Sem.run_bind,hg];split at h
  ·cases h;simp_all[binOp,Op.stringOp,if_neg,Int.not_lt,TW]
  ·cases h;simp[binOp,Op.stringOp,nE]
  ·cases h;simp[binOp,Op.stringOp,nE]
  grind
 grind
theorem W8{op}{a x}{c}(h:unV op a=some (x,c))(hc:c){va}(ha:aB w (OO fo m) m va a):
  ∃v,(Op.unary op va).run P w= .ok v w/\aB w (OO fo m) m v x:=by
 unfold unV at h;split at h
 ·obtain rfl:=ha.cy;cases h;exact⟨_,rfl,nE _⟩
 ·obtain rfl:=ha.cy;split at h
  ·cases h;simp_all[kT,Op.unary,Op.intArith,iX]
  ·cases h;exact⟨_,rfl,kT _ _⟩
 grind
theorem TY{t ty}{a x}{c}(h:TU P L t a=some (x,c))(hi:Inv fo m L w){va}(ha:aB w (OO fo m) m va a):
  ∃v,(Builtin.len_ #[t] ty #[va]).run P w= .ok v w/\aB w (OO fo m) m v x:=by
 unfold TU at h;split at h
 ·obtain rfl:=ha.cy;split at h
  ·rename_i s hs;cases h;exact⟨_,by simp[Builtin.len_,wq hs w];rfl,kT _ _⟩
  grind
 ·split at h
  ·rename_i hE;cases h;obtain⟨⟨e,k⟩,Na⟩:=apJ.1 hE;obtain⟨a',cap,rfl,-⟩:=ha.kR.oJ;exact⟨_,by simp[Builtin.len_,(oa Na w).1];rfl,kT _ _⟩
  grind
 ·split at h
  ·rename_i hE;cases h;obtain⟨⟨e,k⟩,Na⟩:=apJ.1 hE;obtain rfl:=ha.cy;exact⟨_,by simp[Builtin.len_,(oa Na w).1];rfl,kT _ _⟩
  grind
 ·split at h
  ·rename_i hl;split at h
   ·rename_i hE;cases h;obtain⟨⟨e,k⟩,Na⟩:=apJ.1 hE;obtain⟨a',cap,_,rfl⟩:=M8 hi hl ha;exact⟨_,by simp[Builtin.len_,(oa Na w).1];rfl,kT _ _⟩
   grind
  grind
 ·split at h
  ·rename_i hE;cases h;obtain⟨⟨e,k⟩,Na⟩:=apJ.1 hE;obtain⟨b,cap,rfl,-⟩:=W7 ha;exact⟨_,by simp[Builtin.len_,(oa Na w).1];rfl,kT _ _⟩
  grind
 grind
theorem TZ{t k}(h:ta P t=some k) w:(underlying t).run P w= .ok (.int k) w:=by
 grind[ta,Option.some.injEq,run_underlying]
theorem Qx{src dst}{a x}{c}(h:MF P src dst a=some (x,c))(hc:c){va}(ha:aB w (OO fo m) m va a):
  ∃v,(convert src dst va).run P w= .ok v w/\aB w (OO fo m) m v x:=by
 unfold MF at h;split at h
 ·rename_i k n k' hd;obtain rfl:=ha.cy;split at h
  ·rename_i hs;obtain⟨ks,hs⟩:=apJ.1 hs;have bw:(convert src dst (.int k n)).run P w= .ok (.int k' (k'.wrap n)) w:=by
    simp_all[convert,TZ,Conv.intToInt]
   split at h
   ·cases h;simp_all[iX,kT]
   ·cases h;simp_all[kT]
  grind
 ·obtain rfl:=ha.cy;split at h
  ·cases h;simp_all[convert,wq,TW]
  grind
 grind
theorem R5{ρ}{dt}(l:Array Operand)(h:∀z,z∈l→aB w (OO fo m) m (ρ z) (dt z)):
  ∀(j:Nat) x y,(l.map ρ)[j]?=some x->(l.toList.map dt)[j]?=some y->aB w (OO fo m) m x y:=by
 grind
theorem aau{dt o x c}(h:q1 P dt L o=some (x,c))(hc:c):W6 P o dt L x:=by
 intro fo m ρ w hi hr;obtain⟨dst,op,ty,pos,after,guard⟩:=o;unfold q1 at h;simp only at h hr;split at h
 ·simp only[anc,aoI]at h;obtain⟨rfl,_⟩:=h;exact⟨_,rfl,hr _ (by simp[Op.operands])⟩
 ·simp only[anc,aoI]at h;obtain⟨rfl,_⟩:=h;exact⟨_,rfl,hr _ (by simp[Op.operands])⟩
 ·rename_i co ao bo;split at h
  ·rename_i t ht;have h1:=hr co (by simp[Op.operands]);rw[ht]at h1;refine⟨_,?_,Qw h hc (hr ao (by simp[Op.operands])) (hr bo (by simp[Op.operands]))⟩;simp only[execOp];rw[h1.cy];rfl
  grind
 ·obtain⟨v,h1,h2⟩:=Ft h hc hi (hr _ (by simp[Op.operands]));simp_all[execOp]
 ·obtain⟨v,h1,h2⟩:=Gu (w:=w) h (hr _ (by simp[Op.operands]));simp_all[execOp]
 ·obtain⟨v,h1,h2⟩:=M7 (w:=w) h hc (hr _ (by simp[Op.operands]));simp_all[execOp]
 ·rename_i t xo io;obtain⟨v,h1,h2⟩:=Gv h hc hi (hr xo (by simp[Op.operands])) (hr io (by simp[Op.operands]));simp_all[execOp]
 ·rename_i t xo io;obtain⟨v,h1,h2⟩:=M9 (w:=w) h hc (hr xo (by simp[Op.operands])) (hr io (by simp[Op.operands]));simp_all[execOp]
 ·rename_i bop t xo yo yt;obtain⟨v,h1,h2⟩:=TX (P:=P) (w:=w) (t:=t) (xo:=xo) (yo:=yo) h hc (hr xo (by simp[Op.operands])) (hr yo (by simp[Op.operands]));refine⟨v,?_,h2⟩;simp only[execOp];rw[Sem.run_bind,h1];rfl
 ·obtain⟨v,h1,h2⟩:=W8 (P:=P) (w:=w) h hc (hr _ (by simp[Op.operands]));simp_all[execOp]
 ·obtain⟨v,h1,h2⟩:=Qx (w:=w) h hc (hr _ (by simp[Op.operands]));simp_all[execOp]
 ·rename_i xo i;have hx:=hr xo (by simp[Op.operands]);unfold Gr at h;split at h
  ·rename_i vs hvs;simp only[anc,aoI]at h;obtain⟨rfl,rfl⟩:=h;rw[hvs]at hx;obtain⟨us,hu,hs,fD⟩:=adn hx;have h2:us[i]?=some (us[i]'(by omega)):=ao7 (by omega);have h3:vs[i]?=some (vs[i]'hc):=akC hc;exact⟨us[i]'(by omega),by simp_all[execOp,Instr.extract],by grind⟩
  grind
 ·rename_i xo;have hx:=hr xo (by simp[Op.operands]);unfold Cy at h;split at h
  ·rename_i hv;simp only[anc,aoI]at h;obtain⟨rfl,_⟩:=h;rw[hv]at hx;obtain⟨b,e,hp⟩:=xw hx;simp_all[execOp]
  ·rename_i hv;simp only[anc,aoI]at h;obtain⟨rfl,_⟩:=h;rw[hv]at hx;obtain⟨b,off,f',hp,-⟩:=Cz hx;simp_all[execOp]
  ·rename_i hv;simp only[anc,aoI]at h;obtain⟨rfl,_⟩:=h;rw[hv]at hx;obtain⟨b,oo,n,cc,e,hp⟩:=CA hx;simp_all[execOp]
  grind
 ·rename_i fn first ei
  simp only[anc,aoI]at h;obtain⟨rfl,_⟩:=h;refine⟨.func fn (first.map ρ) (ei.map ρ),by rfl,.fu _ _ _ _ _ (by simp) (by simp) ?_ ?_⟩
  ·grind[R5,Op.operands]
  grind[R5,Op.operands]
 ·rename_i t xo io ok;obtain⟨v,h1,h2⟩:=Ml h hc hi (hr xo (by simp[Op.operands])) (hr io (by simp[Op.operands]));simp_all[execOp]
 ·rename_i cl;obtain⟨callee,args,argTypes⟩:=cl;unfold TV at h;split at h
  ·rename_i xo t p6 ob aav;simp only at p6 ob aav;obtain rfl:args= #[xo]:=by grind
   obtain rfl:argTypes= #[t]:=by grind
   subst p6;obtain⟨v,h1,h2⟩:=TY (ty:=ty) h hi (hr xo (by simp[Op.operands,Call.operands]));simp_all[execOp,resolve,invoke,builtin]
  grind
 grind
end
section
variable {P : Program} {w w' : World} {fo : FO} {m m' : Nat -> Option Value} {L : aI} {n : Nat} {s : St} {a : Act}
theorem aV.Holds.mono{O O'}{x}{r:aV}(h:r.Holds w O m x)(hb:∀b,dn x b→w'.heap[b]?=w.heap[b]?)(hk:bK w O w')
  (hO:∀b,b<w.heap.size->O' b->O b) (hm:∀h x,m h=some x->m' h=some x):r.Holds w' O' m' x:=by
 cases r with
 | box b ty cs=>
   obtain⟨bb,kq,cur,rfl,h1,h2,h3,h4⟩:=h;exact⟨bb,kq,cur,rfl,by rw[hb bb rfl];exact h1,h2,h3,λj v c hv hc=>(h4 j v c hv hc).mono hk hO hm⟩
 | row ty k xs=>
   rcases h with h|⟨b,off,cap,cur,rfl,h1,h2,h3,h4,h5,h6,h7⟩
   ·exact .inl h
   ·exact .inr ⟨b,off,cap,cur,rfl,by rw[hb b rfl];exact h1,h2,h3,h4,h5,h6,λi j x y v h1 h2 h3=>(h7 i j x y v h1 h2 h3).mono hk hO hm⟩
 | env A=>exact A.mono h hb hk hO
 | mp es=>exact Kw h hb hk hO
theorem aV.Holds.lt{O x}{r:aV}(h:r.Holds w O m x){b}(hb:dn x b):b<w.heap.size:=by
 cases r with
 | box b' ty cs=>
   obtain⟨bb,kq,cur,rfl,h1,_⟩:=h;grind[dn,jJ,Array.getElem?_eq_some_iff]
 | row ty k xs=>
   rcases h with⟨rfl,_⟩|⟨b',off,cap,cur,rfl,h1,_⟩
   ·grind[dn,jJ]
   grind[dn,jJ,Array.getElem?_eq_some_iff]
 | env A=>exact A.lt h hb
 | mp es=>exact adl h hb
theorem HG{h}(hk:h∈keys L):∃r,(h,r)∈L:=by
 obtain⟨p,hp,rfl⟩:=aoQ.1 hk;grind
theorem Inv.lt(hi:Inv fo m L w){h b x}(hx:m h=some x)(hb:dn x b):b<w.heap.size:=by
 obtain⟨r,hr⟩:=HG (hi.fI h x hx);obtain⟨y,hy,hh⟩:=hi.holds h r hr;rw[hx]at hy;obtain rfl:=aoK hy;exact hh.lt hb
theorem Inv.agJ(hi:Inv fo m L w){b}(h:OO fo m b):b<w.heap.size:=by
 rcases h with⟨h,x,hx,hb⟩|h
 ·exact hi.lt hx hb
 ·exact hi.ej b h
def eY(m:Nat->Option Value)(h:Nat)(x:Value):Nat->Option Value:=λi=>if i=h then some x else m i
theorem cr h x:eY m h x h=some x:=by simp[eY]
theorem eA{h i} x(bR:i≠h):eY m h x i=m i:=by grind[eY]
theorem adp(hi:Inv fo m L w){h}(hn:h∉keys L):m h=none:=by
 cases hm:m h with
 | none=>rfl
 | some x=>exact(hn (hi.fI h x hm)).elim
theorem sf(hi:Inv fo m L w){h}(hn:h∉keys L) x:∀i y,m i=some y->eY m h x i=some y:=by
 grind[adp,eA]
theorem Inv.new(hi:Inv fo m L w){h}(hn:h∉keys L){x}{r}(hs:w.heap.size≤w'.heap.size)(ti:∀b,b < w.heap.size→w'.heap[b]?=w.heap[b]?)
  (hx:∀b,dn x b->w.heap.size<=b) (hh:r.Holds w' (OO fo (eY m h x)) (eY m h x) x):Inv fo (eY m h x) ((h,r)::L) w':=by
 have jT:=sf hi hn x;have hO:∀b,b<w.heap.size->OO fo (eY m h x) b->OO fo m b:=by
  rintro b hb (⟨i,y,hy,kH⟩|hf)
  ·by_cases kI:i=h
   ·subst kI;rw[cr]at hy;grind
   ·rw[eA x kI]at hy;exact .inl ⟨i,y,hy,kH⟩
  ·exact .inr hf
 refine⟨?_,?_,?_,?_,?_,?_,hi.ef.mono ⟨hs,λb hb _=>ti b hb⟩ hO⟩
 ·simp only[keys,ao9,apx];exact⟨hn,hi.nodup⟩
 ·intro i y hy;by_cases kI:i=h
  ·simp_all[keys]
  ·rw[eA x kI]at hy;exact aoW _ (hi.fI i y hy)
 ·intro i j y z b hy hz kH KB;by_cases kI:i=h<;>by_cases Nb:j=h
  ·omega
  ·subst kI;rw[cr]at hy;rw[eA x Nb]at hz;obtain rfl:=aoK hy;have:=hx b kH;have:=hi.lt hz KB;omega
  ·subst Nb;rw[cr]at hz;rw[eA x kI]at hy;obtain rfl:=aoK hz;have:=hx b KB;have:=hi.lt hy kH;omega
  ·rw[eA x kI]at hy;rw[eA x Nb]at hz;exact hi.apart i j y z b hy hz kH KB
 ·intro i y b hy kH hf;by_cases kI:i=h
  ·subst kI;rw[cr]at hy;obtain rfl:=aoK hy;have:=hx b kH;have:=hi.ej b hf;omega
  ·rw[eA x kI]at hy;exact hi.others i y b hy kH hf
 ·intro b hf;exact ao3 (hi.ej b hf) hs
 ·intro i q hq;rcases ao0.1 hq with hq|hq
  ·cases hq;exact⟨x,cr _ _,hh⟩
  ·obtain⟨y,hy,Nc⟩:=hi.holds i q hq;exact⟨y,jT i y hy,Nc.mono (λb hb=>ti b (hi.lt hy hb)) ⟨hs,λb hb _=>ti b hb⟩ hO jT⟩
theorem CD(hi:Inv fo m L w){h x}(hx:∀b,dn x b->w.heap.size<=b):∀b,b<w.heap.size->OO fo (eY m h x) b->OO fo m b:=by
 rintro b hb (⟨i,y,hy,kH⟩|hf)
 ·by_cases kI:i=h
  ·subst kI;rw[cr]at hy;grind
  ·rw[eA x kI]at hy;exact .inl ⟨i,y,hy,kH⟩
 ·exact .inr hf
theorem adq{h x}(hx:∀b,dn x b->w.heap.size<=b):∀b,b<w.heap.size->own (eY m h x) b->own m b:=by
 rintro b hb ⟨i,y,hy,kH⟩;by_cases kI:i=h
 ·subst kI;rw[cr]at hy;grind
 ·rw[eA x kI]at hy;exact⟨i,y,hy,kH⟩
structure hY(w w':World):Prop where
 os:w'.os=w.os
 tape:w'.tape=w.tape
 output:w'.output=w.output
 size:w.heap.size<=w'.heap.size
 block:∀b,b<w.heap.size->w'.heap[b]?=w.heap[b]?
theorem hY.alloc w o:hY w (w.alloc o):=
 ⟨rfl,rfl,rfl,by simp,λb hb=>Below.heap_alloc w o b hb⟩
where
 Below.heap_alloc w o k (h:k<w.heap.size):(w.alloc o).heap[k]?=w.heap[k]?:=by
  show(w.heap.push o)[k]?=_;grind
theorem G.new(g:G fo n m s a w)(gr:hY w w'){h}(hn:h∉keys s.L){x}{r}(hx:∀b,dn x b→w.heap.size≤b)
  (hh:r.Holds w' (OO fo (eY m h x)) (eY m h x) x):G fo n (eY m h x) {s with L:=(h,r)::s.L} a w'/\Step w (own m) w' (own (eY m h x)):=
 ⟨⟨g.size,λt y hy=>⟨(g.fr t y hy).1,(g.fr t y hy).2.mono ⟨gr.size,λb hb _=>gr.block b hb⟩ (CD g.inv hx) (sf g.inv hn x)⟩,g.inv.new hn gr.size gr.block hx hh,g.defers⟩,
  ⟨gr.os,gr.tape,gr.output,gr.size,λb hb _=>gr.block b hb,adq hx⟩⟩
def aI.jz(L:aI)(h:Nat)(r:aV):aI:=L.map λp=>if p.1=h then(h,r)else p
theorem xz L h r:keys (aI.jz L h r)=keys L:=by
 unfold keys aI.jz;rw[ap6];apply List.map_congr_left;grind
structure EG(w:World) (b:Nat) (w':World):Prop where
 os:w'.os=w.os
 tape:w'.tape=w.tape
 output:w'.output=w.output
 size:w.heap.size<=w'.heap.size
 block:∀c,c<w.heap.size->c≠b->w'.heap[c]?=w.heap[c]?
theorem lB w b cs:EG w b (w.setRow b cs):=
 ⟨rfl,rfl,rfl,by simp,λc _ bR=>by
  simp[World.setRow];grind⟩
theorem Inv.jz(hi:Inv fo m L w){h b x}(hx:m h=some x)(hb:dn x b)(wr:EG w b w'){r}(hh:r.Holds w' (OO fo m) m x):Inv fo m (L.jz h r) w':=by
 have cQ:bK w (OO fo m) w':=⟨wr.size,λc hc ho=>wr.block c hc (λe=>ho (.inl ⟨h,x,hx,e ▸ hb⟩))⟩
 refine⟨by rw[xz];exact hi.nodup,by rw[xz];exact hi.fI,hi.apart,hi.others,λb hf=>ao3 (hi.ej b hf) wr.size,?_,hi.ef.mono cQ (λ_ _ h=>h)⟩;intro i q hq;obtain⟨p,hp,he⟩:=aoQ.1 hq;split at he
 ·grind
 ·rename_i bR;subst he;obtain⟨y,hy,Nc⟩:=hi.holds _ _ hp;refine⟨y,hy,Nc.mono (λc hc=>?_) cQ (λ_ _ h=>h) (λ_ _ h=>h)⟩;refine wr.block c (hi.lt hy hc) (λe=>bR ?_);subst e;exact hi.apart _ _ _ _ _ hy hx hc hb
theorem G.jz(g:G fo n m s a w){h b}{x}(hx:m h=some x)(hb:dn x b)(wr:EG w b w'){r}(hh:r.Holds w' (OO fo m) m x):
  G fo n m {s with L:=aI.jz s.L h r} a w'/\Step w (own m) w' (own m):=by
 have cQ:bK w (OO fo m) w':=⟨wr.size,λc hc ho=>wr.block c hc (λe=>ho (.inl ⟨h,x,hx,e ▸ hb⟩))⟩
 exact⟨⟨g.size,λt y hy=>⟨(g.fr t y hy).1,(g.fr t y hy).2.mono cQ (λ_ _ h=>h) (λ_ _ h=>h)⟩,g.inv.jz hx hb wr hh,g.defers⟩,
  ⟨wr.os,wr.tape,wr.output,wr.size,λc hc ho=>wr.block c hc (λe=>ho ⟨h,x,hx,e ▸ hb⟩),λ_ _ h=>h⟩⟩
end
mutual
def V.kill(h:Nat):V->V
 | .bp i o=>if i=h then .any else .bp i o
 | .rv i=>if i=h then .any else .rv i
 | .ep i k x y=>if i=h then .any else .ep i k x y
 | .fu fn f c=> .fu fn (V.dU h f) (V.dU h c)
 | .agg cs=> .agg (V.dU h cs)
 | .bA cs=> .bA (V.dU h cs)
 | .gd b x=> .gd b (V.kill h x)
 | .d x=> .d x
 | .rp cs=> .rp cs
 | .sv i n=>if i=h then .any else .sv i n
 | .kn Q=> .kn Q
 | .any=> .any
def V.dU(h:Nat):List V->List V
 | []=> []
 | x::l=>V.kill h x::V.dU h l
end
theorem iz h:∀l:List V,V.dU h l=l.map (V.kill h)
 | []=>by rfl
 | x::l=>by simp[V.dU,iz]
def dd(ys:List (List D)):List (List V):=ys.map (·.map V.d)
theorem Ju h(l:List D):V.dU h (l.map V.d)=l.map V.d:=by
 simp[iz,V.kill]
def aV.kill(h:Nat):aV->aV
 | .box b ty cs=> .box b ty (V.dU h cs)
 | .row ty k xs=> .row ty k (xs.map (V.dU h))
 | .env A=> .env A
 | .mp es=> .mp es
theorem adr h ys:(dd ys).map (V.dU h)=dd ys:=by
 simp[dd,Ju]
def St.kill(h:Nat)(s:St):St:=⟨s.fr.map λp=>(p.1,p.2.kill h),s.L.map λp=>(p.1,p.2.kill h)⟩
theorem aB.kill{w O m m' h}(hm:∀i x,i≠h->m i=some x->m' i=some x){x y}(hr:aB w O m x y):aB w O m' x (y.kill h):=by
 induction hr with
 | d x y hd=>simpa[V.kill]using aB.d x y hd
 | bp i off b e=>
   simp only[V.kill];split
   ·exact .any _
   ·rename_i bR;exact .bp i off b (hm _ _ bR e)
 | rv i x e e1=>
   simp only[V.kill];split
   ·exact .any _
   ·rename_i bR;exact .rv i x (hm _ _ bR e) e1
 | ep i k p q b o n c e=>
   simp only[V.kill];split
   ·exact .any _
   ·rename_i bR;exact .ep i k p q b o n c (hm _ _ bR e)
 | rp b off cs f hb aw hc hr=>simpa[V.kill]using aB.rp b off cs f hb aw hc hr
 | sv i n b cap e hc hx=>
   simp only[V.kill];split
   ·exact .any _
   ·rename_i bR;exact .sv i n b cap (hm _ _ bR e) hc hx
 | fu fn first ei cf cc s1 s2 h1 h2 Fs Kv=>
   simp only[V.kill,iz];refine .fu fn first ei _ _ (by grind) (by grind) ?_ ?_
   ·grind
   grind
 | agg vs cs hs h1 h2 ih=>
   simp only[V.kill,iz];refine .agg vs _ (by grind) h1 ?_;grind
 | bA vs cs hs h2 ih=>
   simp only[V.kill,iz];refine .bA vs _ (by grind) ?_;grind
 | gt x y hr ih=>simpa[V.kill]using aB.gt x _ ih
 | gf y=>simpa[V.kill]using aB.gf (y.kill h)
 | kn x Q h=>simpa[V.kill]using aB.kn x Q h
 | any x=>simpa[V.kill]using aB.any x
theorem aV.Holds.kill{w O m m' h}(hm:∀i x,i≠h->m i=some x->m' i=some x){x}{r:aV}(hh:r.Holds w O m x):(r.kill h).Holds w O m' x:=by
 cases r with
 | box b ty cs=>
   obtain⟨bb,kq,cur,rfl,h1,h2,h3,h4⟩:=hh;simp[aV.kill,iz];refine⟨bb,kq,cur,rfl,h1,by grind,h3,λj v c hv hc=>?_⟩;rw[aoN]at hc;obtain⟨z,hz,rfl⟩:=aoJ.1 hc;exact(h4 j v z hv hz).kill hm
 | row ty k xs=>
   rcases hh with⟨rfl,rfl⟩|⟨b,off,cap,cur,rfl,h1,h2,h3,h4,h5,h6,h7⟩
   ·exact .inl ⟨rfl,rfl⟩
   ·refine .inr ⟨b,off,cap,cur,by simp,h1,by grind,h3,h4,λi x hx=>?_,h6,λi j x y v hx hy hv=>?_⟩
    ·grind[iz,List.length_map]
    ·rw[aoN]at hx;obtain⟨z,hz,rfl⟩:=aoJ.1 hx;rw[iz,aoN]at hy;obtain⟨y',nq,rfl⟩:=aoJ.1 hy;exact(h7 i j z y' v hz nq hv).kill hm
 | env A=>exact hh
 | mp es=>exact hh
section
variable {P : Program} {w w' : World} {fo : FO} {m m' : Nat -> Option Value} {L : aI} {n : Nat} {s : St} {a : Act}
theorem G.change(g:G fo n m s a w){h}{x v'}(hx:m h=some x){r'}(W9:w'.os=w.os)(agK:w'.tape=w.tape)(aeT:w'.output=w.output)
  (hs:w.heap.size<=w'.heap.size) (ti:∀c,c<w.heap.size->¬dn x c->w'.heap[c]?=w.heap[c]?) (hv:∀b,dn v' b->dn x b\/w.heap.size<=b)
  (hh:r'.Holds w' (OO fo (eY m h v')) (eY m h v') v'):
  G fo n (eY m h v') ⟨(s.kill h).fr,aI.jz (s.kill h).L h r'⟩ a w'/\Step w (own m) w' (own (eY m h v')):=by
 have bR:∀i y,i≠h->m i=some y->eY m h v' i=some y:=λi y hi hy=>by simp_all[eA]
 have eZ:∀b,b<w.heap.size->own (eY m h v') b->own m b:=by
  rintro b hb ⟨i,y,hy,kH⟩;by_cases kI:i=h
  ·subst kI;rw[cr]at hy;obtain rfl:=aoK hy;rcases hv b kH with h1|h1
   ·exact⟨i,x,hx,h1⟩
   ·omega
  ·rw[eA v' kI]at hy;exact⟨i,y,hy,kH⟩
 have hO:∀b,b<w.heap.size->OO fo (eY m h v') b->OO fo m b:=λb hb ho=>ho.imp (eZ b hb) id
 have cQ:bK w (OO fo m) w':=⟨hs,λc hc ho=>ti c hc (λe=>ho (.inl ⟨h,x,hx,e⟩))⟩
 have hi:=g.inv;refine⟨⟨g.size,?_,?_,g.defers⟩,⟨W9,agK,aeT,hs,λc hc ho=>ti c hc (λe=>ho ⟨h,x,hx,e⟩),eZ⟩⟩
 ·intro t y hy;simp only[St.kill,aoQ]at hy;obtain⟨p,hp,he⟩:=hy;cases he;obtain⟨h1,h2⟩:=g.fr p.1 p.2 hp;exact⟨h1,(h2.kill bR).mono cQ hO (λ_ _ e=>e)⟩
 ·have pA:keys (s.kill h).L=keys s.L:=by simp[keys,St.kill,ap6]
  refine⟨by rw[xz,pA];exact hi.nodup,?_,?_,?_,λb hf=>ao3 (hi.ej b hf) hs,?_,hi.ef.mono cQ hO⟩
  ·rw[xz,pA];intro i y hy;by_cases kI:i=h
   ·subst kI;exact hi.fI i x hx
   ·rw[eA v' kI]at hy;exact hi.fI i y hy
  ·intro i j y z b hy hz kH KB;by_cases kI:i=h<;>by_cases Nb:j=h
   ·omega
   ·subst kI;rw[cr]at hy;rw[eA v' Nb]at hz;obtain rfl:=aoK hy;rcases hv b kH with h1|h1
    ·exact hi.apart i j x z b hx hz h1 KB
    ·have:=hi.lt hz KB;omega
   ·subst Nb;rw[cr]at hz;rw[eA v' kI]at hy;obtain rfl:=aoK hz;rcases hv b KB with h1|h1
    ·exact hi.apart i j y x b hy hx kH h1
    ·have:=hi.lt hy kH;omega
   ·rw[eA v' kI]at hy;rw[eA v' Nb]at hz;exact hi.apart i j y z b hy hz kH KB
  ·intro i y b hy kH hf;by_cases kI:i=h
   ·subst kI;rw[cr]at hy;obtain rfl:=aoK hy;rcases hv b kH with h1|h1
    ·exact hi.others i x b hx h1 hf
    ·have:=hi.ej b hf;omega
   ·rw[eA v' kI]at hy;exact hi.others i y b hy kH hf
  ·intro i q hq;obtain⟨p,hp,he⟩:=aoQ.1 hq;split at he
   ·cases he;exact⟨v',cr _ _,hh⟩
   ·rename_i T0;subst he;simp only[St.kill,aoQ]at hp;obtain⟨p0,mx,vp⟩:=hp;cases vp;obtain⟨y,hy,Nc⟩:=hi.holds p0.1 p0.2 mx;refine⟨y,bR _ _ T0 hy,(Nc.kill bR).mono (λc hc=>?_) cQ hO (λ_ _ e=>e)⟩;exact ti c (hi.lt hy hc) (λe=>T0 (hi.apart _ _ _ _ _ hy hx hc e))
def q8(P:Program)(n:Nat)(o:Oper)(s:St)(K:V->St->Prop):Prop:=
 ∀fo m a w,G fo n m s a w->∃nx v w' m' x s',(execOp a.eval o).run P w= .ok nx w'/\(nx= .value v\/(nx= .skip/\v=undef))/\K x s'/\
  aB w' (OO fo m') m' v x/\G fo n m' s' a w'/\Step w (own m) w' (own m')
def sJ(P:Program)(t:TypeId):Option (List Value):=((P.info? t).bind (·.zero)).bind λz=>if z.cells.all (·.oneCell')then some z.cells.toList else none
theorem aaw{t z}(h:sJ P t=some z) w:∃v,(zeroValue t).run P w= .ok v w/\v.cells.toList=z/\∀x∈z,x.oneCell'=true:=by
 obtain⟨v,hv,h2⟩:=apu.1 h;obtain⟨i,hi,hz⟩:=apu.1 hv;split at h2
 ·simp at h2;subst h2;refine⟨v,by simp_all[zeroValue,typeInfo],rfl,?_⟩;grind[Array.all_eq_true']
 grind
theorem uy{O}{l:List Value}(h:∀x∈l,x.oneCell'=true):∀(j:Nat) v c,l[j]?=some v->(l.map λx=>V.d (D.v x))[j]?=some c->aB w O m v c:=by
 intro j v c hv hc;rw[aoN,hv]at hc;simp at hc;subst hc;exact .d _ _ (.v _ (h v (aoO hv)))
theorem R6(HH:Nat→Nat)(od:∀bb,HH bb=0∨HH bb=bb+1){dst}{elem}{ty}{pos}{after}{guard}{h}{z}(hz:sJ P elem=some z)(hn:h∉keys s.L):
  q8 P n ⟨dst,.alloc elem,ty,pos,after,guard⟩ s (λx s'=>∃b,x= .bp h 0/\s'={s with L:=(h,.box (HH b) elem (z.map λx=> .d (.v x)))::s.L}):=by
 intro fo m a w g;obtain⟨v,bw,hv,kB⟩:=aaw hz w;have hx:∀b,dn (.pointer (some ⟨w.heap.size,0,none⟩)) b->w.heap.size<=b:=by simp[dn,jJ]
 obtain⟨g',st⟩:=g.new (hY.alloc w (.cells v.cells elem)) hn (r:= .box (HH w.heap.size) elem (z.map λx=> .d (.v x))) hx (by
  refine⟨w.heap.size,od _,v.cells,rfl,heap_alloc_new w _,by grind,?_,?_⟩
  ·grind
  grind[uy])
 refine⟨_,_,_,_,_,_,?_,.inl rfl,⟨w.heap.size,rfl,rfl⟩,.bp h 0 w.heap.size (cr _ _),g',st⟩;simp[execOp,Instr.alloc,bw,newVar,newRow]
theorem aeU{dst}{elem}{ty}{pos}{after}{guard}{h}{z}(hz:sJ P elem=some z)(hn:h∉keys s.L):
  q8 P n ⟨dst,.alloc elem,ty,pos,after,guard⟩ s (λx s'=>∃b,x= .bp h 0/\s'={s with L:=(h,.box (b+1) elem (z.map λx=> .d (.v x)))::s.L}):=R6 (· +1) (λ_=> .inr rfl) hz hn
def V.cl:V->Option (List V)
 | .agg cs=>some cs
 | .bA _=>none
 | .gd _ _=>none
 | .any=>none
 | .kn _=>none
 | x=>some [x]
theorem AT{O}{v}{x}{cs}(hr:aB w O m v x)(hc:x.cl=some cs):v.cells.size=cs.length∧(∀u∈v.cells.toList,u.oneCell'=true)∧
  ∀(j:Nat) u c,v.cells[j]?=some u->cs[j]?=some c->aB w O m u c:=by
 have one:∀{v:Value} {x:V},aB w O m v x→v.oneCell'=true→v.cells.size=[x].length∧(∀u∈v.cells.toList,u.oneCell'=true)∧
   ∀(j:Nat) (u:Value) (c:V),v.cells[j]?=some u-> [x][j]?=some c->aB w O m u c:=by
  intro v x hr h1;have hv:v.cells= #[v]:=by cases v<;>first|rfl|grind[Value.oneCell']
  grind
 cases hr with
 | agg vs jA hs h1 h=>
   simp only[V.cl,anc]at hc;subst hc;refine⟨hs,λu hu=>?_,h⟩;obtain⟨j,hj⟩:=List.getElem?_of_mem hu;rw[apm]at hj;exact h1 j u hj
 | d x y h=>simp only[V.cl,anc]at hc;subst hc;exact one (.d _ _ h) (xy h)
 | bp h off b e=>simp only[V.cl,anc]at hc;subst hc;exact one (.bp h off b e) rfl
 | rv h x e e1=>simp only[V.cl,anc]at hc;subst hc;exact one (.rv h _ e e1) e1
 | ep h k i j b o n c e=>simp only[V.cl,anc]at hc;subst hc;exact one (.ep h k i j b o n c e) rfl
 | rp b off cs f hb aw v7 hr=>simp only[V.cl,anc]at hc;subst hc;exact one (.rp b off cs f hb aw v7 hr) rfl
 | sv h n b cap e v7 hx=>simp only[V.cl,anc]at hc;subst hc;exact one (.sv h n b cap e v7 hx) rfl
 | fu fn first ei cf cc s1 s2 h1 h2=>simp only[V.cl,anc]at hc;subst hc;exact one (.fu fn first ei cf cc s1 s2 h1 h2) rfl
 | bA vs cs hs h=>grind[V.cl]
 | gt x y h=>grind[V.cl]
 | gf y=>grind[V.cl]
 | kn x Q h=>grind[V.cl]
 | any x=>grind[V.cl]
theorem acI(HH:Nat→Nat)(od:∀bb,HH bb=0∨HH bb=bb+1){dst}{elem}{xo}{ty}{pos}{after}{guard}{h}{cs}(hc:(s.ev xo).cl=some cs)(hn:h∉keys s.L):
  q8 P n ⟨dst,.box elem xo,ty,pos,after,guard⟩ s (λx s'=>∃b,x= .bp h 0/\s'={s with L:=(h,.box (HH b) elem cs)::s.L}):=by
 intro fo m a w g;have hr:=cm g xo;obtain⟨h1,h2,h3⟩:=AT hr hc;have hx:∀b,dn (.pointer (some ⟨w.heap.size,0,none⟩)) b->w.heap.size<=b:=by simp[dn,jJ]
 have rF:=hY.alloc w (.cells (a.eval xo).cells elem);obtain⟨g',st⟩:=g.new rF hn (r:= .box (HH w.heap.size) elem cs) hx (by
  refine⟨w.heap.size,od _,(a.eval xo).cells,rfl,heap_alloc_new w _,h1,?_,?_⟩
  ·grind
  ·intro j u c hu sK;exact(h3 j u c hu sK).mono ⟨rF.size,λb hb _=>rF.block b hb⟩ (CD g.inv hx) (sf g.inv hn _))
 refine⟨_,_,_,_,_,_,?_,.inl rfl,⟨w.heap.size,rfl,rfl⟩,.bp h 0 w.heap.size (cr _ _),g',st⟩;rfl
theorem aip{dst}{elem}{xo}{ty}{pos}{after}{guard}{h}{cs}(hc:(s.ev xo).cl=some cs)(hn:h∉keys s.L):
  q8 P n ⟨dst,.box elem xo,ty,pos,after,guard⟩ s (λx s'=>∃b,x= .bp h 0/\s'={s with L:=(h,.box (b+1) elem cs)::s.L}):=acI (· +1) (λ_=> .inr rfl) hc hn
def putAt(off:Nat)(cs dW:List V):List V:=dW.take off++cs++dW.drop (off+cs.length)
theorem xA{off cs dW}(h:off+cs.length<=dW.length):(putAt off cs dW).length=dW.length:=by
 grind[putAt]
theorem iY{α:Type}(dW cs:List α) off(h:off+cs.length≤dW.length) j:
  (dW.take off++cs++dW.drop (off+cs.length))[j]?=if off<=j/\j<off+cs.length then cs[j-off]? else dW[j]?:=by
 have hm:min off dW.length=off:=by omega
 grind
theorem T1{dst}{t}{ao xo}{ty}{pos}{after}{guard}{h off b k}{g0}{KC}{cs dW}
  (ht:gS P t=some (g0,k)) (ha:s.ev ao= .bp h off) (hl:s.L.lookup h=some (.box b KC dW)) (hc:(s.ev xo).cl=some cs) (hk:cs.length=k) (aeV:off+k<=dW.length):
  q8 P n ⟨dst,.store t ao xo,ty,pos,after,guard⟩ s (λx s'=>x= .any/\s'={s with L:=aI.jz s.L h (.box b KC (putAt off cs dW))}):=by
 intro fo m a w g;have hr:=cm g xo;have Xa:=cm g ao;rw[ha]at Xa;obtain⟨h1,h2,h3⟩:=AT hr hc;obtain⟨bb,kq,hm,cur,mw,hs,kB,nz,fD⟩:=KA g.inv (dK hl);obtain⟨b',e,hp⟩:=xw Xa;rw[hm]at e;obtain rfl:bb=b':=by grind
 subst hk;have bQ:=run_storeCells_at P bb off KC (a.eval xo).cells.toList 0 cur w mw (by grind) h2;obtain⟨_,dZ⟩:=pX ht w;have hlen:(a.eval xo).cells.toList.length=cs.length:=by omega
 simp only[apQ,hlen]at bQ;obtain⟨g',st⟩:=g.jz hm (b:=bb) rfl (lB w bb (cur.toList.take off++(a.eval xo).cells.toList++cur.toList.drop (off+cs.length)).toArray) (r:= .box b KC (putAt off cs dW)) (by
  have bx:=λj=>iY cur.toList (a.eval xo).cells.toList off (by grind) j
  have zL:=λj=>iY dW cs off aeV j
  rw[hlen]at bx;have cQ:bK w (OO fo m) (w.setRow bb (cur.toList.take off++(a.eval xo).cells.toList++cur.toList.drop (off+cs.length)).toArray):=
   ⟨(lB w bb _).size,λc sK ho=>(lB w bb _).block c sK (λe=>ho (.inl ⟨h,_,hm,by simp[dn,jJ,e]⟩))⟩
  refine⟨bb,kq,_,rfl,setRow_heap w bb cur _ KC _ mw,?_,?_,?_⟩
  ·grind[xA]
  ·grind
  ·intro j u c hu sK;rw[apK,bx]at hu;unfold putAt at sK;rw[zL]at sK;refine aB.mono cQ (λ_ _ h=>h) (λ_ _ h=>h) ?_;grind)
 refine⟨.skip,undef,_,_,.any,_,?_,.inr ⟨rfl,rfl⟩,⟨rfl,rfl⟩,.any _,g',st⟩;simp_all[execOp,Instr.storeAt,Instr.sureAddr,storeVar]
end
theorem CE off:∀l j0 (cells:Array Value),off+j0+l.length≤cells.size→
  ((l.zipIdx j0).foldl (λ(cs:Array Value) (p:Value×Nat)=>cs.setIfInBounds (off+p.2) p.1) cells).toList=cells.toList.take (off+j0)++l++cells.toList.drop (off+j0+l.length)
 | [],j0,cells,_=>by simp
 | v::l,j0,cells,h=>by
   simp;rw[CE off l (j0+1) _ (by simp at h⊢;omega)];have e:=list_seg_step cells.toList (off+j0) v l (by omega);simpa[Array.toList_setIfInBounds,aqz]using e
theorem Nd off(v cells:Array Value)(h:off+v.size≤cells.size):
  (v.zipIdx.foldl (λ(cs:Array Value) (p:Value×Nat)=>cs.setIfInBounds (off+p.2) p.1) cells).toList=cells.toList.take off++v.toList++cells.toList.drop (off+v.size):=by
 have:=CE off v.toList 0 cells (by omega);grind[Array.toList_zipIdx]
def uW(place:Nat->Option (Nat×Nat))(cells:List V):List (Nat×V)->Option (List V×Prop)
 | []=>some (cells,True)
 | (i,x)::rest=>
   match place i,x.cl with
   | some (off,size),some cs=>
     match uW place (putAt off cs cells) rest with
     | some (r,c)=>some (r,(cs.length=size/\off+size<=cells.length)/\c)
     | none=>none
   | _,_=>none
section
variable {P : Program} {w w' : World} {fo : FO} {m m' : Nat -> Option Value} {L : aI} {n : Nat} {s : St} {a : Act}
theorem wu{O}{place}:∀ps qs cells cv {r} {c},
  ps.length=qs.length->(∀(j:Nat) p q,ps[j]?=some p->qs[j]?=some q->p.1=q.1/\aB w O m p.2 q.2)->
  cells.size=cv.length->(∀u∈cells.toList,u.oneCell'=true)->(∀(j:Nat) u c,cells[j]?=some u->cv[j]?=some c->aB w O m u c)->
  uW place cv qs=some (r,c)->c->
  ∃iF,Instr.fill place cells ps=some iF/\iF.size=r.length/\(∀u∈iF.toList,u.oneCell'=true)/\(∀(j:Nat) u c,iF[j]?=some u->r[j]?=some c->aB w O m u c)
 | [],[],cells,cv,r,c,_,_,hs,h1,h2,hf,hc=>by
   cases hf;exact⟨cells,rfl,hs,h1,h2⟩
 | [],_::_,_,_,_,_,hl,_,_,_,_,_,_=>by grind
 | _::_,[],_,_,_,_,hl,_,_,_,_,_,_=>by grind
 | (i,v)::ps,(i',x)::qs,cells,cv,r,c,hl,hr,hs,h1,h2,hf,hc=>by
   obtain⟨hii,fD⟩:=hr 0 (i,v) (i',x) rfl rfl;simp only at hii fD;subst hii;simp only[uW]at hf;split at hf
   ·rename_i off size cs fJ nF;split at hf
    ·rename_i r' c' hf';cases hf;obtain⟨⟨dZ,aeV⟩,sK⟩:=hc;obtain⟨g1,g2,g3⟩:=AT fD nF;have dc:off+v.cells.size<=cells.size:=by omega
     have e1:=Nd off v.cells cells dc;have bx:=λj=>iY cells.toList v.cells.toList off (by omega) j
     have zL:=λj=>iY cv cs off (by omega) j
     obtain⟨iF,k1,k2,k3,k4⟩:=wu ps qs (v.cells.zipIdx.foldl (λ(cs:Array Value) (p:Value×Nat)=>cs.setIfInBounds (off+p.2) p.1) cells) (putAt off cs cv)
      (by grind) (λj p q hp hq=>hr (j+1) p q (by grind) (by grind))
      (by grind[xA,Array.length_toList])
      (by
       grind)
      (by
       intro j u c hu pB;unfold putAt at pB;grind)
      hf' sK
     refine⟨iF,?_,k2,k3,k4⟩;rw[Instr.fill];grind
    grind
   grind
def v8(P:Program)(t:TypeId):Option (List Value×List (Nat×Nat)):=
 match P.info? t,P.underlying t with
 | some it,some (.struct fields)=>
   match it.zero,fields.toList.mapM (λf=>(P.info? f.type).map λi=>(f.offset,i.size))with
   | some z,some places=>if z.cells.all (·.oneCell')then some (z.cells.toList,places)else none
   | _,_=>none
 | some it,some (.array n e)=>
   match it.zero,P.info? e with
   | some z,some ie=>if z.cells.all (·.oneCell')then some (z.cells.toList,(List.range n).map λi=>(i *ie.size,ie.size))else none
   | _,_=>none
 | _,_=>none
def HI(P:Program)(t:TypeId)(qs:List (Nat×V)):Option (V×Prop):=
 match v8 P t with
 | some (z,places)=>
   match uW (places[·]?) (z.map λx=> .d (.v x)) qs with
   | some (r,c)=>some (.agg r,c)
   | none=>none
 | none=>none
theorem xB{p q}:∀l,(∀x∈l,∀y,p x.1=some y->q x.1=some y)->∀{cells iF},Instr.fill p cells l=some iF->Instr.fill q cells l=some iF
 | [],_,_,_,h=>h
 | (i,v)::l,hpq,cells,iF,h=>by
   rw[Instr.fill]at h⊢;cases hp:p i with
   | none=>grind
   | some y=>
     rw[hpq (i,v) (by simp) _ hp];simp only[hp]at h⊢;split at h
     ·cases h
     ·rename_i bR;rw[if_neg bR];exact xB l (λx hx=>hpq x (by simp[hx])) h
theorem Nf{O}{t}{ps}{qs}{x}{c}(hl:ps.toList.length=qs.length)
  (hr:∀(j:Nat) (p:Nat×Value) (q:Nat×V),ps.toList[j]?=some p->qs[j]?=some q->p.1=q.1/\aB w O m p.2 q.2) (h:HI P t qs=some (x,c)) (hc:c):
  ∃v,(Instr.build t ps).run P w= .ok v w/\aB w O m v x:=by
 unfold HI at h;split at h
 ·rename_i z places hB;split at h
  ·rename_i r c' hf;simp only[anc,aoI]at h;obtain⟨rfl,rfl⟩:=h;unfold v8 at hB;split at hB
   ·rename_i it fields my hu;split at hB
    ·rename_i zz pl hz hp;split at hB
     ·rename_i bV;simp only[anc,aoI]at hB;obtain⟨rfl,rfl⟩:=hB;have kB:∀u∈zz.cells.toList,u.oneCell'=true:=by
       grind[Array.all_eq_true']
      obtain⟨iF,k1,k2,k3,k4⟩:=wu (w:=w) (O:=O) (m:=m) ps.toList qs zz.cells _ hl hr (by simp) kB (by
       grind[uy]) hf hc
      refine⟨.agg iF,run_build w t ps iF ?_,.agg _ _ k2 (λj u hu=>k3 u (aoO (by rw[apm];exact hu))) k4⟩;simp_all[Program.built]
     grind
    grind
   ·rename_i it nn e my hu;split at hB
    ·rename_i zz ie hz Xb;split at hB
     ·rename_i bV;simp only[anc,aoI]at hB;obtain⟨rfl,rfl⟩:=hB;have kB:∀u∈zz.cells.toList,u.oneCell'=true:=by
       grind[Array.all_eq_true']
      obtain⟨iF,k1,k2,k3,k4⟩:=wu (w:=w) (O:=O) (m:=m) ps.toList qs zz.cells _ hl hr (by simp) kB (by
       grind[uy]) hf hc
      refine⟨.agg iF,run_build w t ps iF ?_,.agg _ _ k2 (λj u hu=>k3 u (aoO (by rw[apm];exact hu))) k4⟩;unfold Program.built;simp only[my,hu,hz,Xb];refine xB ps.toList ?_ k1;grind
     grind
    grind
   grind
  grind
 grind
def kU(P:Program)(t:TypeId):Option (TypeId×Nat×Nat×List Value):=
 match P.underlying t with
 | some (.slice e)=>match P.info? e with
   | some i=>match i.zero with
     | some z=>if z.cells.all (·.oneCell')&&z.cells.size==i.size then some (e,i.size,i.bytes,z.cells.toList)else none
     | none=>none
   | none=>none
 | _=>none
theorem nS{t e}{k by_}{z}(h:kU P t=some (e,k,by_,z)):
  ∃i zv,P.underlying t=some (.slice e)/\P.info? e=some i/\i.zero=some zv/\i.size=k/\i.bytes=by_/\zv.cells.toList=z/\zv.cells.size=k/\∀x∈z,x.oneCell'=true:=by
 unfold kU at h;split at h
 ·split at h
  ·split at h
   ·split at h
    ·grind[Array.all_eq_true']
    grind
   grind
  grind
 grind
theorem oK{z N k q}(hz:z.size=k)(hk:0<k)(hq:q<N):(madeCells z N)[q]?=z[q % k]?:=by
 simp_all[Nat.mod_lt,madeCells]
theorem agL{dst}{t}{lo co}{ty}{pos}{after}{guard}{h k by_}{e}{z}{kl kc}{l c}
  (ht:kU P t=some (e,k,by_,z)) (hl:s.ev lo= .d (.v (.int kl l))) (hc:s.ev co= .d (.v (.int kc c))) (hk:0<k) (hn:h∉keys s.L)
  (h0:0<=l/\l<=c) (hb:c<=maxLen/\by_ *c.toNat<=140737488355328):
  q8 P n ⟨dst,.makeSlice t lo co,ty,pos,after,guard⟩ s (λx s'=>x= .rv h/\s'={s with L:=(h,.row e k (List.replicate l.toNat (z.map λx=> .d (.v x))))::s.L}):=by
 intro fo m a w g;obtain⟨i,zv,hu,hi,hz,kV,vq,nT,wc,kB⟩:=nS ht;have sL:=cm g lo;have Xc:=cm g co;rw[hl]at sL;rw[hc]at Xc;have vr:c.toNat<=maxLen:=by omega
 have dm:(i.bytes:Int) *c<=281474976710656:=by
  grind
 have bw:=run_make (P:=P) w t e i zv hu hi hz kl kc l c h0.1 h0.2 dm (by simp_all[maxLen]);rw[kV]at bw;have hx:∀b,dn (.slice (some ⟨w.heap.size,0,none⟩) l.toNat c.toNat) b->w.heap.size<=b:=by simp[dn,jJ]
 obtain⟨g',st⟩:=g.new (hY.alloc w (.cells (madeCells zv.cells (c.toNat *k)) e)) hn
  (r:= .row e k (List.replicate l.toNat (z.map λx=> .d (.v x)))) hx (by
   refine .inr ⟨w.heap.size,0,c.toNat,madeCells zv.cells (c.toNat *k),by simp,heap_alloc_new w _,by grind,vr,by simp[madeCells],?_,?_,?_⟩
   ·grind
   ·intro j u Af;have hj:j<c.toNat *k:=by grind[Array.getElem?_eq_some_iff,madeCells]
    rw[oK wc hk hj]at Af;grind
   ·intro p q x y u cG hy Af;have hp:=(aoL.1 cG).1;simp at hp;have:=aoO cG;rw[List.mem_replicate]at this;obtain⟨_,rfl⟩:=this;have hq:q<k:=by grind
    have hpc:(p+1) *k<=c.toNat *k:=ao4 _ (by omega);rw[apS,aqb]at hpc;rw[apz,oK wc hk (by omega),Nat.mul_comm p k,Nat.mul_add_mod,aqu hq]at Af;grind[uy])
 refine⟨_,_,_,_,_,_,?_,.inl rfl,⟨rfl,rfl⟩,.rv h _ (cr _ _) rfl,g',st⟩;simp[execOp,sL.cy,Xc.cy,bw]
theorem Jw{L}{ρ}{dt:Operand→V}{dst}{t}{len}{ps}{ty}{pos}{after}{guard}{k by_}{e}{z}{r}{c}{xs}
  (ht:kU P t=some (e,k,by_,z)) (hk:0<k) (hlen:len *k<=2^24)
  (hf:uW (λi=>some (i *k,k)) (List.replicate len (z.map λx=>V.d (.v x))).flatten (ps.toList.map λp=>(p.1,dt p.2))=some (r,c)) (hc:c)
  (B8:r=xs.flatten) (B9:xs.length=len) (q9:∀x∈xs,x.length=k) {fo m w} (cq:Inv fo m L w) (hr:∀o,o∈(Op.buildSlice t len ps).operands->aB w (OO fo m) m (ρ o) (dt o)):
  ∃v w',(execOp ρ ⟨dst,.buildSlice t len ps,ty,pos,after,guard⟩).run P w= .ok (.value v) w'/\hY w w'/\(∀b,dn v b->w.heap.size<=b)/\v.oneCell'=true/\∀h,h∉keys L->(aV.row e k xs).Holds w' (OO fo (eY m h v)) (eY m h v) v:=by
 obtain⟨i,zv,hu,hi,hz,kV,vq,nT,wc,kB⟩:=nS ht;have hx:∀b,dn (.slice (some ⟨w.heap.size,0,none⟩) len len) b->w.heap.size<=b:=by simp[dn,jJ]
 have agM:∀q,(madeCells zv.cells (len *k))[q]?=if q<len *k then zv.cells[q % k]? else none:=by
  grind[oK,madeCells]
 have agN:∀(N q:Nat),(List.replicate N (z.map λx=>V.d (.v x))).flatten[q]?=if q<N *k then(z.map λx=>V.d (.v x))[q % k]? else none:=by
  intro N
  induction N with
  | zero=>simp
  | succ N ih=>
    intro q;rw[List.replicate_succ,aqo,ap1];have agO:(z.map λx=>V.d (.v x)).length=k:=by grind
    rw[agO];split
    ·rename_i hq;rw[if_pos (by grind),aqu hq]
    ·rename_i hq;rw[ih];have:(q-k) % k=q % k:=by simp_all[Nat.mod_eq_sub_mod]
     grind
 obtain⟨iF,k1,k2,k3,k4⟩:=wu (w:=w) (O:=OO fo m) (m:=m) (place:=λi=>some (i *k,k)) (ps.toList.map λp=>(p.1,ρ p.2)) _ (madeCells zv.cells (len *k)) _
  (by simp) (by
   intro j p q hp hq;rw[aoN]at hp hq;obtain⟨y,hy,rfl⟩:=aoJ.1 hp;rw[hy]at hq;simp only[apc,anc]at hq;subst hq;exact⟨rfl,hr _ (by
    simp only[Op.operands,aq9];grind)⟩) (by simp[madeCells,<-nT,wc]) (by
   grind[List.getElem?_of_mem,List.mem_of_getElem?]) (by
   intro j u cc Af sK;rw[agM]at Af;rw[agN]at sK;split at Af
   ·rename_i hj;rw[if_pos hj]at sK;grind[uy]
   grind) hf hc
 subst B8;have dS:∀(xs:List (List V)) (q9:∀x∈xs,x.length=k) (i j:Nat) (x:List V) (y:V),xs[i]?=some x->x[j]?=some y->xs.flatten[i *k+j]?=some y:=by
  intro xs
  induction xs with
  | nil=>simp
  | cons x0 xs ih=>
    intro q9 i j x y hx hy;have h0:x0.length=k:=q9 x0 (by simp);rw[aqo,ap1];cases i with
    | zero=>
      grind
    | succ i=>
      grind
 have lV:∀(xs:List (List V)),(∀x∈xs,x.length=k)->xs.flatten.length=xs.length *k:=by
  intro xs
  induction xs with
  | nil=>simp
  | cons x0 xs ih=>grind
 have rF:=hY.alloc w (.cells iF e);have HJ:len<=maxLen:=by
  have h1:len *1<=len *k:=Nat.mul_le_mul_left _ hk;grind[maxLen]
 refine⟨.slice (some ⟨w.heap.size,0,none⟩) len len,w.alloc (.cells iF e),?_,rF,hx,rfl,λh hn=>?_⟩
 rotate_left
 ·refine .inr ⟨w.heap.size,0,len,iF,by rw[B9],heap_alloc_new w _,by omega,HJ,by grind,λi x cG=>q9 x (aoO cG),?_,?_⟩
  ·grind
  ·intro i j x y u cG hy Af;rw[apz]at Af;exact(k4 _ u y Af (dS xs q9 i j x y cG hy)).mono ⟨rF.size,λb hb _=>rF.block b hb⟩ (CD cq hx) (sf cq hn _)
 by_cases h0:len *k=0
 ·have Ng:len=0:=by
   grind[Nat.mul_eq_zero]
  simp_all[Array.eq_empty_of_size_eq_zero,Instr.fill,madeCells,Array.range_zero',execOp,Instr.buildSlice,run_underlying,sizeOf,typeInfo,newRow]
 simp_all[run_buildSlice,madeCells,execOp,Sem.run_bind,Result.andThen_ok]
theorem Qy{dst}{t}{len}{ps}{ty}{pos}{after}{guard}{h k by_}{e}{z}{r}{c}{xs}
  (ht:kU P t=some (e,k,by_,z)) (hk:0<k) (hn:h∉keys s.L) (hlen:len *k<=2^24)
  (hf:uW (λi=>some (i *k,k)) (List.replicate len (z.map λx=>V.d (.v x))).flatten (ps.toList.map λp=>(p.1,s.ev p.2))=some (r,c)) (hc:c)
  (B8:r=xs.flatten) (B9:xs.length=len) (q9:∀x∈xs,x.length=k):
  q8 P n ⟨dst,.buildSlice t len ps,ty,pos,after,guard⟩ s (λx s'=>x= .rv h/\s'={s with L:=(h,.row e k xs)::s.L}):=by
 intro fo m a w g;obtain⟨v,w',h1,h2,h3,h4,h5⟩:=Jw ht hk hlen hf hc B8 B9 q9 g.inv (λo _=>cm g o);obtain⟨g',st⟩:=g.new h2 hn h3 (h5 h hn);exact⟨_,v,w',_,_,_,h1,.inl rfl,⟨rfl,rfl⟩,.rv h _ (cr _ _) h4,g',st⟩
theorem T2{dst}{t}{ao xo}{ty}{pos}{after}{guard}{h k k' i j}{g0}{e}{cs}{xs}
  (ht:gS P t=some (g0,k)) (ha:s.ev ao= .ep h k' i j) (hl:s.L.lookup h=some (.row e k' xs)) (hc:(s.ev xo).cl=some cs) (hk:cs.length=k) (hi:i<xs.length) (hj:j+k<=k'):
  q8 P n ⟨dst,.store t ao xo,ty,pos,after,guard⟩ s (λx s'=>x= .any/\s'={s with L:=aI.jz s.L h (.row e k' (xs.set i (putAt j cs (xs[i]?.getD []))))}):=by
 intro fo m a w g;have hr:=cm g xo;have Xa:=cm g ao;rw[ha]at Xa;obtain⟨h1,h2,h3⟩:=AT hr hc;obtain⟨b,off,cap,cur,hm,mw,lA,pq,dZ,hlen,kB,nz,fD⟩:=pZ g.inv (dK hl) (by omega);obtain⟨b',o,n',c',e',hp⟩:=CA Xa;rw[hm]at e';simp only[anc,Value.slice.injEq,Addr.mk.injEq]at e';obtain⟨⟨rfl,rfl,_⟩,rfl,rfl⟩:=e';subst hk;have jS:xs[i]?=some xs[i]:=akC hi;have KD:=hlen i _ jS;have iE:(i+1) *k'<=cap *k':=ao4 _ (by omega);rw[apS,aqb]at iE;have bQ:=run_storeCells_at P b (off+i *k'+j) e (a.eval xo).cells.toList 0 cur w mw (by grind) h2;obtain⟨_,ane⟩:=pX ht w;have acJ:(a.eval xo).cells.toList.length=cs.length:=by omega
 simp only [apQ,acJ]at bQ;obtain⟨g',st⟩:=g.jz hm (b:=b) rfl (lB w b (cur.toList.take (off+i *k'+j)++(a.eval xo).cells.toList++cur.toList.drop (off+i *k'+j+cs.length)).toArray)
   (r:= .row e k' (xs.set i (putAt j cs (xs[i]?.getD [])))) (by
  have bx:=λq=>iY cur.toList (a.eval xo).cells.toList (off+i *k'+j) (by grind) q
  have zL:=λq=>iY xs[i] cs j (by omega) q
  rw[acJ]at bx;have cQ:bK w (OO fo m) (w.setRow b (cur.toList.take (off+i *k'+j)++(a.eval xo).cells.toList++cur.toList.drop (off+i *k'+j+cs.length)).toArray):=
   ⟨(lB w b _).size,λc sK ho=>(lB w b _).block c sK (λe=>ho (.inl ⟨h,_,hm,by simp[dn,jJ,e]⟩))⟩
  refine .inr ⟨b,off,cap,_,by simp,setRow_heap w b cur _ e _ mw,by grind,pq,?_,?_,?_,?_⟩
  ·grind
  ·grind[Option.some.injEq,xA]
  ·grind
  ·intro p q x y u hx hy hu;rw[apK,bx]at hu;refine aB.mono cQ (λ_ _ h=>h) (λ_ _ h=>h) ?_;rw[aq5]at hx;split at hx
   ·rename_i R7;subst R7;simp only[anc]at hx;subst hx;rw[jS]at hy;simp only[apA]at hy;unfold putAt at hy;rw[zL]at hy;split at hu
    ·grind
    ·rename_i hq;rw[if_neg (by omega)]at hy;grind
   ·rename_i R7;have fJ:=(aoL.1 hx).1;have hqk:q<k':=by grind
    have bR:¬(off+i *k'+j<=off+p *k'+q/\off+p *k'+q<off+i *k'+j+cs.length):=by
     rintro⟨q1,q2⟩;rcases Nat.lt_or_gt_of_ne R7 with aw|aw
     ·have:=ao4 k' (show i+1<=p by omega);grind
     ·have:=ao4 k' (show p+1<=i by omega);grind
    grind)
 refine⟨.skip,undef,_,_,.any,_,?_,.inr ⟨rfl,rfl⟩,⟨rfl,rfl⟩,.any _,g',st⟩;simp_all[execOp,Instr.storeAt,Instr.sureAddr,storeVar]
end
section
variable {P : Program} {w w' : World} {fo : FO} {m m' : Nat -> Option Value} {L : aI} {n : Nat} {s : St} {a : Act}
structure Src(P:Program) (k:Nat) (x:Value) (N:Nat) (news:List Value) (w:World):Prop where
 len:news.length=N *k
 one:∀u∈news,u.oneCell'=true
 run:∀w',w'.heap=w.heap->(Builtin.lenOf x).run P w'= .ok N w'/\(Builtin.firstCells k N x).run P w'= .ok news.toArray w'
theorem Gw{t t2 ty e}{d2}{i}{k}{x}{N}{news}(ht:P.underlying t=some (.slice e))(vt:P.underlying t2=some d2)(nr:(∃e2,d2= .slice e2)∨d2= .string)(hi:P.info? e=some i)(hk:i.size=k)
  (src:Src P k x N news w) {b off sLen sCap cur} (hg:w.heap[b]?=some (.cells cur e (0,0))) (HK:sLen+N<=sCap) (dc:off+sLen *k+news.length<=cur.size):
  (Builtin.append_ #[t,t2] ty #[.slice (some ⟨b,off,none⟩) sLen sCap,x]).run P w=
   .ok (.slice (some ⟨b,off,none⟩) (sLen+N) sCap) (w.setRow b (cur.toList.take (off+sLen *k)++news++cur.toList.drop (off+sLen *k+news.length)).toArray):=by
 obtain⟨h1,h2⟩:=src.run w rfl;have bQ:=run_storeCells_at P b (off+sLen *k) e news 0 cur w hg (by omega) src.one;rcases nr with⟨e2,rfl⟩|rfl<;>simp[Builtin.append_,run_underlying ht,run_underlying vt,sizeOf,typeInfo,hi,hk,h1,h2,HK,Addr.add_lit,bQ]
theorem sg{t t2 ty e}{d2}{i}{z}{k}{x}{N}{news olds}{ao}{sLen sCap}(ht:P.underlying t=some (.slice e))(vt:P.underlying t2=some d2)(nr:(∃e2,d2= .slice e2)∨d2= .string)(hi:P.info? e=some i)(hk:i.size=k)
  (hz:i.zero=some z) (src:Src P k x N news w) (hold:Src P k (.slice ao sLen sCap) sLen olds w)
  (hg:sCap<sLen+N) (h63:((sLen+N:Nat):Int)<=9223372036854775807) (dc:Builtin.nextslicecap (sLen+N) sCap *i.bytes<=281474976710656):
  (Builtin.append_ #[t,t2] ty #[.slice ao sLen sCap,x]).run P w=
   .ok (.slice (some ⟨w.heap.size,0,none⟩) (sLen+N) (grownCap w (sLen+N) sCap e))
    (w.drew.alloc (.cells (olds.toArray++news.toArray++Builtin.zeroCells z.cells (grownCap w (sLen+N) sCap e-(sLen+N))) e)):=by
 obtain⟨h1,_⟩:=src.run w rfl;obtain⟨_,h2⟩:=src.run w.drew rfl;obtain⟨_,h3⟩:=hold.run w.drew rfl;have hn:=by omega
 have aax:=by omega
 have aiq:=by omega
 all_goals
   (simp[Builtin.append_,run_underlying ht,run_underlying vt,sizeOf,typeInfo,zeroValue,hi,hk,hz,h1,hn,aax,aiq,Question.forced,h2,h3,newRow,grownCap]
    grind)
def Gx(L:aI)(x:V):Option (List (List V)):=
 match x with
 | .d (.sl ys)=>some (dd ys)
 | .d (.v (.slice none 0 0))=>some []
 | .d (.v (.string s))=>some (dd (s.data.toList.map λb=> [.v (.int .u8 (b.toNat:Nat))]))
 | .rv h=>match L.lookup h with
   | some (.row _ _ xs)=>some xs
   | _=>none
 | _=>none
theorem Src.Gy{k N cap}{b off}{news}(hlen:news.length=N *k)(kB:∀u∈news,u.oneCell'=true)
  (hc:∀(j:Nat) (u:Value),news[j]?=some u->w.cell? ⟨b,off+j,none⟩=some u):Src P k (.slice (some ⟨b,off,none⟩) N cap) N news w:=by
 refine⟨hlen,kB,λw' hw=>⟨rfl,run_firstCells_some w' k N ⟨b,off,none⟩ N cap news hlen λj v hv=>?_⟩⟩;simp_all[Addr.add_lit,World.cell?]
theorem Src.T3{k cap}:Src P k (.slice none 0 cap) 0 [] w:=⟨by simp,by simp,λw' _=>⟨rfl,by rfl⟩⟩
theorem Src.empty{k cap ao}:Src P k (.slice ao 0 cap) 0 [] w:=by
 refine⟨by simp,by simp,λw' _=>⟨rfl,?_⟩⟩;cases ao<;>simp[Builtin.firstCells,loadCells,loadCellsFrom]
theorem flat_get{α:Type}{k}:∀(xs:List (List α)),(∀x∈xs,x.length=k)->∀q,0<k->xs.flatten[q]?=(xs[q / k]?.bind λx=>x[q % k]?)
 | [],_,q,_=>by simp
 | x0::xs,q9,q,hk=>by
   have h0:=q9 x0 (by simp);rw[aqo,ap1,h0];split
   ·rename_i hq;rw[Nat.div_eq_of_lt hq,aqu hq];simp
   ·rw[flat_get xs (λx hx=>q9 x (by simp[hx])) (q-k) hk];have e1:q / k=(q-k) / k+1:=by
     rw[Nat.div_eq_sub_div hk (by omega)]
    rw[e1,<-Nat.mod_eq_sub_mod (by omega)];simp
theorem Nh{α:Type}{k}:∀(xs:List (List α)),(∀x∈xs,x.length=k)->xs.flatten.length=xs.length *k
 | [],_=>by simp
 | x0::xs,q9=>by rw[aqo,aoS,Nh xs (λx hx=>q9 x (by simp[hx])),q9 x0 (by simp),aoU,apS];omega
theorem CF(s:ByteArray):s.data.toList.length=s.size:=by rfl
theorem AU(hi:Inv fo m L w){x}{y}{ys}{k}(hr:aB w (OO fo m) m x y)(h:Gx L y=some ys)(hk:0 < k)(vu:∀z∈ys,z.length=k):
  ∃news,Src P k x ys.length news w/\∀(j:Nat) u c,news[j]?=some u->ys.flatten[j]?=some c->aB w (OO fo m) m u c:=by
 unfold Gx at h;split at h
 ·rename_i zs;simp only[anc]at h;subst h;obtain⟨ao,cap,rfl,lA,pq,k',b,off,f,ha,re,hc,hrr⟩:=hr.kR.oJ;by_cases h0:zs=[]
  ·subst h0;exact⟨[],by simp[dd,Src.empty],by simp⟩
  ·have iZ:0<zs.length:=apB.2 h0;obtain⟨rfl,hO,aw⟩:=ha iZ;have sG:k'=k:=by
    have h1:=re 0 _ (akC iZ);have h2:=vu (zs[0].map V.d) (by unfold dd;exact aoQ.2 ⟨_,aoV iZ,rfl⟩);rw[<-h1,<-h2];simp
   subst sG;have hlen:(dd zs).length=zs.length:=by simp[dd]
   refine⟨(List.range (zs.length *k')).map λq=>f (q / k') (q % k'),?_,?_⟩
   ·rw[hlen];refine Src.Gy (by simp) ?_ ?_
    ·intro u hu;obtain⟨q,hq,rfl⟩:=aoQ.1 hu;simp at hq;have h1:q / k'<zs.length:=Nat.div_lt_of_lt_mul (by grind);have h2:q % k'<k':=Nat.mod_lt _ hk;have hg:=akC h1;have:=re _ _ hg;exact xy (hrr _ _ _ _ hg (akC (by omega)))
    ·intro j u hu;rw[aoN]at hu;obtain⟨q,hq,rfl⟩:=aoJ.1 hu;grind[List.getElem?_eq_some_iff,Nat.div_lt_of_lt_mul,Nat.mul_comm,Nat.mod_lt,Nat.add_assoc,Nat.div_add_mod]
   ·intro j u c hu v7;rw[aoN]at hu;obtain⟨q,hq,rfl⟩:=aoJ.1 hu;obtain⟨hj,CG⟩:=aoL.1 hq;simp at CG;subst CG;rw[flat_get _ vu _ hk]at v7;obtain⟨z,hz,sI⟩:=apu.1 v7;unfold dd at hz;rw[aoN]at hz;obtain⟨z0,hz0,rfl⟩:=aoJ.1 hz;rw[aoN]at sI;obtain⟨d0,Fu,rfl⟩:=aoJ.1 sI;exact .d _ _ (hrr _ _ _ _ hz0 Fu)
 ·simp only[anc]at h;subst h;rw[hr.cy];exact⟨[],Src.T3,by simp⟩
 ·rename_i s;simp only[anc]at h;subst h;rw[hr.cy];have km:k=1\/s.size=0:=by
   cases hl:s.data.toList with
   | nil=>grind[CF]
   | cons b l=>
     simp_all[dd]
  have hlen:(dd (s.data.toList.map λb=> [D.v (.int .u8 (b.toNat:Nat))])).length=s.size:=by simp[CF,dd,ao8]
  refine⟨s.data.toList.map λb=> .int .u8 (b.toNat:Nat),?_,?_⟩
  ·rw[hlen];refine⟨?_,?_,?_⟩
   ·rw[ao8,CF];grind
   ·intro u hu;obtain⟨b,_,rfl⟩:=aoQ.1 hu;rfl
   ·intro w' _;refine⟨rfl,?_⟩;simp only[Builtin.firstCells,Sem.run_pure];congr 1;grind[Array.ext',ByteArray.extract_zero_size,Array.toList_map]
  ·intro j u c hu hc;rw[aoN]at hu;obtain⟨b,hb,rfl⟩:=aoJ.1 hu;have lV:(dd (s.data.toList.map λb=> [D.v (.int .u8 (b.toNat:Nat))])).flatten=s.data.toList.map λb=>V.d (.v (.int .u8 (b.toNat:Nat))):=by
    unfold dd;rw[ap6]
    induction s.data.toList with
    | nil=>rfl
    | cons b l ih=>grind
   rw[lV,aoN,hb]at hc;simp only[apc,anc]at hc;subst hc;exact kT _ _
 ·rename_i h';split at h
  ·rename_i ty k' xs hl;simp only[anc]at h;subst h;by_cases h0:xs=[]
   ·subst h0;obtain⟨ao,cap,_,rfl⟩:=M8 hi hl hr;exact⟨[],Src.empty,by simp⟩
   ·have iZ:0<xs.length:=apB.2 h0;obtain⟨b,off,cap,cur,hm,mw,lA,pq,dZ,hlen,kB,nz,fD⟩:=pZ hi (dK hl) iZ;have:=CB hr;rw[hm]at this;obtain rfl:=aoK this;have sG:k'=k:=by
     have h1:=hlen 0 _ (akC iZ);grind
    subst sG;have iE:xs.length *k'<=cap *k':=ao4 _ lA;have CC:∀q,q<xs.length *k'->cur[off+q]?=some (cur.getD (off+q) undef):=λq hq=>by simp[Array.getD,show off+q<cur.size by omega]
    refine⟨(List.range (xs.length *k')).map λq=>cur.getD (off+q) undef,Src.Gy (by simp) ?_ ?_,?_⟩
    ·grind
    ·grind
    ·intro j u c hu v7;rw[aoN]at hu;obtain⟨q,hq,rfl⟩:=aoJ.1 hu;obtain⟨hj,CG⟩:=aoL.1 hq;simp at CG hj;subst CG;rw[flat_get _ vu _ hk]at v7;grind[Option.bind_eq_some_iff,Nat.add_assoc,Nat.mul_comm,Nat.div_add_mod]
  grind
 grind
theorem Mm{z}{N q:Nat}{u}(h:(Builtin.zeroCells z N)[q]?=some u):∃p:Nat,z[p]?=some u:=by
 unfold Builtin.zeroCells at h;rw[Array.getElem?_map]at h;obtain⟨r,hr,rfl⟩:=aoJ.1 h;have hz:0<z.size:=by
  grind
 have hm:r % z.size<z.size:=Nat.mod_lt _ hz;exact⟨r % z.size,by grind⟩
theorem zM{O}{e}{k}{zv:Value}{z}{olds news:List Value}{xs ys}{cap}(nT:zv.cells.toList=z)(wc:zv.cells.size=k)(kB:∀x∈z,x.oneCell'=true)(hk:0 < k)
  (ho:olds.length=xs.length *k) (Fv:news.length=ys.length *k) (CH:∀u∈olds,u.oneCell'=true) (CI:∀u∈news,u.oneCell'=true) (q9:∀x∈xs,x.length=k) (hyk:∀x∈ys,x.length=k)
  (R8:∀(j:Nat) (u:Value) (c:V),olds[j]?=some u->xs.flatten[j]?=some c->aB w O m u c) (Fw:∀(j:Nat) (u:Value) (c:V),news[j]?=some u->ys.flatten[j]?=some c->aB w O m u c)
  (bm:xs.length+ys.length<=cap) (vr:cap<=maxLen) {w0:World} {fr} (mw:fr.heap[w0.heap.size]?=some (.cells (olds.toArray++news.toArray++Builtin.zeroCells zv.cells (cap-(xs.length+ys.length))) e (0,0)))
  {O' m'} (acH:∀u c,aB w O m u c->aB fr O' m' u c):
  (aV.row e k (xs++ys)).Holds fr O' m' (.slice (some ⟨w0.heap.size,0,none⟩) (xs.length+ys.length) cap):=by
 have Ni:∀x∈xs++ys,x.length=k:=by
  grind
 refine .inr ⟨w0.heap.size,0,cap,_,by simp,mw,by grind,vr,?_,λi x hx=>Ni x (aoO hx),?_,?_⟩
 ·simp only[Array.size_append,List.size_toArray,size_zeroCells,wc,ho,Fv,<-apS,apz];grind
 ·grind[List.mem_of_getElem?,Mm]
 ·intro i j x y u hx hy hu;rw[apz]at hu;have hj:j<k:=by grind
  have hi:=(aoL.1 hx).1;simp at hi;have hb:(i+1) *k<=(xs.length+ys.length) *k:=ao4 _ (by omega);have lV:(xs++ys).flatten[i *k+j]?=some y:=by
   rw[flat_get _ Ni _ hk,Nat.mul_comm i k,Nat.mul_add_div hk,Nat.div_eq_of_lt hj,apQ,hx,Nat.mul_add_mod,aqu hj];exact hy
  rw[List.flatten_append,ap1,Nh _ q9]at lV;grind
def rZ(P:Program)(t:TypeId):Bool:=
 match P.underlying t with
 | some (.slice _)=>true
 | some .string=>true
 | _=>false
theorem AV{t}(h:rZ P t=true):∃d2,P.underlying t=some d2/\((∃e2,d2= .slice e2)\/d2= .string):=by
 unfold rZ at h;grind
theorem CJ{N by_}(hb:0<by_)(h:N *by_<=140737488355328):N<=maxLen:=by
 have h1:N *1<=N *by_:=Nat.mul_le_mul_left _ hb;grind[maxLen]
theorem ads{dst:Option Tmp}{t t2:TypeId}{so xo:Operand}{ty:TypeId}{pos:String}{after:Array Edge}{guard:Option (Nat×Bool)}{h k by_:Nat}{e e':TypeId}{z:List Value}{xs ys:List (List V)}
  (ht:kU P t=some (e,k,by_,z)) (vt:rZ P t2=true) (hs:s.ev so= .rv h) (hl:s.L.lookup h=some (.row e' k xs)) (he:e'=e) (hx:Gx s.L (s.ev xo)=some ys) (hk:0<k/\0<by_) (vu:∀y∈ys,y.length=k)
  (hb:(xs.length+ys.length) *by_<=140737488355328):
  q8 P n ⟨dst,.call {callee:= .builtin .append,args:= #[so,xo],argTypes:= #[t,t2]},ty,pos,after,guard⟩ s
   (λx s'=>x= .rv h/\s'=⟨(s.kill h).fr,aI.jz (s.kill h).L h (.row e k ((xs++ys).map (V.dU h)))⟩):=by
 intro fo m a w g;subst he;obtain⟨i,zv,hu,hi,hz,kV,vq,nT,wc,kB⟩:=nS ht;obtain⟨d2,nG,nr⟩:=AV vt;have Nj:=cm g so;rw[hs]at Nj;have we:=cm g xo;obtain⟨news,src,Fw⟩:=AU (P:=P) g.inv we hx hk.1 vu;have HJ:xs.length+ys.length<=maxLen:=CJ hk.2 hb;have sG:∀(l:List (List V)),(∀x∈l,x.length=k)->∀x∈l.map (V.dU h),x.length=k:=by
  intro l hl x hx;obtain⟨y,hy,rfl⟩:=aoQ.1 hx;rw[iz,ao8];exact hl y hy
 have air:∀(l:List (List V)),(l.map (V.dU h)).flatten=l.flatten.map (V.kill h):=by
  intro l
  induction l with
  | nil=>rfl
  | cons x l ih=>simp only[ao9,aqo,ih,iz,apL]
 have acK:∀{us:List Value} {l:List (List V)} {v':Value},(∀(j:Nat) (u:Value) (c:V),us[j]?=some u→l.flatten[j]?=some c→aB w (OO fo m) m u c)→
   ∀(j:Nat) (u:Value) (c:V),us[j]?=some u->(l.map (V.dU h)).flatten[j]?=some c->aB w (OO fo m) (eY m h v') u c:=by
  intro us l v' hh j u c hu hc;rw[air,aoN]at hc;obtain⟨y,hy,rfl⟩:=aoJ.1 hc;exact(hh j u y hu hy).kill (λi x hi hx=>by rw[eA v' hi];exact hx)
 obtain⟨sx,R9,Nk⟩:=g.inv.holds h _ (dK hl);have CK:=CB Nj;rw [CK]at R9;obtain rfl:=aoK R9;have jv:∀{v':Value} {w':World},(Builtin.append_ #[t,t2] ty #[a.eval so,a.eval xo]).run P w= .ok v' w'→
   (execOp a.eval ⟨dst,.call {callee:= .builtin .append,args:= #[so,xo],argTypes:= #[t,t2]},ty,pos,after,guard⟩).run P w= .ok (.value v') w':=by
  intro v' w' hr;simp[execOp,resolve,invoke,builtin,hr]
 have grow:∀{ao:Option Addr} {cap:Nat} {olds:List Value},a.eval so= .slice ao xs.length cap→Src P k (.slice ao xs.length cap) xs.length olds w→
   (∀(j:Nat) (u:Value) (c:V),olds[j]?=some u->xs.flatten[j]?=some c->aB w (OO fo m) m u c)->(∀x∈xs,x.length=k)->cap<xs.length+ys.length->
   ∃nx v w' m' x s',(execOp a.eval ⟨dst,.call {callee:= .builtin .append,args:= #[so,xo],argTypes:= #[t,t2]},ty,pos,after,guard⟩).run P w= .ok nx w'/\(nx= .value v\/(nx= .skip/\v=undef))/\
    (x=V.rv h/\s'=⟨(s.kill h).fr,aI.jz (s.kill h).L h (.row e' k ((xs++ys).map (V.dU h)))⟩)/\aB w' (OO fo m') m' v x/\G fo n m' s' a w'/\Step w (own m) w' (own m'):=by
  intro ao cap olds p7 hold R8 q9 lA;have bw:=sg (P:=P) (ty:=ty) hu nG nr hi kV hz src hold lA (by simp only[maxLen]at HJ;omega) (by rw[vq];exact growslice_fits lA hb);have bm:=grownCap_ge w (xs.length+ys.length) cap e';have vr:=grownCap_le_maxLen w (xs.length+ys.length) cap e' HJ;have yN:∀b,dn (.slice (some ⟨w.heap.size,0,none⟩) (xs.length+ys.length) (grownCap w (xs.length+ys.length) cap e')) b->dn (a.eval so) b\/w.heap.size<=b:=by
   intro b hb;simp[dn,jJ]at hb;right;omega
  have rF:=hY.alloc w.drew (.cells (olds.toArray++news.toArray++Builtin.zeroCells zv.cells (grownCap w (xs.length+ys.length) cap e'-(xs.length+ys.length))) e');have hh:(aV.row e' k ((xs++ys).map (V.dU h))).Holds (w.drew.alloc (.cells (olds.toArray++news.toArray++Builtin.zeroCells zv.cells (grownCap w (xs.length+ys.length) cap e'-(xs.length+ys.length))) e'))
    (OO fo (eY m h (.slice (some ⟨w.heap.size,0,none⟩) (xs.length+ys.length) (grownCap w (xs.length+ys.length) cap e')))) (eY m h (.slice (some ⟨w.heap.size,0,none⟩) (xs.length+ys.length) (grownCap w (xs.length+ys.length) cap e')))
    (.slice (some ⟨w.heap.size,0,none⟩) (xs.length+ys.length) (grownCap w (xs.length+ys.length) cap e')):=by
   rw[apL];have:=zM (w:=w) (O:=OO fo m) (m:=eY m h (.slice (some ⟨w.heap.size,0,none⟩) (xs.length+ys.length) (grownCap w (xs.length+ys.length) cap e'))) (e:=e') (k:=k) (zv:=zv) (z:=z) (olds:=olds) (news:=news)
    (xs:=xs.map (V.dU h)) (ys:=ys.map (V.dU h)) (cap:=grownCap w (xs.length+ys.length) cap e') nT wc kB hk.1 (by rw[ao8];exact hold.len) (by rw[ao8];exact src.len) hold.one src.one (sG _ q9) (sG _ vu)
    (acK R8) (acK Fw) (by simpa using bm) vr (w0:=w)
    (fr:=w.drew.alloc (.cells (olds.toArray++news.toArray++Builtin.zeroCells zv.cells (grownCap w (xs.length+ys.length) cap e'-(xs.length+ys.length))) e'))
    (by simpa using heap_alloc_new w.drew (.cells (olds.toArray++news.toArray++Builtin.zeroCells zv.cells (grownCap w (xs.length+ys.length) cap e'-(xs.length+ys.length))) e'))
    (O':=OO fo (eY m h (.slice (some ⟨w.heap.size,0,none⟩) (xs.length+ys.length) (grownCap w (xs.length+ys.length) cap e'))))
    (m':=eY m h (.slice (some ⟨w.heap.size,0,none⟩) (xs.length+ys.length) (grownCap w (xs.length+ys.length) cap e')))
    (λu c hu=>aB.mono (w:=w) (O:=OO fo m) ⟨rF.size,λb hb _=>rF.block b hb⟩ (by
     rintro b hb (⟨p,y,hy,kH⟩|hf)
     ·by_cases Fx:p=h
      ·subst Fx;rw[cr]at hy;obtain rfl:=aoK hy;simp[dn,jJ]at kH;omega
      ·rw[eA _ Fx]at hy;exact .inl ⟨p,y,hy,kH⟩
     ·exact .inr hf) (λ_ _ e=>e) hu)
   simpa using this
  obtain⟨g',st⟩:=g.change CK (by rfl) (by rfl) (by rfl) rF.size (λc hc _=>rF.block c hc) yN hh;rw[<-p7]at bw;exact⟨_,_,_,_,_,_,jv bw,.inl rfl,⟨rfl,rfl⟩,.rv h _ (cr _ _) rfl,g',st⟩
 rcases Nk with⟨xC,rfl⟩|⟨b,off,cap,cur,p7,mw,lA,pq,dZ,hlen,h1,fD⟩
 ·-- nil
  by_cases rf:ys=[]
  ·subst rf;have CL:news=[]:=apI (by simpa using src.len);subst CL;have bw:(Builtin.append_ #[t,t2] ty #[a.eval so,a.eval xo]).run P w= .ok (.slice none 0 0) w:=by
    obtain⟨q1,q2⟩:=src.run w rfl;simp only[apd]at q1 q2;rw[xC];rcases nr with⟨e2,rfl⟩|rfl<;>simp[Builtin.append_,run_underlying hu,run_underlying nG,sizeOf,typeInfo,hi,kV,q1,q2]
   obtain⟨g',st⟩:=g.change (w':=w) CK rfl rfl rfl (aoT _) (λ_ _ _=>rfl) (v':= .slice none 0 0) (by intro b hb;simp[dn,jJ]at hb) (r':= .row e' k []) (.inl ⟨rfl,rfl⟩);exact⟨_,_,_,_,_,_,jv bw,.inl rfl,⟨rfl,by simp⟩,.rv h _ (cr _ _) rfl,g',st⟩
  ·exact grow (ao:=none) (cap:=0) (olds:=[]) (by simpa using xC) Src.T3 (by simp) (by simp) (by have:=apB.2 rf;simpa using this)
 ·have q9:∀x∈xs,x.length=k:=by
   intro x hx;obtain⟨j,hj,rfl⟩:=aqe hx;exact hlen j _ (akC hj)
  have iE:xs.length *k<=cap *k:=ao4 _ lA;have CC:∀q,q<xs.length *k->cur[off+q]?=some (cur.getD (off+q) undef):=λq hq=>by simp[Array.getD,show off+q<cur.size by omega]
  by_cases HK:xs.length+ys.length<=cap
  ·-- there is room
   have ais:(xs.length+ys.length) *k<=cap *k:=ao4 _ HK;rw[apS]at ais;have CM:=src.len;have bw:=Gw (P:=P) (ty:=ty) hu nG nr hi kV src mw (off:=off) (sLen:=xs.length) (sCap:=cap) HK (by omega);rw[<-p7]at bw;have bx:=λq=>iY cur.toList news (off+xs.length *k) (by simp;omega) q
   have wr:=lB w b (cur.toList.take (off+xs.length *k)++news++cur.toList.drop (off+xs.length *k+news.length)).toArray;have yN:∀b',dn (.slice (some ⟨b,off,none⟩) (xs.length+ys.length) cap) b'->dn (a.eval so) b'\/w.heap.size<=b':=by
    intro b' dm;left;rw[p7];exact dm
   have hO:∀c,c<w.heap.size->OO fo (eY m h (.slice (some ⟨b,off,none⟩) (xs.length+ys.length) cap)) c->OO fo m c:=by
    rintro c hc (⟨p,y,hy,kH⟩|hf)
    ·by_cases Fx:p=h
     ·subst Fx;rw[cr]at hy;obtain rfl:=aoK hy;exact .inl ⟨p,_,CK,by rw[p7];exact kH⟩
     ·rw[eA _ Fx]at hy;exact .inl ⟨p,y,hy,kH⟩
    ·exact .inr hf
   have cQ:bK w (OO fo m) (w.setRow b (cur.toList.take (off+xs.length *k)++news++cur.toList.drop (off+xs.length *k+news.length)).toArray):=
    ⟨wr.size,λc hc ho=>wr.block c hc (λe=>ho (.inl ⟨h,_,CK,by rw[p7];simp[dn,jJ,e]⟩))⟩
   have Ni:∀x∈xs++ys,x.length=k:=by
    intro x hx;rcases ao1.1 hx with hx|hx
    ·exact q9 x hx
    ·exact vu x hx
   have hh:(aV.row e' k ((xs++ys).map (V.dU h))).Holds (w.setRow b (cur.toList.take (off+xs.length *k)++news++cur.toList.drop (off+xs.length *k+news.length)).toArray)
     (OO fo (eY m h (.slice (some ⟨b,off,none⟩) (xs.length+ys.length) cap))) (eY m h (.slice (some ⟨b,off,none⟩) (xs.length+ys.length) cap)) (.slice (some ⟨b,off,none⟩) (xs.length+ys.length) cap):=by
    refine .inr ⟨b,off,cap,_,by simp,setRow_heap w b cur _ e' _ mw,by simpa using HK,pq,by simp;omega,?_,?_,?_⟩
    ·intro q x hx;exact sG _ Ni x (aoO hx)
    ·intro q u hu;rw[apK,bx]at hu;split at hu
     ·exact src.one u (aoO hu)
     ·exact h1 q u (by rw[<-apm];exact hu)
    ·intro p q x y u hx hy hu;rw[apK,bx]at hu;have hq:q<k:=by have:=(aoL.1 hy).1;have:=sG _ Ni x (aoO hx);omega
     rw[aoN]at hx;obtain⟨x0,lX,rfl⟩:=aoJ.1 hx;rw[iz,aoN]at hy;obtain⟨y0,rf,rfl⟩:=aoJ.1 hy;refine aB.mono cQ hO (λ_ _ e=>e) (aB.kill (m:=m) (λi x hi hx=>by rw[eA _ hi];exact hx) ?_);rw[ap1]at lX;split at lX
     ·rename_i hp;have:=ao4 k (show p+1<=xs.length by omega);rw[apS,aqb]at this;rw[if_neg (by omega)]at hu;exact fD p q x0 y0 u lX rf (by rw[<-apm];exact hu)
     ·rename_i hp;have fJ:=(aoL.1 lX).1;have e1:p *k=xs.length *k+(p-xs.length) *k:=by rw[<-apS];congr 1;omega
      have e2:=ao4 k (show(p-xs.length)+1<=ys.length by omega);rw[apS,aqb]at e2;rw[if_pos (by omega),show off+p *k+q-(off+xs.length *k)=(p-xs.length) *k+q by omega]at hu;refine Fw _ u y0 hu ?_;rw[flat_get _ vu _ hk.1,Nat.mul_comm _ k,Nat.mul_add_div hk.1,Nat.div_eq_of_lt hq,apQ,lX,Nat.mul_add_mod,aqu hq];exact rf
   obtain⟨g',st⟩:=g.change CK wr.os wr.tape wr.output wr.size (λc hc bR=>wr.block c hc (λe=>bR (by rw[p7,e];rfl))) yN hh;exact⟨_,_,_,_,_,_,jv bw,.inl rfl,⟨rfl,rfl⟩,.rv h _ (cr _ _) rfl,g',st⟩
  ·refine grow (ao:=some ⟨b,off,none⟩) (cap:=cap) (olds:=(List.range (xs.length *k)).map λq=>cur.getD (off+q) undef) p7 (Src.Gy (by simp) ?_ ?_) ?_ q9 (by omega)
   ·intro u hu;obtain⟨q,hq,rfl⟩:=aoQ.1 hu;simp at hq;exact h1 _ _ (CC q hq)
   ·intro j u hu;rw[aoN]at hu;obtain⟨q,hq,rfl⟩:=aoJ.1 hu;obtain⟨hj,CG⟩:=aoL.1 hq;simp at CG hj;subst CG;simp only[World.cell?,mw];exact CC j hj
   ·intro j u c hu v7;rw[aoN]at hu;obtain⟨q,hq,rfl⟩:=aoJ.1 hu;obtain⟨hj,CG⟩:=aoL.1 hq;simp at CG hj;subst CG;rw[flat_get _ q9 _ hk.1]at v7;obtain⟨zz,HE,sI⟩:=apu.1 v7;refine fD (j / k) (j % k) zz c _ HE sI ?_;rw[aqz,Nat.mul_comm (j / k) k,Nat.div_add_mod];exact CC j hj
end
inductive SK where
 | b
 | i (k:IntKind)
 | s
 deriving DecidableEq
def Nn:Value->Value->Option Bool
 | .bool a,.bool b=>some (a==b)
 | .int k a,.int k' b=>if k=k' then some (a==b)else none
 | .string a,.string b=>some (a.toList==b.toList)
 | _,_=>none
def lD:List Value->List Value->Option Bool
 | [],[]=>some true
 | x::l,y::l'=>match Nn x y,lD l l' with
   | some a,some b=>some (a&&b)
   | _,_=>none
 | _,_=>none
def Np:SK->Value->Bool
 | .b,.bool _=>true
 | .i k,.int k' _=>k==k'
 | .s,.string _=>true
 | _,_=>false
def fits:List SK->List Value->Bool
 | [],[]=>true
 | k::ks,x::l=>Np k x&&fits ks l
 | _,_=>false
def Ag(P:Program)(k:TypeId->Option (List SK)):Nat->List Field->Option (List SK)
 | _,[]=>some []
 | o,f::fs=>match k f.type,Ag P k (o+P.cellsOf f.type) fs with
   | some a,some b=>if f.name≠ "_" /\a.length=P.cellsOf f.type/\f.offset=o then some (a++b)else none
   | _,_=>none
def Fy(P:Program):Nat->TypeId->Option (List SK)
 | 0,_=>none
 | m+1,t=>match P.underlying t with
   | some .bool=>some [.b]
   | some (.int k)=>some [.i k]
   | some .string=>some [.s]
   | some (.struct fs)=>if P.stoodInHeld t then none else Ag P (Fy P m) 0 fs.toList
   | _=>none
def valOf(P:Program)(t:TypeId)(xs:List Value):Value:=
 match P.underlying t with
 | some (.struct _)=> .agg xs.toArray
 | _=>xs.headD undef
section
variable {P : Program} {w : World}
theorem Gz:∀{a b xs},fits (a++b) xs=true->fits a (xs.take a.length)=true/\fits b (xs.drop a.length)=true
 | [],b,xs,h=>⟨by rfl,by grind⟩
 | k::a,b,[],h=>by grind[fits]
 | k::a,b,x::xs,h=>by
   simp[fits]at h;obtain⟨h1,h2⟩:=Gz h.2;exact⟨by simp[fits,h.1,h1],by simpa using h2⟩
theorem oe:∀{a xs},fits a xs=true->xs.length=a.length
 | [],[],_=>rfl
 | [],_::_,h=>by grind[fits]
 | _::_,[],h=>by grind[fits]
 | _::a,_::xs,h=>by simp[fits]at h;simp[oe h.2]
theorem HL:∀n xs ys {r},xs.length=ys.length->lD xs ys=some r->∃a b,lD (xs.take n) (ys.take n)=some a/\lD (xs.drop n) (ys.drop n)=some b/\r=(a&&b)
 | 0,xs,ys,r,_,h=>⟨true,r,by rfl,by grind,by simp⟩
 | n+1,[],[],r,_,h=>by grind
 | n+1,x::xs,y::ys,r,hl,h=>by
   rw[lD]at h;split at h
   ·rename_i a b h1 h2;obtain⟨c,e,h3,h4,rfl⟩:=HL n xs ys (by grind) h2;simp_all[lD,aq2]
   grind
 | n+1,[],_::_,r,hl,_=>by grind
 | n+1,_::_,[],r,hl,_=>by grind
theorem Xd{xs}(h:fits [.b] xs=true):∃a,xs=[.bool a]:=by
 cases xs with
 | nil=>grind[fits]
 | cons x l=>
   have hl:=oe h;have:l=[]:=by grind
   subst this;simp[fits]at h;cases x<;>simp[Np]at h
   simp
theorem Xe{k xs}(h:fits [.i k] xs=true):∃a,xs=[.int k a]:=by
 cases xs with
 | nil=>grind[fits]
 | cons x l=>
   have hl:=oe h;simp[fits]at h;cases x<;>simp[Np]at h
   grind
theorem Xf{xs}(h:fits [.s] xs=true):∃a,xs=[.string a]:=by
 cases xs with
 | nil=>grind[fits]
 | cons x l=>
   have hl:=oe h;have:l=[]:=by grind
   subst this;simp[fits]at h;cases x<;>simp[Np]at h
   simp
theorem CN{m}{e}{ks}(hk:Fy P m e=some ks){xs}{off}(hl:ks.length=P.cellsOf e)(hf:fits ks ((xs.toList.drop off).take ks.length)=true):
  (part e xs off).run P w= .ok (valOf P e ((xs.toList.drop off).take ks.length)) w:=by
 have hlen:=oe hf;cases m with
 | zero=>grind[Fy]
 | succ m=>
   have one:(∀fs,P.underlying e≠some (.struct fs))->(∀n e',P.underlying e≠some (.array n e'))->ks.length=1->∀kd,P.underlying e=some kd->(part e xs off).run P w= .ok (valOf P e ((xs.toList.drop off).take ks.length)) w:=by
    intro h1 gw h2 kd hu;have hx:∃v,xs[off]?=some v/\(xs.toList.drop off).take 1=[v]:=by
     grind[List.length_take,List.length_drop,Array.getElem?_eq_getElem,List.take_one,List.head?_drop]
    obtain⟨v,hx,ht⟩:=hx;simp_all[valOf,part,isAgg,run_underlying]
   rw[Fy]at hk;split at hk
   ·grind
   ·grind
   ·grind
   ·rename_i fs hu;obtain⟨i,hi⟩:=info_of_underlying hu;have hv:valOf P e ((xs.toList.drop off).take ks.length)= .agg ((xs.toList.drop off).take ks.length).toArray:=by
     simp_all[valOf]
    have dZ:i.size=P.cellsOf e:=by simp[Program.cellsOf,hi]
    rw[hv];have he:xs.extract off (off+i.size)=((xs.toList.drop off).take ks.length).toArray:=by
     grind
    simp_all[part,isAgg,run_underlying,sizeOf,typeInfo]
   grind
theorem CO{m d}(IH:∀(t:TypeId) (ks:List SK),Fy P m t=some ks→∀(xs ys:List Value) (r:Bool),fits ks xs=true→fits ks ys=true→lD xs ys=some r→(Op.equalIn (d+m) t (valOf P t xs) (valOf P t ys)).run P w= .ok r w)
  {xs ys}:∀fs o ks,Ag P (Fy P m) o fs=some ks->fits ks (xs.toList.drop o)=true->fits ks (ys.toList.drop o)=true->∀r,lD (xs.toList.drop o) (ys.toList.drop o)=some r->
   (Op.eqFields (d+m) xs ys fs).run P w= .ok r w
 | [],o,ks,hk,hx,hy,r,hr=>by
   simp only[Ag,anc]at hk;subst hk;have e1:=oe hx;have e2:=oe hy;rw[apw.1 e1,apw.1 e2]at hr;simp_all[lD,Op.eqFields]
 | f::fs,o,ks,hk,hx,hy,r,hr=>by
   rw[Ag]at hk;split at hk
   ·rename_i a b ha hb;split at hk
    ·rename_i hc;obtain⟨hn,hl,ho⟩:=hc;simp only[anc]at hk;subst hk;obtain⟨x1,x2⟩:=Gz hx;obtain⟨y1,y2⟩:=Gz hy;obtain⟨ra,rb,r1,r2,rfl⟩:=HL a.length _ _ (by rw[oe hx,oe hy]) hr;subst ho;have p1:=CN (w:=w) ha hl x1;have p2:=CN (w:=w) ha hl y1;have e1:=IH f.type a ha _ _ ra x1 y1 r1;rw[ap8]at x2 y2 r2;rw[ap8]at r2;rw[hl]at x2 y2 r2;have e2:=CO IH fs _ b hb x2 y2 rb r2;simp only[Op.eqFields,ne_eq,hn,not_false_eq_true,if_true,Sem.run_bind,p1,p2,Result.andThen_ok,e1];cases ra
     ·simp
     grind
    grind
   grind
theorem Sa:∀m d t ks,Fy P m t=some ks→∀xs ys r,fits ks xs=true→fits ks ys=true→lD xs ys=some r→
  (Op.equalIn (d+m) t (valOf P t xs) (valOf P t ys)).run P w= .ok r w
 | 0,_,_,_,hk,_,_,_,_,_,_=>by grind[Fy]
 | m+1,d,t,ks,hk,xs,ys,r,hx,hy,hr=>by
   rw[Fy]at hk;split at hk
   ·simp only[anc]at hk;subst hk;obtain⟨a,rfl⟩:=Xd hx;obtain⟨b,rfl⟩:=Xd hy;simp only[lD,Nn,Bool.and_true]at hr;grind[valOf,List.headD_cons,run_equalIn_bool']
   ·simp only[anc]at hk;subst hk;obtain⟨a,rfl⟩:=Xe hx;obtain⟨b,rfl⟩:=Xe hy;simp only[lD,Nn,Bool.and_true]at hr;grind[valOf,List.headD_cons,run_equalIn_int]
   ·simp only[anc]at hk;subst hk;obtain⟨a,rfl⟩:=Xf hx;obtain⟨b,rfl⟩:=Xf hy;simp only[lD,Nn,Bool.and_true]at hr;grind[valOf,List.headD_cons,run_equalIn_string]
   ·rename_i fs hu;split at hk
    ·cases hk
    ·rename_i bQ;have FA:P.fieldsOf t=fs:=by simp[Program.fieldsOf,hu]
     have:=run_equalIn_agg w (d+m) t xs.toArray ys.toArray (by rw[FA];exact hu) (by simpa using bQ);simp only[valOf,hu];rw[show d+(m+1)=(d+m)+1 by omega,this,FA];exact CO (λt ks hk xs ys r h1 h2 h3=>Sa m d t ks hk xs ys r h1 h2 h3) fs.toList 0 ks hk (by simpa using hx) (by simpa using hy) r (by simpa using hr)
   grind
def vM:List V->Option (List Value)
 | []=>some []
 | .d (.v x)::l=>match vM l with
   | some r=>some (x::r)
   | none=>none
 | _::_=>none
def Nq(P:Program)(t:TypeId):Option (List SK):=
 if P.eqGuardType P.depth t then none else match P.underlying t with
 | some (.struct _)=>Fy P 12 t
 | _=>none
def Jx(xs ys:List V):Option Bool:=
 match vM xs,vM ys with
 | some a,some b=>lD a b
 | _,_=>none
def wv(ks:List SK)(xs:List V):Bool:=
 match vM xs with
 | some a=>fits ks a
 | none=>false
def HM(P:Program)(op:BinOp)(t:TypeId)(x y:V):Option (V×Prop):=
 match op,x,y with
 | .eql,.agg xs,.agg ys=>match Nq P t,Jx xs ys with
   | some ks,some r=>some (kj r,wv ks xs=true/\wv ks ys=true)
   | _,_=>none
 | .neq,.agg xs,.agg ys=>match Nq P t,Jx xs ys with
   | some ks,some r=>some (kj (!r),wv ks xs=true/\wv ks ys=true)
   | _,_=>none
 | _,_,_=>none
theorem GA{O:Nat->Prop}{m:Nat->Option Value}:∀{cs:List V} {as:List Value} (vs:List Value),vM cs=some as->vs.length=cs.length->(∀(j:Nat) (x:Value) (y:V),vs[j]?=some x->cs[j]?=some y->aB w O m x y)->vs=as
 | [],as,[],h,_,_=>by simp only[vM,anc]at h;exact h
 | [],_,_::_,_,hl,_=>by simp at hl
 | _::_,_,[],_,hl,_=>by simp at hl
 | c::cs,as,v::vs,h,hl,hr=>by
   have h0:=hr 0 v c rfl rfl;have ht:∀as',vM cs=some as'->vs=as':=λas' h'=>GA vs h' (by simpa using hl) (λj x y hx hy=>hr (j+1) x y (by simpa using hx) (by simpa using hy))
   cases c with
   | d y=>
     cases y with
     | v u=>
       simp only[vM]at h;split at h
       ·rename_i r s8;simp only[anc]at h;subst h;rw[h0.pV,ht r s8]
       ·cases h
     | _=>simp[vM]at h
   | _=>simp[vM]at h
theorem Nr{fo:FO}{m:Nat→Option Value}{op:BinOp}{t:TypeId}{xo yo:Operand}{a b x:V}{c:Prop}(h:HM P op t a b=some (x,c))(hc:c){va vb:Value}(ha:aB w (OO fo m) m va a)(hb:aB w (OO fo m) m vb b):
  ∃v,(do eqGuard op t xo yo va vb;binOp op t va vb:Sem Value).run P w= .ok v w/\aB w (OO fo m) m v x:=by
 have key:∀{xs ys:List V} {ks:List SK} {r:Bool},a= .agg xs→b= .agg ys→Nq P t=some ks→Jx xs ys=some r→wv ks xs=true→wv ks ys=true→
   ∃us vs:Array Value,va= .agg us/\vb= .agg vs/\P.eqGuardType P.depth t=false/\(Op.equalIn 10000 t (.agg us) (.agg vs)).run P w= .ok r w:=by
  rintro xs ys ks r rfl rfl ht hr f1 f2;generalize e1:V.agg xs=A at ha;generalize e2:V.agg ys=B at hb;cases ha with
  | agg us cs hs h1 h2=>
    cases e1;cases hb with
    | agg vs jA hs' gw lE=>
      cases e2;unfold Nq at ht;split at ht
      ·cases ht
      ·rename_i hg;split at ht
       ·rename_i fs hu;refine⟨us,vs,rfl,rfl,by simpa using hg,?_⟩;unfold Jx at hr;unfold wv at f1 f2;split at hr
        ·rename_i as bs CP dm;rw[CP]at f1;rw[dm]at f2;have q1:=GA (w:=w) (O:=OO fo m) (m:=m) us.toList CP (by simpa using hs) (λj x y hx hy=>h2 j x y (by simpa using hx) hy);have q2:=GA (w:=w) (O:=OO fo m) (m:=m) vs.toList dm (by simpa using hs') (λj x y hx hy=>lE j x y (by simpa using hx) hy);have:=Sa (P:=P) (w:=w) 12 9988 t ks ht as bs r f1 f2 hr;simp only[valOf,hu,<-q1,<-q2]at this;exact this
        ·cases hr
       ·cases ht
    | _=>cases e2
  | _=>cases e1
 unfold HM at h;split at h
 ·rename_i xs ys;split at h
  ·rename_i ks r hk hr;simp only[anc,aoI]at h;obtain⟨rfl,rfl⟩:=h;obtain⟨us,vs,rfl,rfl,hg,he⟩:=key rfl rfl hk hr hc.1 hc.2;refine⟨.bool r,?_,nE _⟩;rw[Sem.run_bind,run_eqGuard_agg w _ _ _ _ _ _ hg];simp only[Result.andThen_ok,run_eql_struct,he]
  ·cases h
 ·rename_i xs ys;split at h
  ·rename_i ks r hk hr;simp only[anc,aoI]at h;obtain⟨rfl,rfl⟩:=h;obtain⟨us,vs,rfl,rfl,hg,he⟩:=key rfl rfl hk hr hc.1 hc.2;refine⟨.bool (!r),?_,nE _⟩;rw[Sem.run_bind,run_eqGuard_agg w _ _ _ _ _ _ hg];simp only[Result.andThen_ok,run_neq_struct,he]
  ·cases h
 ·cases h
end
section
variable {P : Program} {w w' : World} {fo : FO} {m m' : Nat -> Option Value} {L : aI} {n : Nat} {s : St} {a : Act}
def au(P:Program)(n:Nat)(ops:Array Oper)(l:List Oper)(s:St)(Q:AX->St->Prop):Prop:=
 ∀fo m0 w0 m a w,Step w0 (own m0) w (own m)->G fo n m s a w->wpListIn (wr fo.r) 0 P ops (fZ fo n m0 w0 Q) l a w
theorem G.put(g:G fo n m s a w){dst:Option Tmp}(hd:∀d,dst=some d->d<n){v x}(hr:aB w (OO fo m) m v x):G fo n m (s.put dst x) (a.put dst v) w:=by
 cases dst with
 | none=>exact g
 | some d=>
   refine⟨by simpa[Act.put]using g.size,?_,g.inv,g.defers⟩;intro t y hy;simp[St.put]at hy;rcases hy with⟨rfl,rfl⟩|hy
   ·have:(a.put (some t) v).tmps.getD t undef=v:=by
     have dZ:=g.size;simp_all[Act.put]
    grind
   ·obtain⟨hy,bR⟩:=se hy;obtain⟨h1,h2⟩:=g.fr t y hy;have T0:d≠t:=λe=>bR e.symm
    simp_all[Act.put]
variable {ops : Array Oper} {Q : AX -> St -> Prop} {o : Oper} {rest : List Oper}
theorem au.nil(h:Q .normal s):au P n ops [] s Q:=λ_ _ _ m _ _ st g=> .of m .normal s h g trivial st
theorem sM{r}{Q'}{a}{w w'}{nx}{v}(hw:Region.wanted o (yielded ops a.tmps)=true)(bw:(execOp a.eval o).run P w= .ok nx w')
  (sH:nx= .value v\/(nx= .skip/\v=undef)) (h:wpListIn (wr r) 0 P ops Q' rest (a.put o.dst v) w'):wpListIn (wr r) 0 P ops Q' (o::rest) a w:=by
 unfold wpListIn;grind[wW]
theorem au.lF{K}(hg:o.guard=none)(hd:∀d,o.dst=some d->d<n)(h:q8 P n o s K)(k:∀x s',K x s'->au P n ops rest (s'.put o.dst x) Q):au P n ops (o::rest) s Q:=by
 intro fo m0 w0 m a w st g;obtain⟨nx,v,w',m',x,s',bw,sH,hK,hr,g',fK⟩:=h fo m a w g;exact sM (by simp[Region.wanted,hg]) bw sH (k x s' hK fo m0 w0 m' _ w' (st.trans fK) (g'.put hd hr))
theorem au.quiet{x}(hg:o.guard=none)(hd:∀d,o.dst=some d->d<n)(h:W6 P o s.ev s.L x)(k:au P n ops rest (s.put o.dst x) Q):au P n ops (o::rest) s Q:=by
 intro fo m0 w0 m a w st g;obtain⟨v,bw,hr⟩:=h fo m a.eval w g.inv (λz _=>cm g z);exact sM (by simp[Region.wanted,hg]) bw (.inl rfl) (k fo m0 w0 m _ w st (g.put hd hr))
def Sd(g:Bool)(x:V)(want:Bool):Option (Option Bool):=
 match g with
 | false=>some (some false)
 | true=>match x with
   | oD b=>some (some (b==want))
   | _=>none
@[simp] theorem ahR{x want}:Sd false x want=some (some false):=rfl
@[simp] theorem ait{g b want}:Sd g (oD b) want=some (some (g&&(b==want))):=by cases g<;>simp[Sd]
theorem Ns{g want x r}(h:Sd g x want=some r):(g=false/\r=some false)\/∃b,x=oD b/\r=some (g&&(b==want)):=by
 cases g with
 | false=>simp_all
 | true=>
   simp[Sd]at h;grind
def fv(ops:Array Oper)(s:St)(o:Oper):Option (Option Bool):=
 match o.guard with
 | none=>some none
 | some (j,want)=>
   match(ops[j]?).bind (·.dst)with
   | some t=>match s.get t with
     | oD b=>some (some (b==want))
     | .gd g x=>Sd g x want
     | _=>none
   | none=>none
theorem lf{ops o}(hg:fv ops s o=some none):o.guard=none:=by
 grind[fv,Ns]
theorem qI(g:G fo n m s a w) t:aB w (OO fo m) m (a.tmps.getD t undef) (s.get t):=cm g (.tmp t)
theorem Qz{ops}{o:Oper}{j want t}(h:o.guard=some (j,want))(ht:(ops[j]?).bind (·.dst)=some t):t∈o.looksAt ops:=by
 simp_all[Oper.looksAt]
theorem r6{ops}{o:Oper}{s}{w}{fo}{m}{a:Act}(hs:∀t,t∈o.looksAt ops→aB w (OO fo m) m (a.tmps.getD t undef) (s.get t)){b}(h:fv ops s o=some (some b)):
  Region.wanted o (yielded ops a.tmps)=b:=by
 unfold fv at h;split at h
 ·cases h
 ·rename_i j want hg;split at h
  ·rename_i t ht;have hr:=hs t (Qz hg ht);have hy:∀b',a.tmps.getD t undef= .bool b'->Region.wanted o (yielded ops a.tmps)=(b'==want):=by
    intro b' dm;have hs:a.tmps[t]?=some (.bool b'):=by
     simp only[apM]at dm;grind[undef]
    simp_all[Region.wanted,yielded,ap7]
   split at h
   ·rename_i b' jS;simp only[anc]at h;subst h;rw[jS]at hr;exact hy b' hr.cy
   ·rename_i g0 x0 jS;rcases Ns h with⟨rfl,hb⟩|⟨b',rfl,hb⟩
    ·simp only[anc]at hb;subst hb;rw[jS]at hr;generalize hv:a.tmps.getD t undef=v at hr;cases hr with
     | gf _=>
       have hs:yielded ops a.tmps j=none:=by
        simp only[yielded,ht,ap7];simp only[apM]at hv;cases hx:a.tmps[t]? with
        | none=>rfl
        | some x=>rw[hx]at hv;simp only[apA]at hv;rw[hv];rfl
       simp_all[Region.wanted]
    ·simp only[anc]at hb;subst hb;rw[jS]at hr;generalize hv:a.tmps.getD t undef=v at hr;cases hr with
     | gt _ _ hr=>rw[hy b' (by rw[hv];exact hr.cy)];simp
     | gf _=>
       have hs:yielded ops a.tmps j=none:=by
        simp only[yielded,ht,ap7];simp only[apM]at hv;cases hx:a.tmps[t]? with
        | none=>rfl
        | some x=>rw[hx]at hv;simp only[apA]at hv;rw[hv];rfl
       simp_all[Region.wanted]
   grind
  grind
theorem nH(g:G fo n m s a w){b:Bool}(h:fv ops s o=some (some b)):Region.wanted o (yielded ops a.tmps)=b:=r6 (λt _=>qI g t) h
theorem au.guarded{b}{x}(jB:fv ops s o=some (some b))(hd:∀d,o.dst=some d→d < n)
  (h:b=true->∃dt:Operand->V,(∀z,z∈o.op.operands->∀w O m v,aB w O m v (s.ev z)->aB w O m v (dt z))/\W6 P o dt s.L x) (k:au P n ops rest (s.put o.dst (.gd b x)) Q):au P n ops (o::rest) s Q:=by
 intro fo m0 w0 m a w st g;have hw:=nH g jB;cases b with
 | true=>
   obtain⟨dt,h1,h2⟩:=h rfl;obtain⟨v,bw,hr⟩:=h2 fo m a.eval w g.inv (λz hz=>h1 z hz _ _ _ _ (cm g z));exact sM hw bw (.inl rfl) (k fo m0 w0 m _ w st (g.put hd (.gt _ _ hr)))
 | false=>
   unfold wpListIn;rw[if_neg (by grind)];exact⟨λ_ _=>trivial,k fo m0 w0 m _ w st (g.put hd (.gf _))⟩
def CQ:Option V->Nat->Option (Nat×Prop)
 | none,d=>some (d,True)
 | some (.d (.v (.int _ l))),_=>some (l.toNat,0<=l)
 | _,_=>none
def HN(P:Program)(t:TypeId)(x:V)(lo hi:Option V):Option (V×Prop):=
 match x with
 | .d (.v (.string s))=>
   if rW P t then match CQ lo 0,CQ hi s.size with
    | some (l,c1),some (u,c2)=>some (M4 (s.extract l u),(c1/\c2)/\l<=u/\u<=s.size)
    | _,_=>none
   else none
 | .d (.sl xs)=>match nC P t,CQ lo 0,CQ hi xs.length with
   | some (_,k),some (l,c1),some (u,c2)=>some (.d (.sl ((xs.take u).drop l)),((c1/\c2)/\l<=u/\u<=xs.length)/\∀x∈xs,x.length=k)
   | _,_,_=>none
 | _=>none
theorem HO{isSlice}{len C l u:Nat}{lo hi}(jn:(lo=none∧l=0)∨∃kl,lo=some (.int kl l))(KE:(hi=none∧u=len)∨∃ku,hi=some (.int ku u))(Xg:l≤u)(huC:u≤C):
  (Instr.sliceBounds isSlice len C lo hi none).run P w= .ok (l,u,C) w:=by
 rcases jn with⟨rfl,rfl⟩|⟨kl,rfl⟩<;>rcases KE with⟨rfl,rfl⟩|⟨ku,rfl⟩
 ·rfl
 ·simp[Instr.sliceBounds,Instr.sliceBound,asIntOf,huC]
 ·simp[Instr.sliceBounds,Instr.sliceBound,asIntOf,Xg]
 simp_all[Instr.sliceBounds,Instr.sliceBound,asIntOf]
theorem wx{z ρ}{dt:Operand->V}{d l c}(h:CQ (z.map dt) d=some (l,c))(hc:c)(hr:∀y,z=some y->aB w (OO fo m) m (ρ y) (dt y)):(z.map ρ=none/\l=d)\/∃k,z.map ρ=some (.int k l):=by
 cases z with
 | none=>
   simp[CQ]at h;exact .inl ⟨rfl,h.1.symm⟩
 | some y=>
   have hy:=hr y rfl;simp at h;generalize dt y=v at h hy;unfold CQ at h;split at h
   ·grind
   ·rename_i k q h';simp at h';subst h';cases h;exact .inr ⟨k,by simp only[apc];rw[hy.cy,aqw hc]⟩
   grind
theorem Nt{t}{xo}{lo hi}{ρ}{dt:Operand→V}{x}{c}(h:HN P t (dt xo) (lo.map dt) (hi.map dt)=some (x,c))(hc:c)
  (hx:aB w (OO fo m) m (ρ xo) (dt xo)) (jn:∀y,lo=some y->aB w (OO fo m) m (ρ y) (dt y)) (KE:∀y,hi=some y->aB w (OO fo m) m (ρ y) (dt y)):
  ∃v,(Instr.sliceAt t (ρ xo) (lo.map ρ) (hi.map ρ) none).run P w= .ok v w/\aB w (OO fo m) m v x:=by
 unfold HN at h;split at h
 ·rename_i s hs;rw[hs]at hx;split at h
  ·rename_i ht;split at h
   ·rename_i l c1 u c2 h1 h2;cases h;have hb:=HO (P:=P) (w:=w) (isSlice:=false) (C:=s.size) (wx h1 hc.1.1 jn) (wx h2 hc.1.2 KE) hc.2.1 hc.2.2;exact⟨_,by simp only[Instr.sliceAt,Instr.slice,Sem.run_bind,wq ht w,Result.andThen_ok,hx.cy];simp[hb],TW _⟩
   grind
  grind
 ·rename_i xs hs;rw[hs]at hx;split at h
  ·rename_i e k l c1 u c2 ht h1 h2;cases h;obtain⟨⟨⟨pD,pB⟩,Xg,hux⟩,hlen⟩:=hc;obtain⟨ao,cap,hv,lA,pq,k',b,off,f,ha,hk,Xh,fD⟩:=hx.kR.oJ;obtain⟨Nu,vt⟩:=oa ht w;have hb:=HO (P:=P) (w:=w) (isSlice:=true) (C:=cap) (wx h1 pD jn) (wx h2 pB KE) Xg (by omega);refine⟨_,by simp only[Instr.sliceAt,Instr.slice,Sem.run_bind,Nu,vt,Result.andThen_ok,hv,hb];rfl,.d _ _ ?_⟩;have nF:((xs.take u).drop l).length=u-l:=by grind
   refine .sl _ _ _ _ k b (off+l *k) (λi j=>f (l+i) j) nF.symm (by omega) (by omega) ?_ ?_ ?_ ?_
   ·intro h0;obtain⟨e1,e2,e3⟩:=ha (by omega);rw[if_neg (by omega),e1];simp_all[Addr.add_lit]
   ·grind
   ·intro i j hi hj;have aw:l+i<xs.length:=by omega
    have sG:k'=k:=by rw[<-hk _ _ (akC aw)];grind
    grind
   grind
  grind
 grind
def Ah(P:Program)(t:TypeId):Bool:=
 match P.underlying t with
 | some .bool=>true
 | _=>false
def EH(P:Program)(op:BinOp)(t:TypeId)(x y:V):Option (V×Prop):=
 match op,x,y with
 | .eql,oD a,oD b=>if Ah P t then some (kj (a==b),True)else none
 | .neq,oD a,oD b=>if Ah P t then some (kj (!(a==b)),True)else none
 | _,_,_=>none
def Jy(ρ:Operand->V)(c:Call):Option (V×Prop):=
 match c.callee,c.args.toList with
 | .builtin .max,[x,y]=>match ρ x,ρ y with
   | .d (.v (.int k a)),.d (.v (.int _ b))=>some (ju k (if b > a then b else a),True)
   | _,_=>none
 | .builtin .min,[x,y]=>match ρ x,ρ y with
   | .d (.v (.int k a)),.d (.v (.int _ b))=>some (ju k (if b<a then b else a),True)
   | _,_=>none
 | _,_=>none
def CR(P:Program)(t:TypeId):Bool:=
 match P.underlying t with
 | some (.interface _)=>false
 | some _=>true
 | none=>false
def GB:List V->Option (List D)
 | []=>some []
 | .d y::l=>match GB l with
   | some r=>some (y::r)
   | none=>none
 | _::_=>none
theorem Jz:∀{l r},GB l=some r->l=r.map .d
 | [],r,h=>by simp_all[GB]
 | x::l,r,h=>by
   unfold GB at h;split at h
   ·rename_i heq;cases heq
   ·rename_i y l' heq;cases heq;split at h
    ·rename_i r' hr;simp at h;subst h;rw[Jz hr];rfl
    ·cases h
   ·cases h
def T4(P:Program)(t:TypeId)(x:V):Option (V×Prop):=
 if CR P t then match x with
  | .d (.v v)=>some (.d (.uj t false [.v v]),True)
  | .d (.sl xs)=>some (.d (.uj t false [.sl xs]),True)
  | .agg cs=>match GB cs with
    | some ds=>some (.d (.uj t true ds),True)
    | none=>none
  | _=>none
 else none
def MG(ag:Bool)(cs:List D):V:=if ag then .agg (cs.map .d)else match cs with
 | [y]=> .d y
 | _=> .any
def zeroV(P:Program)(t:TypeId):V:=match(P.info? t).bind (·.zero)with
 | some (.agg cs)=>if cs.all (·.oneCell')then .agg (cs.toList.map λx=> .d (.v x))else .any
 | some x=>if x.oneCell' then .d (.v x)else .any
 | none=> .any
def aay(P:Program)(t:TypeId):Bool:=((P.info? t).bind (·.zero)).isSome
def MH(P:Program)(x:V)(a:TypeId)(ok:Bool):Option (V×Prop):=
 if CR P a then match x with
  | .d (.uj t ag cs)=>if t=a then(if ok then some (.bA [MG ag cs,oD true],True)else some (MG ag cs,True))
    else if ok&&aay P a then some (.bA [zeroV P a,oD false],True)else none
  | .d (.v .nilIface)=>if ok&&aay P a then some (.bA [zeroV P a,oD false],True)else none
  | _=>none
 else none
def yO(P:Program)(t:TypeId):Bool:=
 match P.underlying t with
 | some (.interface _)=>true
 | _=>false
def T5:Operand->Bool
 | .const _=>true
 | _=>false
def HP(P:Program)(op:BinOp)(t:TypeId)(k:Bool)(x y:V):Option (V×Prop):=
 match op,x,y with
 | .eql,.d (.uj ..),.d (.v .nilIface)=>if yO P t then some (kj false,True)else none
 | .neq,.d (.uj ..),.d (.v .nilIface)=>if yO P t then some (kj true,True)else none
 | .eql,.d (.v .nilIface),.d (.v .nilIface)=>if yO P t&&k then some (kj true,True)else none
 | .neq,.d (.v .nilIface),.d (.v .nilIface)=>if yO P t&&k then some (kj false,True)else none
 | _,_,_=>none
def T6(P:Program)(ρ:Operand->V)(o:Oper):Option (V×Prop):=
 match o.op with
 | .build t ps=>HI P t (ps.toList.map λp=>(p.1,ρ p.2))
 | .binOp op t x y _=>match HM P op t (ρ x) (ρ y)with
   | some r=>some r
   | none=>match HP P op t (T5 y) (ρ x) (ρ y)with
     | some r=>some r
     | none=>EH P op t (ρ x) (ρ y)
 | .call c=>Jy ρ c
 | .slice t x lo hi none=>HN P t (ρ x) (lo.map ρ) (hi.map ρ)
 | .makeInterface t x=>T4 P t (ρ x)
 | .typeAssert x _ a ok=>MH P (ρ x) a ok
 | _=>none
def q2(P:Program)(ρ:Operand->V)(L:aI)(o:Oper):Option (V×Prop):=
 match T6 P ρ o with
 | some r=>some r
 | none=>q1 P ρ L o
theorem Mn t a b(h:P.underlying t=some .bool):(binOp .neq t (.bool a) (.bool b)).run P w= .ok (.bool (!(a==b))) w:=by
 have h1:=run_eql_bool (w:=w) t a b h;simp[binOp]at h1⊢;generalize (Op.equal t (.bool a) (.bool b)).run P w=R at h1⊢;cases R with
 | ok u w'=>simp_all
 | _=>simp at h1
theorem Mo{op}{t}{xo yo}{a b x}{c}(h:EH P op t a b=some (x,c)){va vb}(ha:aB w (OO fo m) m va a)(hb:aB w (OO fo m) m vb b):
  ∃v,(do eqGuard op t xo yo va vb;binOp op t va vb:Sem Value).run P w= .ok v w/\aB w (OO fo m) m v x:=by
 unfold EH at h;split at h
 ·obtain rfl:=ha.cy;obtain rfl:=hb.cy;split at h
  ·cases h;have hu:P.underlying t=some .bool:=by
    grind[Ah]
   simp_all[eqGuard,run_eql_bool,nE]
  grind
 ·obtain rfl:=ha.cy;obtain rfl:=hb.cy;split at h
  ·cases h;have hu:P.underlying t=some .bool:=by
    grind[Ah]
   simp_all[eqGuard,Mn,nE]
  grind
 grind
theorem FB{t}(h:CR P t=true) w:∃d,(underlying t).run P w= .ok d w/\∀ms,d≠ .interface ms:=by
 unfold CR at h;split at h
 ·cases h
 ·simp_all[run_underlying]
 grind
theorem T7{t}{a x}{c}(h:T4 P t a=some (x,c)){va}(ha:aB w (OO fo m) m va a):
  ∃v,(Instr.makeInterface t va).run P w= .ok v w/\aB w (OO fo m) m v x:=by
 unfold T4 at h;split at h
 ·rename_i ht;obtain⟨d,hd,Xi⟩:=FB ht w;have bw:(Instr.makeInterface t va).run P w= .ok (.iface t va) w:=by
   simp only[Instr.makeInterface,Sem.run_bind,hd,Result.andThen_ok]
   first
    | rfl
    | (· rfl)
  refine⟨_,bw,?_⟩;split at h
  ·cases h;have hr:=ha.kR;cases hr with
   | v _ h1=>exact .d _ _ (.MX t _ _ h1 (.v _ h1))
  ·cases h;have hr:=ha.kR;obtain⟨a',cap,hv,-⟩:=hr.oJ;subst hv;exact .d _ _ (.MX t _ _ rfl hr)
  ·split at h
   ·rename_i ds Xj;cases h;rw[Jz Xj]at ha;cases ha with
    | agg vs _ hs h1 hh=>
      refine .d _ _ (.TO t vs ds (by grind) h1 (λj v y hv hy=>?_));have:=hh j v (.d y) hv (by grind);exact this.kR
   grind
  grind
 grind
theorem Ca{t ms}(h:P.underlying t=some (.interface ms)) d u x:(Op.equalIn (d+1) t (.iface u x) .nilIface).run P w= .ok false w:=by
 simp[Op.equalIn,run_underlying h]
theorem Cb{t ms}(h:P.underlying t=some (.interface ms)) d:(Op.equalIn (d+1) t .nilIface .nilIface).run P w= .ok true w:=by
 simp[Op.equalIn,run_underlying h]
theorem wy{t}(h:yO P t=true):∃ms,P.underlying t=some (.interface ms):=by
 grind[yO]
theorem JA{v t ag cs O}(h:eW w O v (.uj t ag cs)):∃u,v= .iface t u:=by
 cases h<;>exact⟨_,rfl⟩
theorem Nv{op}{t}{xo yo}{a b x}{c}(h:HP P op t (T5 yo) a b=some (x,c)){va vb}(ha:aB w (OO fo m) m va a)(hb:aB w (OO fo m) m vb b):
  ∃v,(do eqGuard op t xo yo va vb;binOp op t va vb:Sem Value).run P w= .ok v w/\aB w (OO fo m) m v x:=by
 unfold HP at h;split at h
 ·obtain rfl:=hb.cy;obtain⟨u,rfl⟩:=JA ha.kR;split at h
  ·rename_i ht;obtain⟨ms,hu⟩:=wy ht;cases h;have he:∀t',(Op.equal t (.iface t' u) .nilIface).run P w= .ok false w:=λt'=>Ca hu 9999 t' u
   simp_all[eqGuard,binOp,nE]
  grind
 ·obtain rfl:=hb.cy;obtain⟨u,rfl⟩:=JA ha.kR;split at h
  ·rename_i ht;obtain⟨ms,hu⟩:=wy ht;cases h;have he:∀t',(Op.equal t (.iface t' u) .nilIface).run P w= .ok false w:=λt'=>Ca hu 9999 t' u
   simp_all[eqGuard,binOp,nE]
  grind
 ·obtain rfl:=ha.cy;obtain rfl:=hb.cy;split at h
  ·rename_i ht;rw[aoM]at ht;obtain⟨ht,hk⟩:=ht;obtain⟨cv,rfl⟩:∃cv,yo= .const cv:=by
    cases yo<;>first|exact⟨_,rfl⟩|cases hk
   obtain⟨ms,hu⟩:=wy ht;cases h;have he:(Op.equal t .nilIface .nilIface).run P w= .ok true w:=Cb hu 9999;simp_all[eqGuard,pure,binOp,nE]
  grind
 ·obtain rfl:=ha.cy;obtain rfl:=hb.cy;split at h
  ·rename_i ht;rw[aoM]at ht;obtain⟨ht,hk⟩:=ht;obtain⟨cv,rfl⟩:∃cv,yo= .const cv:=by
    cases yo<;>first|exact⟨_,rfl⟩|cases hk
   obtain⟨ms,hu⟩:=wy ht;cases h;have he:(Op.equal t .nilIface .nilIface).run P w= .ok true w:=Cb hu 9999;simp_all[eqGuard,pure,binOp,nE]
  grind
 grind
theorem KF{a}(h:aay P a=true):∃v,(zeroValue a).run P w= .ok v w/\aB w (OO fo m) m v (zeroV P a):=by
 obtain⟨v,hv⟩:=apJ.1 h;obtain⟨i,hi,hz⟩:=apu.1 hv;refine⟨v,by simp_all[zeroValue,typeInfo],?_⟩;unfold zeroV;rw[hv];split
 ·rename_i cs heq;cases heq;split
  ·rename_i bV;rw[Array.all_eq_true']at bV;refine .agg cs _ (by simp) (λj x hx=>bV x (aqj hx)) (λj x y hx hy=>?_);rw[aoN,apm,hx]at hy;simp at hy;subst hy;exact .d _ _ (.v _ (bV x (aqj hx)))
  ·exact .any _
 ·rename_i x hx heq;cases heq;split
  ·rename_i h1;exact .d _ _ (.v _ h1)
  ·exact .any _
 grind
theorem Xk{t ag cs v}(h:eW w (OO fo m) v (.uj t ag cs)):∃u,v= .iface t u/\aB w (OO fo m) m u (MG ag cs):=by
 cases h with
 | MX _ x y hx hr=>exact⟨x,rfl,.d _ _ hr⟩
 | TO _ vs _ hs h1 hr=>
   refine⟨.agg vs,rfl,.agg vs _ (by grind) h1 (λj x y hx hy=>?_)⟩;rw[aoN]at hy;obtain⟨y',nq,rfl⟩:=aoJ.1 hy;exact .d _ _ (hr j x y' hx nq)
theorem QA{xt a:TypeId}{ok:Bool}{y x:V}{c:Prop}(h:MH P y a ok=some (x,c)){va:Value}(ha:aB w (OO fo m) m va y):
  ∃v,(Instr.typeAssert va xt a ok).run P w= .ok v w/\aB w (OO fo m) m v x:=by
 unfold MH at h;split at h
 ·rename_i ht;obtain⟨d,hd,Xi⟩:=FB ht w;have bA:∀(u:Value) (z:V) (b:Bool),aB w (OO fo m) m u z->aB w (OO fo m) m (.tuple #[u,.bool b]) (.bA [z,oD b]):=λu z b hu=>by
   refine .bA _ _ rfl (λj x y hx hy=>?_)
   match j,hx,hy with
   | 0,hx,hy=>simp at hx hy;subst hx;subst hy;exact hu
   | 1,hx,hy=>simp at hx hy;subst hx;subst hy;exact nE _
  split at h
  ·rename_i t ag cs;obtain⟨u,rfl,hu⟩:=Xk ha.kR;split at h
   ·rename_i hta;split at h
    ·rename_i aO;subst aO;simp only[anc,aoI]at h;obtain⟨rfl,_⟩:=h;refine⟨_,?_,bA u _ true hu⟩;cases d with
     | interface ms=>exact(Xi ms rfl).elim
     | _=>simp[Instr.typeAssert,hd,hta]
    ·rename_i aO;simp only[anc,aoI]at h;obtain⟨rfl,_⟩:=h;refine⟨_,?_,hu⟩;cases d with
     | interface ms=>exact(Xi ms rfl).elim
     | _=>simp[Instr.typeAssert,hd,hta,aO]
   ·rename_i hta;split at h
    ·rename_i aO;rw[aoM]at aO;obtain⟨rfl,hz⟩:=aO;obtain⟨z,HE,sI⟩:=KF (w:=w) (fo:=fo) (m:=m) hz;simp only[anc,aoI]at h;obtain⟨rfl,_⟩:=h;refine⟨_,?_,bA z _ false sI⟩;cases d with
     | interface ms=>exact(Xi ms rfl).elim
     | _=>simp[Instr.typeAssert,hd,hta,HE]
    ·cases h
  ·obtain rfl:=ha.cy;split at h
   ·rename_i aO;rw[aoM]at aO;obtain⟨rfl,hz⟩:=aO;obtain⟨z,HE,sI⟩:=KF (w:=w) (fo:=fo) (m:=m) hz;simp only[anc,aoI]at h;obtain⟨rfl,_⟩:=h;refine⟨_,?_,bA z _ false sI⟩;cases d with
    | interface ms=>exact(Xi ms rfl).elim
    | _=>simp[Instr.typeAssert,hd,HE]
   ·cases h
  ·cases h
 ·cases h
theorem uz{dt o x c}(h:q2 P dt L o=some (x,c))(hc:c):W6 P o dt L x:=by
 unfold q2 at h;split at h
 ·rename_i r h';simp only[anc]at h;subst h;have h:=h';unfold T6 at h;split at h
  ·rename_i t ps aD;intro fo m ρ w hi hr;obtain⟨v,h1,h2⟩:=Nf (w:=w) (m:=m) (O:=OO fo m) (ps:=ps.map λp=>(p.1,ρ p.2)) (by simp) (by
    intro j p q hp hq;rw[apm,Array.getElem?_map]at hp;obtain⟨y,hy,rfl⟩:=aoJ.1 hp;rw[aoN,apm,hy]at hq;simp only[apc,anc]at hq;subst hq;refine⟨rfl,hr _ ?_⟩;rw[aD];simp only[Op.operands,aq9,aoQ];grind) h hc
   simp_all[execOp]
  ·rename_i op t xo yo ty aD;intro fo m ρ w hi hr;have key:∃v,(do eqGuard op t xo yo (ρ xo) (ρ yo);binOp op t (ρ xo) (ρ yo):Sem Value).run P w= .ok v w/\aB w (OO fo m) m v x:=by
    split at h
    ·rename_i r s8;simp only[anc]at h;subst h;exact Nr (w:=w) (fo:=fo) (m:=m) (xo:=xo) (yo:=yo) s8 hc (hr xo (by simp_all[Op.operands])) (hr yo (by simp_all[Op.operands]))
    ·split at h
     ·rename_i r s8;simp only[anc]at h;subst h;exact Nv (w:=w) (fo:=fo) (m:=m) (xo:=xo) (yo:=yo) s8 (hr xo (by simp_all[Op.operands])) (hr yo (by simp_all[Op.operands]))
     ·exact Mo (w:=w) (fo:=fo) (m:=m) (xo:=xo) (yo:=yo) h (hr xo (by simp_all[Op.operands])) (hr yo (by simp_all[Op.operands]))
   obtain⟨v,h1,h2⟩:=key;refine⟨v,?_,h2⟩;rw[Sem.run_bind]at h1;simp only[execOp,aD,Sem.run_bind];simp_all
  ·rename_i cl aD;intro fo m ρ w hi hr;obtain⟨callee,args,argTypes⟩:=cl;unfold Jy at h;split at h
   ·rename_i xo yo p6 ob;simp only at p6 ob;obtain rfl:args= #[xo,yo]:=by grind
    subst p6;have e1:=hr xo (by simp_all[Op.operands,Call.operands]);have e2:=hr yo (by simp_all[Op.operands,Call.operands]);split at h
    ·rename_i k a k' b ha hb;simp only[anc,aoI]at h;obtain⟨rfl,rfl⟩:=h;rw[ha]at e1;rw[hb]at e2;exact⟨_,by simp[execOp,aD,resolve,invoke,builtin,e1.cy,e2.cy,run_max_int2,run_min_int2],kT _ _⟩
    grind
   ·rename_i xo yo p6 ob;simp only at p6 ob;obtain rfl:args= #[xo,yo]:=by grind
    subst p6;have e1:=hr xo (by simp_all[Op.operands,Call.operands]);have e2:=hr yo (by simp_all[Op.operands,Call.operands]);split at h
    ·rename_i k a k' b ha hb;simp only[anc,aoI]at h;obtain⟨rfl,rfl⟩:=h;rw[ha]at e1;rw[hb]at e2;exact⟨_,by simp[execOp,aD,resolve,invoke,builtin,e1.cy,e2.cy,run_max_int2,run_min_int2],kT _ _⟩
    grind
   grind
  ·rename_i t xo lo hi aD;intro fo m ρ w cn hr;obtain⟨v,h1,h2⟩:=Nt (w:=w) (fo:=fo) (m:=m) (ρ:=ρ) h hc (hr xo (by simp_all[Op.operands])) (λy hy=>hr y (by simp_all[Op.operands])) (λy hy=>hr y (by simp_all[Op.operands]));simp_all[execOp]
  ·rename_i t xo aD;intro fo m ρ w hi hr;obtain⟨v,h1,h2⟩:=T7 (w:=w) (fo:=fo) (m:=m) h (hr xo (by simp_all[Op.operands]));simp_all[execOp]
  ·rename_i xo xt a ok aD;intro fo m ρ w hi hr;obtain⟨v,h1,h2⟩:=QA (w:=w) (fo:=fo) (m:=m) (xt:=xt) h (hr xo (by simp_all[Op.operands]));simp_all[execOp]
  grind
 grind[aau]
def EI(P:Program)(s:St)(t:TypeId)(ao xo:Operand):Option (V×St×Prop):=
 match gS P t,(s.ev xo).cl with
 | some (_,k),some cs=>
   match s.ev ao with
   | .bp h off=>match s.L.lookup h with
     | some (.box b KC dW)=>some (.any,{s with L:=aI.jz s.L h (.box b KC (putAt off cs dW))},cs.length=k/\off+k<=dW.length)
     | _=>none
   | .ep h k' i j=>match s.L.lookup h with
     | some (.row e HB xs)=>some (.any,{s with L:=aI.jz s.L h (.row e HB (xs.set i (if j=0/\k=HB then cs else putAt j cs (xs[i]?.getD []))))},(cs.length=k/\i<xs.length)/\j+k<=HB/\k'=HB)
     | _=>none
   | _=>none
 | _,_=>none
def HQ(P:Program)(s:St)(h:Nat)(t:TypeId)(lo co:Operand):Option (V×St×Prop):=
 match kU P t,s.ev lo,s.ev co with
 | some (e,k,by_,z),.d (.v (.int _ l)),.d (.v (.int _ c))=>
   some (.rv h,{s with L:=(h,.row e k (List.replicate l.toNat (z.map λx=> .d (.v x))))::s.L},(0<k/\h∉keys s.L)/\(0<=l/\l<=c)/\(c<=maxLen/\by_ *c.toNat<=140737488355328))
 | _,_,_=>none
def qJ(s:St):List (Nat×Operand)->Nat->Option (List (List V))
 | [],_=>some []
 | (i,x)::l,j=>if i=j then match(s.ev x).cl,qJ s l (j+1)with
   | some cs,some r=>some (cs::r)
   | _,_=>none
   else none
def AW(P:Program)(s:St)(h0:Nat)(c:Call):Option (V×St×Prop):=
 match c.callee,c.args.toList,c.argTypes.toList with
 | .builtin .append,[so,xo],[t,t2]=>
   match kU P t,Gx s.L (s.ev xo)with
   | some (e,k,by_,_),some ys=>
     if rZ P t2 then
      match s.ev so with
      | .rv h=>match s.L.lookup h with
        | some (.row e' k' xs)=>some (.rv h,⟨(s.kill h).fr,aI.jz (s.kill h).L h (.row e k ((xs++ys).map (V.dU h)))⟩,((e'=e/\k'=k)/\0<k/\0<by_)/\(∀y∈ys,y.length=k)/\(xs.length+ys.length) *by_<=140737488355328)
        | _=>none
      | .d (.v (.slice none 0 0))=>some (.rv h0,{s with L:=(h0,.row e k ys)::s.L},(0<k/\0<by_/\h0∉keys s.L)/\(∀y∈ys,y.length=k)/\ys.length *by_<=140737488355328)
      | _=>none
     else none
   | _,_=>none
 | _,_,_=>none
end
section
variable {P : Program} {w w' : World} {fo : FO} {m m' : Nat -> Option Value} {L : aI} {n : Nat} {s : St} {a : Act}
theorem hY.refl w:hY w w:=⟨rfl,rfl,rfl,aoT _,λ_ _=>rfl⟩
theorem T8{dst}{t t2}{so xo}{ty}{pos}{after}{guard}{h k by_}{e}{z}{ys}
  (ht:kU P t=some (e,k,by_,z)) (vt:rZ P t2=true) (hs:s.ev so= .d (.v (.slice none 0 0))) (hn:h∉keys s.L) (hx:Gx s.L (s.ev xo)=some ys) (hk:0<k/\0<by_) (vu:∀y∈ys,y.length=k)
  (hb:ys.length *by_<=140737488355328):
  q8 P n ⟨dst,.call {callee:= .builtin .append,args:= #[so,xo],argTypes:= #[t,t2]},ty,pos,after,guard⟩ s
   (λx s'=>x= .rv h/\s'={s with L:=(h,.row e k ys)::s.L}):=by
 intro fo m a w g;obtain⟨i,zv,hu,hi,hz,kV,vq,nT,wc,kB⟩:=nS ht;obtain⟨d2,nG,nr⟩:=AV vt;have p7:=cm g so;rw [hs]at p7;have xC:=p7.cy;have we:=cm g xo;obtain⟨news,src,Fw⟩:=AU (P:=P) g.inv we hx hk.1 vu;have HJ:ys.length≤maxLen:=CJ hk.2 hb;have jv:∀{v':Value} {w':World},(Builtin.append_ #[t,t2] ty #[a.eval so,a.eval xo]).run P w= .ok v' w'→
   (execOp a.eval ⟨dst,.call {callee:= .builtin .append,args:= #[so,xo],argTypes:= #[t,t2]},ty,pos,after,guard⟩).run P w= .ok (.value v') w':=by
  simp_all[execOp,resolve,invoke,builtin]
 by_cases rf:ys=[]
 ·subst rf;have CL:news=[]:=apI (by simpa using src.len);subst CL;have bw:(Builtin.append_ #[t,t2] ty #[a.eval so,a.eval xo]).run P w= .ok (.slice none 0 0) w:=by
   obtain⟨q1,q2⟩:=src.run w rfl;simp only[apd]at q1 q2;rw[xC];rcases nr with⟨e2,rfl⟩|rfl<;>simp[Builtin.append_,run_underlying hu,run_underlying nG,sizeOf,typeInfo,hi,kV,q1,q2]
  obtain⟨g',st⟩:=g.new (hY.refl w) hn (x:= .slice none 0 0) (r:= .row e k []) (by simp[dn,jJ]) (.inl ⟨rfl,rfl⟩);exact⟨_,_,_,_,_,_,jv bw,.inl rfl,⟨rfl,rfl⟩,.rv h _ (cr _ _) rfl,g',st⟩
 ·have iZ:=apB.2 rf;have bw:=sg (P:=P) (ty:=ty) (ao:=none) (sLen:=0) (sCap:=0) (olds:=[]) hu nG nr hi kV hz src Src.T3 (by omega) (by grind[maxLen]) (by simp_all[growslice_fits]);have bm:=grownCap_ge w (0+ys.length) 0 e;have vr:=grownCap_le_maxLen w (0+ys.length) 0 e (by omega);have yN:∀b,dn (.slice (some ⟨w.heap.size,0,none⟩) (0+ys.length) (grownCap w (0+ys.length) 0 e)) b->w.heap.size<=b:=by
   simp[dn,jJ]
  have rF:hY w (w.drew.alloc (.cells (#[]++news.toArray++Builtin.zeroCells zv.cells (grownCap w (0+ys.length) 0 e-(0+ys.length))) e)):=by
   have:=hY.alloc w.drew (.cells (#[]++news.toArray++Builtin.zeroCells zv.cells (grownCap w (0+ys.length) 0 e-(0+ys.length))) e);exact⟨this.os,this.tape,this.output,this.size,this.block⟩
  obtain⟨g',st⟩:=g.new rF hn (x:= .slice (some ⟨w.heap.size,0,none⟩) (0+ys.length) (grownCap w (0+ys.length) 0 e)) (r:= .row e k ys) yN (by
   have:=zM (w:=w) (O:=OO fo m) (m:=m) (e:=e) (k:=k) (zv:=zv) (z:=z) (olds:=[]) (news:=news) (xs:=[]) (ys:=ys) (cap:=grownCap w (0+ys.length) 0 e) nT wc kB hk.1 (by simp) src.len (by simp) src.one (by simp) vu
    (by simp) Fw (by omega) vr (w0:=w) (fr:=w.drew.alloc (.cells (#[]++news.toArray++Builtin.zeroCells zv.cells (grownCap w (0+ys.length) 0 e-(0+ys.length))) e))
    (heap_alloc_new w.drew (.cells (#[]++news.toArray++Builtin.zeroCells zv.cells (grownCap w (0+ys.length) 0 e-(0+ys.length))) e))
    (O':=OO fo (eY m h (.slice (some ⟨w.heap.size,0,none⟩) (0+ys.length) (grownCap w (0+ys.length) 0 e)))) (m':=eY m h (.slice (some ⟨w.heap.size,0,none⟩) (0+ys.length) (grownCap w (0+ys.length) 0 e)))
    (λu c hu=>aB.mono (w:=w) (O:=OO fo m) ⟨rF.size,λb hb _=>rF.block b hb⟩ (CD g.inv yN) (sf g.inv hn _) hu)
   grind)
  rw[<-xC]at bw;exact⟨_,_,_,_,_,_,jv bw,.inl rfl,⟨rfl,rfl⟩,.rv h _ (cr _ _) rfl,g',st⟩
def oL(xs:List (List V))(l h:Nat):List (List V):=(xs.take h).drop l
theorem aaz{dst}{t}{xo}{lo hi}{ty}{pos}{after}{guard}{h k}{e e'}{xs}{l u:Nat}{kl ku}
  (ht:nC P t=some (e,k)) (hs:s.ev xo= .rv h) (hl:s.L.lookup h=some (.row e' k xs))
  (jn:(lo=none/\l=0)\/∃z,lo=some z/\s.ev z= .d (.v (.int kl l))) (KE:(hi=none/\u=xs.length)\/∃z,hi=some z/\s.ev z= .d (.v (.int ku u))) (Xg:l<=u) (hux:u<=xs.length):
  q8 P n ⟨dst,.slice t xo lo hi none,ty,pos,after,guard⟩ s
   (λx s'=>x= .rv h/\s'=⟨(s.kill h).fr,aI.jz (s.kill h).L h (.row e' k ((oL xs l u).map (V.dU h)))⟩):=by
 intro fo m a w g;have Nj:=cm g xo;rw[hs]at Nj;have CK:=CB Nj;obtain⟨sx,R9,Nk⟩:=g.inv.holds h _ (dK hl);rw[CK]at R9;obtain rfl:=aoK R9;obtain⟨Nu,vt⟩:=oa ht w;have sL:∀{C:Nat},u<=C->(Instr.sliceBounds true xs.length C (lo.map a.eval) (hi.map a.eval) none).run P w= .ok (l,u,C) w:=by
  intro C huC;have h1:∀z,s.ev z= .d (.v (.int kl l))->a.eval z= .int kl l:=λz hz=>by have:=cm g z;rw[hz]at this;exact this.cy
  have h2:∀z,s.ev z= .d (.v (.int ku u))->a.eval z= .int ku u:=λz hz=>by have:=cm g z;rw[hz]at this;exact this.cy
  rcases jn with⟨rfl,rfl⟩|⟨z,rfl,hz⟩<;>rcases KE with⟨rfl,rfl⟩|⟨z',rfl,Ai⟩
  ·rfl
  ·simp_all[Instr.sliceBounds,Instr.sliceBound,asIntOf]
  ·simp_all[Instr.sliceBounds,Instr.sliceBound,asIntOf]
  simp_all[Instr.sliceBounds,Instr.sliceBound,asIntOf]
 have acL:∀{ao:Option Addr} {C:Nat},a.eval xo= .slice ao xs.length C→u≤C→
   (execOp a.eval ⟨dst,.slice t xo lo hi none,ty,pos,after,guard⟩).run P w= .ok (.value (.slice (if C=l then ao else ao.map (·.add (l *k))) (u-l) (C-l))) w:=by
  simp_all[execOp,Instr.sliceAt,Instr.slice,Sem.run_bind,Result.andThen_ok,aqR]
 have nF:(oL xs l u).length=u-l:=by grind[oL]
 have hcg:∀(i:Nat) (x:List V),(oL xs l u)[i]?=some x->i<u-l/\xs[l+i]?=some x:=by
  grind[oL]
 rcases Nk with⟨xC,rfl⟩|⟨b,off,cap,cur,p7,mw,lA,pq,dZ,hlen,h1,fD⟩
 ·have Nw:u=0:=by grind
  subst Nw;have Ng:l=0:=by omega
  subst Ng;have bw:=acL (ao:=none) (C:=0) (by omega) (by omega);obtain⟨g',st⟩:=g.change (w':=w) CK rfl rfl rfl (aoT _) (λ_ _ _=>rfl) (v':= .slice none 0 0) (by grind) (r':= .row e' k []) (.inl ⟨rfl,rfl⟩);refine⟨_,_,_,_,_,_,bw,.inl rfl,⟨rfl,by rfl⟩,?_,g',st⟩;exact .rv h _ (by simp[cr]) rfl
 ·have bw:=acL p7 (by omega);have hv':(if cap=l then(some (⟨b,off,none⟩:Addr))else(some (⟨b,off,none⟩:Addr)).map (·.add (l *k)))=some ⟨b,if cap=l then off else off+l *k,none⟩:=by
   grind[Addr.add_lit]
  rw[hv']at bw;have yN:∀b',dn (.slice (some ⟨b,if cap=l then off else off+l *k,none⟩) (u-l) (cap-l)) b'->dn (a.eval xo) b'\/w.heap.size<=b':=by
   intro b' dm;left;rw[p7];exact dm
  have iE:(cap-l) *k+l *k=cap *k:=by rw[<-apS];grind
  have hh:(aV.row e' k ((oL xs l u).map (V.dU h))).Holds w (OO fo (eY m h (.slice (some ⟨b,if cap=l then off else off+l *k,none⟩) (u-l) (cap-l)))) (eY m h (.slice (some ⟨b,if cap=l then off else off+l *k,none⟩) (u-l) (cap-l)))
    (.slice (some ⟨b,if cap=l then off else off+l *k,none⟩) (u-l) (cap-l)):=by
   refine .inr ⟨b,if cap=l then off else off+l *k,cap-l,cur,by grind,mw,by grind,by omega,?_,?_,h1,?_⟩
   ·grind
   ·intro i x hx;rw[aoN]at hx;obtain⟨x0,lX,rfl⟩:=aoJ.1 hx;grind[iz,List.length_map]
   ·intro i j x y v hx hy hv;rw[aoN]at hx;obtain⟨x0,lX,rfl⟩:=aoJ.1 hx;rw[iz,aoN]at hy;obtain⟨y0,rf,rfl⟩:=aoJ.1 hy;obtain⟨cn,iQ⟩:=hcg i x0 lX;have bR:¬cap=l:=by omega
    rw[if_neg bR]at hv⊢;have:=fD (l+i) j x0 y0 v iQ rf (by grind);refine aB.mono (w:=w) (O:=OO fo m) (bK.refl w _) ?_ (λ_ _ e=>e) (aB.kill (m:=m) (λi x hi hx=>by simp_all[eA]) this);rintro c hc (⟨p,y,hy,kH⟩|hf)
    ·by_cases Fx:p=h
     ·subst Fx;rw[cr]at hy;obtain rfl:=aoK hy;exact .inl ⟨p,_,CK,by grind⟩
     ·rw[eA _ Fx]at hy;exact .inl ⟨p,y,hy,kH⟩
    ·exact .inr hf
  obtain⟨g',st⟩:=g.change (w':=w) CK rfl rfl rfl (aoT _) (λ_ _ _=>rfl) yN hh;exact⟨_,_,_,_,_,_,bw,.inl rfl,⟨rfl,rfl⟩,.rv h _ (cr _ _) rfl,g',st⟩
end
section
variable {P : Program} {w w' : World} {fo : FO} {m m' : Nat -> Option Value} {L : aI} {n : Nat} {s : St} {a : Act}
def T9:V->Option (Bool×List D)
 | .agg cs=>(GB cs).map λl=>(true,l)
 | .d x=>some (false,[x])
 | _=>none
def CS(es:List ME)(k:Value)(g:Bool)(cs:List D):List ME:=
 if es.any (λe=>rY e.1 k)then es.map (λe=>if rY e.1 k then(k,g,cs)else e)else es++ [(k,g,cs)]
theorem aaA{O v x k g cs}(hr:aB w O m v x)(h:T9 x=some (g,cs)):aB w O (λ_=>none) v (ME.val (k,g,cs)):=by
 unfold T9 at h;split at h
 ·obtain⟨l,hl,he⟩:=aoJ.1 h;cases he;rw[Jz hl]at hr;cases hr with
  | agg vs _ hs h1 hh=>
    refine .agg vs _ hs h1 (λj x y hx hy=>?_);have:=hh j x y hx hy;rw[aoN]at hy;obtain⟨z,_,rfl⟩:=aoJ.1 hy;exact .d _ _ this.kR
 ·cases h;exact .d _ _ hr.kR
 grind
def sh(P:Program)(s:St)(t:TypeId)(mo ko vo:Operand):Option (V×St×Prop):=
 match tyM P t,s.ev mo,s.ev ko,T9 (s.ev vo)with
 | some (d,_),.rv h,.d (.v k),some (g,cs)=>match s.L.lookup h with
   | some (.mp es)=>some (.any,{s with L:=aI.jz s.L h (.mp (CS es k g cs))},mn d k=true/\Jt d es=true)
   | _=>none
 | _,_,_,_=>none
theorem aaB{dst}{t ty}{pos}{after}{guard}{h}(hn:h∉keys s.L):
  q8 P n ⟨dst,.makeMap t none,ty,pos,after,guard⟩ s (λx s'=>x= .rv h/\s'={s with L:=(h,.mp [])::s.L}):=by
 intro fo m a w g;have hx:∀b,dn (.map (some w.heap.size)) b->w.heap.size<=b:=by simp[dn,jJ]
 obtain⟨g',st⟩:=g.new (hY.alloc w (.map #[] 0)) hn (r:= .mp []) hx ⟨w.heap.size,#[],0,rfl,(MapKept.heap_alloc w _).1,rfl,by simp,by simp⟩;refine⟨_,_,_,_,_,_,?_,.inl rfl,⟨rfl,rfl⟩,.rv h _ (cr _ _) rfl,g',st⟩;rfl
theorem Mr{t}{mo ko vo}(a:Act) dst ty pos after guard op(aD:op= .mapUpdate t mo ko vo∨op= .insert t mo ko vo)(h:(Instr.mapUpdate t (a.eval mo) (a.eval ko) (a.eval vo)).run P w= .ok () w'):
  (execOp a.eval ⟨dst,op,ty,pos,after,guard⟩).run P w= .ok .skip w':=by
 rcases aD with rfl|rfl<;>simp[execOp,h]
theorem Se{dst}{t ty}{pos}{after}{guard}{op}{mo ko vo}(aD:op= .mapUpdate t mo ko vo∨op= .insert t mo ko vo){x}{s1}{c}(h:sh P s t mo ko vo=some (x,s1,c))(hc:c):
  q8 P n ⟨dst,op,ty,pos,after,guard⟩ s (λx' s'=>x'=x/\s'=s1):=by
 intro fo m a w gG;unfold sh at h;split at h
 ·rename_i d e hh k g cs htm hm hk hv;split at h
  ·rename_i es hl;simp only[anc,aoI]at h;obtain⟨rfl,rfl,rfl⟩:=h;have r1:=cm gG mo;have r2:=cm gG ko;have r3:=cm gG vo;rw[hm]at r1;rw[hk]at r2;have ek:=r2.cy;obtain⟨u,hu,r,arr,clock,rfl,hb,hs,gv,Gt⟩:=gG.inv.holds hh _ (dK hl);have em:a.eval mo= .map (some r):=by
    generalize a.eval mo=vm at r1;cases r1 with
    | rv _ _ e _=>grind
   obtain⟨kt,km,rC⟩:=M6 htm w;have Kz:=MapKept.run_checkKey (P:=P) (w:=w) rC (td hc.1) false 9999;have hkt:=MapKept.run_keyThatStays (P:=P) (w:=w) (td hc.1);have JC:=aaA (k:=k) r3 hv;have aw:r<w.heap.size:=(aoY.1 hb).1;have wrote:∀o,EG w r {w with heap:=w.heap.setIfInBounds r o}:=λo=>⟨rfl,rfl,rfl,by simp,λc _ bR=>by grind⟩
   have rq:∀o,bK w (OO fo m) {w with heap:=w.heap.setIfInBounds r o}:=λo=>⟨by simp,λb _ dm=>by
    have:b≠r:=λe=>dm (.inl ⟨hh,_,hu,e.symm⟩)
    grind⟩
   have fin:∀o:Obj,(Instr.mapUpdate t (a.eval mo) (a.eval ko) (a.eval vo)).run P w= .ok () {w with heap:=w.heap.setIfInBounds r o}→MY (CS es k g cs) {w with heap:=w.heap.setIfInBounds r o} (OO fo m) (.map (some r))→
     ∃nx v w' m' x s',(execOp a.eval ⟨dst,op,ty,pos,after,guard⟩).run P w= .ok nx w'/\(nx= .value v\/(nx= .skip/\v=undef))/\(x= .any/\s'={s with L:=aI.jz s.L hh (.mp (CS es k g cs))})/\
     aB w' (OO fo m') m' v x/\G fo n m' s' a w'/\Step w (own m) w' (own m'):=by
    intro o h1 h2;obtain⟨g',st⟩:=gG.jz hu (b:=r) rfl (wrote o) (r:= .mp (CS es k g cs)) h2;exact⟨.skip,undef,_,m,.any,_,Mr a dst ty pos after guard op aD h1,.inr ⟨rfl,rfl⟩,⟨rfl,rfl⟩,.any _,g',st⟩
   rw[em,ek]at fin;rcases AS (w:=w) (O:=OO fo m) hc.1 es arr.toList (by omega) hc.2 (λi a e ha he=>Gt i a e (by grind) he) 0 with⟨q1,q2,q3⟩|⟨j,v,y,a',e',q1,q2,q3,q4,q5,q6,q7⟩
   ·have hf:=MapKept.run_findKey (P:=P) (w:=w) rC q1;have Xl:CS es k g cs=es++ [(k,g,cs)]:=by
     unfold CS;grind
    refine fin (.map (arr.push {key:=k,val:=a.eval vo,born:=clock}) (clock+1)) ?_ ?_
    ·simp[Instr.mapUpdate,km,MapKept.run_getObj_map hb,Kz,hf,MapKept.run_setObj_map _ hb,Result.andThen,Sem.run_bind]
    ·rw[Xl];refine⟨r,(arr.push {key:=k,val:=a.eval vo,born:=clock}),(clock+1),rfl,by grind,by grind,?_,?_⟩
     ·rw[apL,aqd];refine⟨gv,by simp,?_⟩;rintro x hx y hy rfl;simp only[ao9,aqX,aqh]at hy;subst hy;obtain⟨e,he,rfl⟩:=aoQ.1 hx;have h1:=q3 e he;have h2:=(pY (aoP.1 hc.2 e he) hc.1).2 rfl;grind
     ·intro i a e ha he;rw[Array.getElem?_push]at ha;rw[ap1]at he;split at ha
      ·rename_i hi;rw[if_neg (by omega),show i-es.length=0 by omega]at he;simp only[ape,anc]at ha he;subst ha;subst he;exact⟨rfl,JC.mono (rq _) (λ_ _ h=>h) (λ_ _ e=>e)⟩
      ·rename_i hi;have cn:i<arr.size:=(aoY.1 ha).1;rw[if_pos (by omega)]at he;obtain⟨p1,p2⟩:=Gt i a e ha he;exact⟨p1,p2.mono (rq _) (λ_ _ h=>h) (λ_ _ e=>e)⟩
   ·have hf:=MapKept.run_findKey (P:=P) (w:=w) rC q1;have Sf:arr[j]?=some a':=by grind
    have Xl:CS es k g cs=es.map (λe=>if rY e.1 k then(k,g,cs)else e):=by
     unfold CS;rw[if_pos];grind[List.any_eq_true,List.mem_of_getElem?,pY,List.all_eq_true]
    have pA:(es.map (λe=>if rY e.1 k then((k,g,cs):ME)else e)).map (·.1)=es.map (·.1):=by
     rw[ap6];apply List.map_congr_left;intro e he;simp only[Function.comp_apply];split
     ·rename_i h;exact((pY (aoP.1 hc.2 e he) hc.1).1 h).symm
     ·rfl
    refine fin (.map (arr.modify j λe=>{e with key:=k,val:=a.eval vo}) clock) ?_ ?_
    ·simp[Instr.mapUpdate,km,MapKept.run_getObj_map hb,Kz,hf,Sf,q6,hkt,MapKept.run_setObj_map _ hb,Result.andThen,Sem.run_bind]
    ·rw[Xl];refine⟨r,(arr.modify j λe=>{e with key:=k,val:=a.eval vo}),clock,rfl,by grind,by grind,by grind,?_⟩;intro i a e ha he;rw[aoN]at he;obtain⟨e0,vp,rfl⟩:=aoJ.1 he;rw[Array.getElem?_modify]at ha;by_cases Ny:j=i
     ·subst Ny;rw[if_pos rfl,Sf]at ha;simp only[apc,anc]at ha;rw[q5]at vp;obtain rfl:=aoK vp;subst ha;rw[if_pos ((pY (aoP.1 hc.2 e' (aoO q5)) hc.1).2 q7)];exact⟨rfl,JC.mono (rq _) (λ_ _ h=>h) (λ_ _ e=>e)⟩
     ·rw[if_neg Ny]at ha;have bR:rY e0.1 k=false:=by
       cases hq:rY e0.1 k with
       | false=>rfl
       | true=>
         have h1:=(pY (aoP.1 hc.2 e0 (aoO vp)) hc.1).1 hq;have h2:(es.map (·.1))[i]?=some k:=by grind
         have h3:(es.map (·.1))[j]?=some k:=by grind
         grind[List.getElem?_eq_some_iff,List.getElem?_inj]
      rw[bR];obtain⟨p1,p2⟩:=Gt i a e0 ha vp;exact⟨p1,p2.mono (rq _) (λ_ _ h=>h) (λ_ _ e=>e)⟩
  grind
 grind
end
end Go.Ab

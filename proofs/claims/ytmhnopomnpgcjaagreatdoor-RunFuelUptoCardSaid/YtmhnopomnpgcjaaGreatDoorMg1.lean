/-
  The texts A B C Mp D E F G H Eq I J Mq, one behind the other.
-/
import Derived.WalkKit
import Derived.Calls
import Derived.TacticsIn
import Derived.OrdersIn
import Derived.MapKept
import Derived.Great.BuildSlice
import Derived.Laws.StructEq
import Derived.Laws.Small
set_option linter.unusedSimpArgs false
set_option linter.unusedVariables false
namespace Go.Ab
abbrev Q0:Option (Nat×Nat):=some (0,0)
abbrev Q3:Option (Nat×Nat):=some (0,1)
abbrev asi:Option (Nat×Nat):=some (1,1)
abbrev asj:Option (Nat×Nat):=some (0,2)
abbrev asl:Option (Nat×Nat):=some (2,2)
abbrev asm:Option (Nat×Nat):=some (0,3)
abbrev asn:Option (Nat×Nat):=some (1,2)
abbrev akC:=@Option.some.injEq
abbrev anc:=@List.getElem?_eq_getElem
abbrev apM:=@Prod.mk.injEq
abbrev apN:=@Option.map_eq_some_iff
abbrev apO:=@Option.some.inj
abbrev apP:=@Bool.and_eq_true
abbrev apQ:=@List.getElem?_eq_some_iff
abbrev apR:=@List.all_eq_true
abbrev apS:=@List.getElem?_map
abbrev apT:=@List.mem_of_getElem?
abbrev apU:=@Nat.le_refl
abbrev apV:=@List.mem_map
abbrev apW:=@Nat.lt_or_eq_of_le
abbrev apX:=@List.length_append
abbrev apY:=@List.length_cons
abbrev apZ:=@List.cons_append
abbrev ap0:=@List.append_assoc
abbrev ap1:=@List.getElem_mem
abbrev ap2:=@List.mem_cons_of_mem
abbrev ap3:=@List.length_eq_zero_iff
abbrev ap4:=@List.nil_append
abbrev ap5:=@Nat.lt_succ_self
abbrev ap6:=@Array.getElem?_eq_some_iff
abbrev ap7:=@List.mem_cons_self
abbrev ap8:=@List.mem_cons
abbrev ap9:=@List.mem_append
abbrev aqa:=@Nat.lt_of_lt_of_le
abbrev aqb:=@Nat.mul_le_mul_right
abbrev aqc:=@Nat.zero_le
abbrev aqd:=@List.map_cons
abbrev aqe:=@Option.map_some
abbrev aqf:=@Array.getElem?_eq_getElem
abbrev aqg:=@List.length_map
abbrev aqh:=@List.take_append_drop
abbrev aqi:=@ByteArray.size_append
abbrev aqj:=@List.length_nil
abbrev aqk:=@List.getElem?_cons_zero
abbrev aql:=@Int.le_refl
abbrev aqm:=@List.mem_append_left
abbrev aqn:=@Array.getElem?_toList
abbrev aqo:=@Nat.le_trans
abbrev aqp:=@List.append_nil
abbrev aqq:=@Bool.false_eq_true
abbrev aqr:=@Classical.byContradiction
abbrev aqs:=@List.length_take
abbrev aqt:=@List.cons.sizeOf_spec
abbrev aqu:=@List.mem_append_right
abbrev aqv:=@List.sizeOf_lt_of_mem
abbrev aqw:=@List.takeWhile_cons
abbrev aqx:=@List.getElem?_append_left
abbrev aqy:=@List.take_add_one
abbrev aqz:=@List.length_pos_iff
abbrev aqA:=@Option.bind_eq_some_iff
abbrev aqB:=@Nat.zero_add
abbrev aqC:=@List.take_length
abbrev aqD:=@List.filter_append_perm
abbrev aqE:=@List.getElem?_append_right
abbrev aqF:=@Option.getD_some
abbrev aqG:=@List.filter_cons
abbrev aqH:=@List.eq_nil_of_length_eq_zero
abbrev aqI:=@Option.isSome_iff_exists
abbrev aqJ:=@List.getElem?_toArray
abbrev aqK:=@List.mem_range
abbrev aqL:=@List.getElem?_eq_none
abbrev aqM:=@List.map_append
abbrev aqN:=@Array.getD_eq_getD_getElem?
abbrev aqO:=@List.getElem?_drop
abbrev aqP:=@List.getElem?_cons_succ
abbrev aqQ:=@List.mem_of_mem_take
abbrev aqR:=@Nat.le_max_right
abbrev aqS:=@Nat.add_zero
abbrev aqT:=@Int.tmod_eq_emod_of_nonneg
abbrev aqU:=@Array.getElem?_setIfInBounds_ne
abbrev aqV:=@Nat.add_mul
abbrev aqW:=@List.drop_drop
abbrev aqX:=@Decidable.not_not
abbrev aqY:=@List.length_reverse
abbrev aqZ:=@List.nodup_cons
abbrev aq0:=@List.mem_filter
abbrev aq1:=@List.eq_nil_iff_forall_not_mem
abbrev aq2:=@Nat.le_max_left
abbrev aq3:=@Array.mem_of_getElem?
abbrev aq4:=@Bool.and_eq_false_iff
abbrev aq5:=@List.mem_singleton
abbrev aq6:=@List.mem_filterMap
abbrev aq7:=@Nat.lt_or_ge
abbrev aq8:=@List.getElem?_append
abbrev aq9:=@List.any_eq_false
abbrev ara:=@List.range_succ
abbrev arb:=@Nat.testBit_two_pow_mul_add
abbrev arc:=@List.map_map
abbrev ard:=@Bool.true_and
abbrev arf:=@Option.bind_some
abbrev arh:=@List.append_of_mem
abbrev ari:=@ByteArray.data_append
abbrev arj:=@List.getLastD_eq_getLast?
abbrev ark:=@Nat.one_mul
abbrev arl:=@Nat.pow_le_pow_right
abbrev arn:=@List.any_append
abbrev aro:=@List.getLast?_eq_some_getLast
abbrev arp:=@List.getElem_of_mem
abbrev arq:=@List.filterMap_cons
abbrev ars:=@List.getElem?_range
abbrev art:=@List.any_eq_true
abbrev aru:=@List.countP_append
abbrev arv:=@Bool.eq_iff_iff
abbrev arw:=@Bool.or_eq_true
abbrev arx:=@List.length_set
abbrev ary:=@List.nodup_append
abbrev arz:=@List.flatten_cons
abbrev arA:=@Bool.not_eq_true'
abbrev arB:=@Array.mem_toList_iff
abbrev arC:=@List.mem_take_iff_getElem
abbrev arD:=@List.drop_eq_getElem_cons
abbrev arE:=@List.findIdx?_eq_some_iff_getElem
abbrev arF:=@Nat.mod_eq_of_lt
abbrev arG:=@List.countP_cons
abbrev arH:=@Int.toNat_of_nonneg
abbrev arI:=@List.reverse_append
abbrev arJ:=@List.dropWhile_cons
abbrev arK:=@Nat.add_assoc
abbrev arL:=@List.reverse_cons
abbrev arM:=@List.dropLast_concat_getLast
abbrev arN:=@Array.mem_append
abbrev arO:=@List.contains_eq_mem
abbrev arP:=@List.mem_of_getLast?
abbrev arQ:=@List.nodup_iff_count
abbrev arR:=@Nat.eq_of_testBit_eq
abbrev arS:=@List.reverse_reverse
abbrev arT:=@List.sum_cons
abbrev arU:=@Int.tdiv_eq_ediv_of_nonneg
abbrev arV:=@ByteArray.ext
abbrev arW:=@Option.map_none
abbrev arX:=@Nat.min_eq_left
abbrev arY:=@List.getElem?_zip_eq_some
abbrev arZ:=@List.getLast?_eq_getElem?
abbrev ar0:=@Int.natCast_add
abbrev ar1:=@List.mem_or_eq_of_mem_set
abbrev ar2:=@List.getElem?_take
abbrev ar3:=@List.map_nil
abbrev ar4:=@List.length_erase_of_mem
abbrev ar5:=@List.getLast?_cons
abbrev ar6:=@Bool.not_eq_false'
abbrev ar7:=@Array.getElem_push
abbrev ar8:=@Bool.and_assoc
abbrev ar9:=@Nat.mul_le_mul
abbrev asa:=@Classical.axiomOfChoice
abbrev asb:=@List.getElem?_set
abbrev asc:=@Function.comp_def
abbrev asd:=@Int.toNat_natCast
abbrev ase:=@List.all_cons
abbrev asf:=@List.any_cons
abbrev asg:=@List.mem_toArray
abbrev ash:=@List.length_drop
inductive D where
 | v (x:Value)
 | sl (xs:List (List D))
 | uu (t:TypeId) (ag:Bool) (cs:List D)
instance:Inhabited D:=⟨.v undef⟩
def D.nn:D->D
 | .v (.slice none 0 0)=> .sl []
 | x=>x
inductive V where
 | d (x:D)
 | bp (h off:Nat)
 | rv (h:Nat)
 | ep (h k i j:Nat)
 | rp (cs:List D)
 | sv (h n:Nat)
 | eW (fn:Fn) (first eh:List V)
 | agg (cs:List V)
 | bM (vs:List V)
 | gd (g:Bool) (x:V)
 | kn (Q:Value->Prop)
 | any
@[match_pattern] abbrev iD(n:Int):V:= .d (.v (.int .i64 n))
@[match_pattern] abbrev oD(b:Bool):V:= .d (.v (.bool b))
instance:Inhabited V:=⟨.any⟩
inductive eX(w:World) (O:Nat->Prop):Value->D->Prop
 | v (x:Value) (h1:x.oneCell'=true):eX w O x (.v x)
 | sl (a:Option Addr) (n cap:Nat) (xs:List (List D)) (k b off:Nat) (f:Nat→Nat→Value)
   (hn:n=xs.length) (lN:n<=cap) (pA:cap<=maxLen) (ha:0<n->a=some ⟨b,off,none⟩/\¬O b/\b<w.heap.size)
   (hk:∀(i:Nat) (x:List D),xs[i]?=some x->x.length=k)
   (hc:∀i j,i<n->j<k->w.cell? ⟨b,off+i *k+j,none⟩=some (f i j))
   (hr:∀(i j:Nat) (x:List D) (y:D),xs[i]?=some x->x[j]?=some y->eX w O (f i j) y):
   eX w O (.slice a n cap) (.sl xs)
 | Ng (t:TypeId) (x:Value) (y:D) (hx:x.oneCell'=true) (h:eX w O x y):eX w O (.iface t x) (.uu t false [y])
 | T5 (t:TypeId) (vs:Array Value) (cs:List D) (hs:vs.size=cs.length) (h1:∀(j:Nat) (x:Value),vs[j]?=some x→x.oneCell'=true)
   (h:∀(j:Nat) (x:Value) (y:D),vs[j]?=some x->cs[j]?=some y->eX w O x y):eX w O (.iface t (.agg vs)) (.uu t true cs)
inductive az(w:World) (O:Nat->Prop) (m:Nat->Option Value):Value->V->Prop
 | d (x:Value) (y:D) (h:eX w O x y):az w O m x (.d y)
 | bp (h off b:Nat) (e:m h=some (.pointer (some ⟨b,0,none⟩))):az w O m (.pointer (some ⟨b,off,none⟩)) (.bp h off)
 | rv (h:Nat) (x:Value) (e:m h=some x) (e1:x.oneCell'=true):az w O m x (.rv h)
 | ep (h k i j b o n c:Nat) (e:m h=some (.slice (some ⟨b,o,none⟩) n c)):az w O m (.pointer (some ⟨b,o+i *k+j,none⟩)) (.ep h k i j)
 | rp (b off:Nat) (cs:List D) (f:Nat→Value) (hb:¬O b) (ay:b < w.heap.size)
   (hc:∀j,j<cs.length->w.cell? ⟨b,off+j,none⟩=some (f j))
   (hr:∀(j:Nat) (y:D),cs[j]?=some y->eX w O (f j) y):az w O m (.pointer (some ⟨b,off,none⟩)) (.rp cs)
 | sv (h n b cap:Nat) (e:m h=some (.pointer (some ⟨b,0,none⟩))) (hc:n<=cap) (hx:cap<=maxLen):az w O m (.slice (some ⟨b,0,none⟩) n cap) (.sv h n)
 | eW (fn:Fn) (first eh:Array Value) (cf cc:List V) (s1:first.size=cf.length) (s2:eh.size=cc.length)
   (h1:∀(j:Nat) (x:Value) (y:V),first[j]?=some x->cf[j]?=some y->az w O m x y)
   (h2:∀(j:Nat) (x:Value) (y:V),eh[j]?=some x->cc[j]?=some y->az w O m x y):az w O m (.func fn first eh) (.eW fn cf cc)
 | agg (vs:Array Value) (cs:List V) (hs:vs.size=cs.length) (h1:∀(j:Nat) (x:Value),vs[j]?=some x→x.oneCell'=true)
   (h:∀(j:Nat) (x:Value) (y:V),vs[j]?=some x->cs[j]?=some y->az w O m x y):az w O m (.agg vs) (.agg cs)
 | bM (vs:Array Value) (cs:List V) (hs:vs.size=cs.length)
   (h:∀(j:Nat) (x:Value) (y:V),vs[j]?=some x->cs[j]?=some y->az w O m x y):az w O m (.tuple vs) (.bM cs)
 | gt (x:Value) (y:V) (h:az w O m x y):az w O m x (.gd true y)
 | gf (y:V):az w O m undef (.gd false y)
 | kn (x:Value) (Q:Value->Prop) (h:Q x):az w O m x (.kn Q)
 | any (x:Value):az w O m x .any
structure bK(w:World) (O:Nat->Prop) (w':World):Prop where
 size:w.heap.size<=w'.heap.size
 block:∀b,b<w.heap.size->¬O b->w'.heap[b]?=w.heap[b]?
theorem bK.refl(w:World)(O:Nat->Prop):bK w O w:=⟨apU _,λ_ _ _=>rfl⟩
theorem CX{w w':World}{b o:Nat}{x:Value}(hb:w'.heap[b]?=w.heap[b]?)(h:w.cell? ⟨b,o,none⟩=some x):w'.cell? ⟨b,o,none⟩=some x:=by
 rw[World.cell?_of_block (w:=w) (a:=⟨b,o,none⟩) hb];exact h
theorem T6{w:World}{b o:Nat}{x:Value}(h:w.cell? ⟨b,o,none⟩=some x):b<w.heap.size:=World.block_lt_of_cell? w (a:=⟨b,o,none⟩) h
theorem eX.mono{w w':World}{O O':Nat->Prop}(hk:bK w O w')(hO:∀b,b<w.heap.size->O' b->O b){x:Value}{y:D}(h:eX w O x y):eX w' O' x y:=by
 induction h with
 | v x h1=>exact .v x h1
 | sl a n cap xs k b off f hn lN pA ha sR hc hr ih=>
   refine .sl a n cap xs k b off f hn lN pA (λh=>⟨(ha h).1,λho=>(ha h).2.1 (hO b (ha h).2.2 ho),aqa (ha h).2.2 hk.size⟩) sR (λi j hi hj=>?_) ih;have h0:=ha (by omega);exact CX (hk.block b h0.2.2 h0.2.1) (hc i j hi hj)
 | Ng t x y hx h ih=>exact .Ng t x y hx ih
 | T5 t vs cs hs h1 h ih=>exact .T5 t vs cs hs h1 ih
theorem az.mono{w w':World}{O O':Nat→Prop}{m m':Nat→Option Value}(hk:bK w O w')(hO:∀b,b < w.heap.size→O' b→O b)(hm:∀h x,m h=some x→m' h=some x)
  {x:Value} {y:V} (h:az w O m x y):az w' O' m' x y:=by
 induction h with
 | d x y h=>exact .d x y (h.mono hk hO)
 | bp h off b e=>exact .bp h off b (hm _ _ e)
 | rv h x e e1=>exact .rv h x (hm _ _ e) e1
 | ep h k i j b o n c e=>exact .ep h k i j b o n c (hm _ _ e)
 | rp b off cs f hb ay hc hr=>
   exact .rp b off cs f (λho=>hb (hO b ay ho)) (aqa ay hk.size) (λj hj=>CX (hk.block b ay hb) (hc j hj)) (λj y hy=>(hr j y hy).mono hk hO)
 | sv h n b cap e hc hx=>exact .sv h n b cap (hm _ _ e) hc hx
 | eW fn first eh cf cc s1 s2 h1 h2 CY FH=>exact .eW fn first eh cf cc s1 s2 CY FH
 | agg vs cs hs h1 h ih=>exact .agg vs cs hs h1 ih
 | bM vs cs hs h ih=>exact .bM vs cs hs ih
 | gt x y h ih=>exact .gt x y ih
 | gf y=>exact .gf y
 | kn x Q h=>exact .kn x Q h
 | any x=>exact .any x
def jU:Value->Nat->Prop
 | .pointer (some a),b=>a.block=b
 | .slice (some a) _ _,b=>a.block=b
 | .map (some r),b=>r=b
 | .func (.yield l) _ _,b=>l=b
 | _,_=>False
def df:Value->Nat->Prop
 | .tuple vs,b=>∃v,v∈vs/\jU v b
 | v,b=>jU v b
structure Env where
 H:World->(Nat->Prop)->Value->Prop
 mono:∀{w w':World} {O O':Nat->Prop} {x:Value},H w O x->(∀b,df x b->w'.heap[b]?=w.heap[b]?)->bK w O w'->(∀b,b<w.heap.size->O' b->O b)->H w' O' x
 lt:∀{w:World} {O:Nat->Prop} {x:Value} {b:Nat},H w O x->df x b->b<w.heap.size
abbrev ME:=Value×Bool×List D
def ME.val(e:ME):V:=if e.2.1 then .agg (e.2.2.map .d)else .d (e.2.2.headD default)
def Nh(es:List ME)(w:World)(O:Nat->Prop)(x:Value):Prop:=
 ∃r arr clock,x= .map (some r)/\w.heap[r]?=some (.map arr clock)/\arr.size=es.length/\(es.map (·.1)).Nodup/\
  ∀(i:Nat) (a:MapEntry) (e:ME),arr[i]?=some a->es[i]?=some e->a.key=e.1/\az w O (λ_=>none) a.val e.val
theorem KO{es:List ME}{w w':World}{O O':Nat->Prop}{x:Value}(h:Nh es w O x)(hb:∀b,df x b->w'.heap[b]?=w.heap[b]?)(hk:bK w O w')(hO:∀b,b<w.heap.size->O' b->O b):Nh es w' O' x:=by
 obtain⟨r,arr,clock,rfl,h1,h2,h3,h4⟩:=h;exact⟨r,arr,clock,rfl,by rw[hb r rfl];exact h1,h2,h3,λi a e ha he=>⟨(h4 i a e ha he).1,(h4 i a e ha he).2.mono hk hO (λ_ _ e=>e)⟩⟩
theorem adD{es:List ME}{w:World}{O:Nat->Prop}{x:Value}{b:Nat}(h:Nh es w O x)(hb:df x b):b<w.heap.size:=by
 obtain⟨r,arr,clock,rfl,h1,h2,h3,h4⟩:=h;simp only[df,jU]at hb;subst hb;exact(ap6.1 h1).1
inductive aV where
 | box (b:Nat) (ty:TypeId) (cs:List V)
 | row (ty:TypeId) (k:Nat) (xs:List (List V))
 | env (A:Env)
 | mp (es:List ME)
abbrev aH:=List (Nat×aV)
def keys(L:aH):List Nat:=L.map (·.1)
def own(m:Nat->Option Value)(b:Nat):Prop:=∃h x,m h=some x/\df x b
def aV.Holds(w:World)(O:Nat->Prop)(m:Nat->Option Value)(x:Value):aV->Prop
 | .box b ty cs=>∃bb,(b=0∨b=bb+1)∧∃cur,x= .pointer (some ⟨bb,0,none⟩)∧w.heap[bb]?=some (.cells cur ty (0,0))∧cur.size=cs.length∧
   (∀(j:Nat) (v:Value),cur[j]?=some v->v.oneCell'=true)/\∀(j:Nat) (v:Value) (c:V),cur[j]?=some v->cs[j]?=some c->az w O m v c
 | .row ty k xs=>(x= .slice none 0 0∧xs=[])∨∃b off cap cur,x= .slice (some ⟨b,off,none⟩) xs.length cap∧w.heap[b]?=some (.cells cur ty (0,0))∧
   xs.length<=cap/\cap<=maxLen/\off+cap *k<=cur.size/\(∀(i:Nat) (x:List V),xs[i]?=some x->x.length=k)/\(∀(j:Nat) (v:Value),cur[j]?=some v->v.oneCell'=true)/\
   ∀(i j:Nat) (x:List V) (y:V) (v:Value),xs[i]?=some x->x[j]?=some y->cur[off+i *k+j]?=some v->az w O m v y
 | .env A=>A.H w O x
 | .mp es=>Nh es w O x
structure FO where
 f:Nat->Prop
 D:List Deferred
 r:Option Nat:=none
 nm:Bool:=false
instance:CoeFun FO (λ_=>Nat->Prop):=⟨FO.f⟩
instance:Coe (Nat->Prop) FO:=⟨λf=>⟨f,[],none,false⟩⟩
def OO(fo:FO)(m:Nat->Option Value):Nat->Prop:=λb=>own m b\/fo b
def yQ:List (Nat×List Value):=[(0,[.int .u64 1,.int .u64 10,.int .u64 100,.int .u64 1000,.int .u64 10000,.int .u64 100000,.int .u64 1000000,.int .u64 10000000,.int .u64 100000000,.int .u64 1000000000,.int .u64 10000000000,.int .u64 100000000000,.int .u64 1000000000000,.int .u64 10000000000000,.int .u64 100000000000000,.int .u64 1000000000000000,.int .u64 10000000000000000,.int .u64 100000000000000000,.int .u64 1000000000000000000,.int .u64 10000000000000000000])]
def sb(w:World)(O:Nat->Prop):Prop:=∀p∈yQ,p.1<w.heap.size/\¬O p.1/\(∀(j:Nat) (v:Value),p.2[j]?=some v->v.oneCell'=true/\w.cell? ⟨p.1,j,none⟩=some v)/\∃t z,w.heap[p.1]?=some (.cells p.2.toArray t z)
theorem sb.mono{w w':World}{O O':Nat->Prop}(h:sb w O)(hk:bK w O w')(hO:∀b,b<w.heap.size->O' b->O b):sb w' O':=by
 intro p hp;obtain⟨h1,h2,h3,t,z,h4⟩:=h p hp;exact⟨aqa h1 hk.size,λh=>h2 (hO _ h1 h),λj v hj=>⟨(h3 j v hj).1,CX (hk.block _ h1 h2) (h3 j v hj).2⟩,t,z,by rw[hk.block _ h1 h2];exact h4⟩
structure Inv(fo:FO) (m:Nat->Option Value) (L:aH) (w:World):Prop where
 nodup:(keys L).Nodup
 fI:∀h x,m h=some x->h∈keys L
 apart:∀h h' x x' b,m h=some x->m h'=some x'->df x b->df x' b->h=h'
 others:∀h x b,m h=some x->df x b->¬fo b
 ei:∀b,fo b->b<w.heap.size
 holds:∀h r,(h,r)∈L->∃x,m h=some x/\r.Holds w (OO fo m) m x
 ef:sb w (OO fo m)
structure Step(w:World) (o:Nat->Prop) (w':World) (o':Nat->Prop):Prop where
 os:w'.os=w.os
 tape:w'.tape=w.tape
 output:w'.output=w.output
 size:w.heap.size<=w'.heap.size
 block:∀b,b<w.heap.size->¬o b->w'.heap[b]?=w.heap[b]?
 owned:∀b,b<w.heap.size->o' b->o b
theorem Step.refl(w:World)(o:Nat->Prop):Step w o w o:=⟨rfl,rfl,rfl,apU _,λ_ _ _=>rfl,λ_ _ h=>h⟩
theorem Step.trans{w w' An:World}{o o' mq:Nat->Prop}(h:Step w o w' o')(k:Step w' o' An mq):Step w o An mq:=
 ⟨k.os.trans h.os,k.tape.trans h.tape,k.output.trans h.output,aqo h.size k.size,
  λb hb ho=>(k.block b (aqa hb h.size) (λir=>ho (h.owned b hb ir))).trans (h.block b hb ho),
  λb hb ho=>h.owned b hb (k.owned b (aqa hb h.size) ho)⟩
theorem Step.rH{w w':World}{o o' fo:Nat->Prop}(h:Step w o w' o'):bK w (λb=>o b\/fo b) w':=
 ⟨h.size,λb hb ho=>h.block b hb (λx=>ho (.inl x))⟩
theorem Step.sub{w w':World}{o o' fo:Nat->Prop}(h:Step w o w' o'):∀b,b<w.heap.size->(o' b\/fo b)->(o b\/fo b):=
 λb hb ho=>ho.imp (h.owned b hb) id
end Go.Ab
namespace Go.Ab
structure St where
 fr:List (Nat×V)
 L:aH
def eY(t:Nat):List (Nat×V)->V
 | []=> .any
 | (k,x)::l=>if k=t then x else eY t l
def vS(t:Nat):List (Nat×V)->List (Nat×V)
 | []=> []
 | (k,x)::l=>if k=t then vS t l else(k,x)::vS t l
theorem sr{t p}:∀{l},p∈vS t l->p∈l/\p.1≠t
 | [],h=>by cases h
 | (k,x)::l,h=>by
   rw[vS]at h;split at h
   ·have:=sr h;exact⟨ap2 _ this.1,this.2⟩
   ·rcases ap8.1 h with rfl|h
    ·grind
    ·have:=sr h;exact⟨ap2 _ this.1,this.2⟩
theorem xF{t}:∀{l},eY t l= .any\/(t,eY t l)∈l
 | []=> .inl rfl
 | (k,x)::l=>by
   rw[eY];split
   ·rename_i hk;subst hk;exact .inr ap7
   ·exact(xF).imp id (ap2 _)
def St.get(s:St)(t:Nat):V:=eY t s.fr
def St.put(s:St)(t:Option Nat)(x:V):St:=
 match t with
 | none=>s
 | some t=>{s with fr:=(t,x)::vS t s.fr}
def EU(v:Value):V:=if v.oneCell' then .d (.v v)else .any
def St.ev(s:St):Operand->V
 | .tmp t=>s.get t
 | .const v=>EU v
 | .global g=>match yQ.lookup g with
   | some cs=> .rp (cs.map .v)
   | none=> .d (.v (.pointer (some ⟨g,0,none⟩)))
 | .func f=> .eW (.func f) [] []
structure G(fo:FO) (n:Nat) (m:Nat->Option Value) (s:St) (a:Act) (w:World):Prop where
 size:a.tmps.size=n
 fr:∀t x,(t,x)∈s.fr->t<n/\az w (OO fo m) m (a.tmps.getD t undef) x
 inv:Inv fo m s.L w
 defers:a.defers=fo.D
def wr(r:Option Nat):Fence:={Fence.wide with round:=r}
theorem GC{r n P f args w R}(h:Calls P f args w R):CallsIn (wr r) n P f args w R:=
 (callsIn_wide).2 h
theorem yR{P o ρ w w' nx}(h:(execOp ρ o).run P w= .ok nx w')(hn:∀d,nx≠ .defer d):∀c,o.op≠ .defer c:=by
 intro c hc;simp[execOp,hc]at h;cases hr:(resolve ρ c o.type).run P w with
 | ok d w1=>rw[hr]at h;simp at h;grind
 | halt x w1=>simp_all
theorem CZ{r ρ o}(h:∀c,o.op≠ .defer c):o.semAt r ρ=execOp ρ o:=by
 cases r with
 | none=>rfl
 | some l=>simp_all[Oper.semAt_some]
theorem xl{r}{P}{o}{a}{w w'}{nx}{v}{next}{Q}(bq:(execOp a.eval o).run P w= .ok nx w')
  (sS:nx= .value v\/(nx= .skip/\v=undef)) (h:next (a.put o.dst v) w'):o.wpIn (wr r) 0 P a w next Q:=by
 refine⟨λ_ _=>trivial,?_⟩;rw[CZ (yR bq (by grind)),bq];rcases sS with rfl|⟨rfl,rfl⟩
 ·exact h
 ·exact h
theorem yS{r}{P}{o}{a}{w w'}{f}{args}{next}{Q}(bq:(execOp a.eval o).run P w= .ok (.enter f args) w')
  (h:Calls P f args w' fun
   | .returned v,An=>next (a.put o.dst v) An
   | .panicked chain,An=>Q (.panic chain) a An
   | .outgrown,_=>LetsOut Q):o.wpIn (wr r) 0 P a w next Q:=by
 refine⟨λ_ _=>trivial,?_⟩;rw[CZ (yR bq (by simp)),bq];exact⟨λh=>by grind[wr,Fence.wide],GC h⟩
theorem Xd{r}{P}{o}{a}{w w'}{v}{next}{Q}(hd:∀c,o.op≠ .defer c)(bq:(execOp a.eval o).run P w= .halt (.panic v) w')
  (h:Q (.panic [{v,recovered:=false}]) a w'):o.wpIn (wr r) 0 P a w next Q:=by
 refine⟨λ_ _=>trivial,?_⟩;rw[CZ hd,bq];exact h
inductive AX where
 | normal
 | exit (i:Nat)
 | goto (l:Nat)
 | ret
 | iC (x:V)
def Bd(w:World)(O:Nat->Prop)(m:Nat->Option Value)(chain:List PanicEntry)(x:V):Prop:=
 ∃v gN,chain={v:=v,recovered:=false}::gN/\(∀e∈gN,e.goexit=false)/\az w O m v x
def bF(w:World)(O:Nat->Prop)(m:Nat->Option Value):Exit->AX->Prop
 | .normal,.normal=>True
 | .exit i,.exit j=>i=j
 | .goto i,.goto j=>i=j
 | .ret,.ret=>True
 | .panic chain,.iC x=>Bd w O m chain x
 | _,_=>False
def FO.mark(fo:FO)(ms:List Nat):FO:=⟨λb=>fo.f b\/b∈ms,ms.map (λr=>⟨.collected r,#[]⟩)++fo.D,fo.r,fo.nm⟩
@[simp] theorem FO.Be(fo:FO):fo.mark []=fo:=by
 simp[FO.mark]
theorem FO.KQ(fo:FO) ms Ni:(fo.mark ms).mark Ni=fo.mark (Ni++ms):=by
 obtain⟨f,D,r,k⟩:=fo;simp[FO.mark,or_assoc,or_comm]
def Marks(k:Bool)(w w':World)(ms:List Nat):Prop:=(ms.Nodup/\(k=true->ms=[]))/\∀r∈ms,w.heap.size<=r/\w'.heap[r]?=some (.deferred (some []))
theorem Marks.nil k w w':Marks k w w' []:=⟨⟨List.nodup_nil,λ_=>rfl⟩,by simp⟩
def fX(fo:FO)(n:Nat)(m:Nat->Option Value)(w:World)(Q:AX->St->Prop)(e:Exit)(a':Act)(w':World):Prop:=
 ∃ms m' x s',Marks fo.nm w w' ms/\Q x s'/\G (fo.mark ms) n m' s' a' w'/\bF w' (OO (fo.mark ms) m') m' e x/\Step w (own m) w' (own m')
theorem fX.of{fo}{n}{m}{w}{Q}{e}{a'}{w'} m' x s'(h:Q x s')(g:G fo n m' s' a' w')(hx:bF w' (OO fo m') m' e x)
  (st:Step w (own m) w' (own m')):fX fo n m w Q e a' w':=⟨[],m',x,s',Marks.nil _ _ _,h,by simp_all,by simp_all,st⟩
def gi:Code->Bool
 | .rangeFunc .. =>true
 | .seq x y=>gi x||gi y
 | .cond _ x y=>gi x||gi y
 | .block _ c=>gi c
 | .loop c=>gi c
 | .scope c=>gi c
 | _=>false
def aw(P:Program)(n:Nat)(c:Code)(s:St)(Q:AX->St->Prop):Prop:=
 ∀fo m a w,(gi c=true->fo.r=none/\fo.nm=false)->G fo n m s a w->Code.wpIn (wr fo.r) 0 P c (fX fo n m w Q) a w
theorem fX.mono{fo n m w Q Q'}(hq:∀x s,Q x s->Q' x s){e a' w'}(h:fX fo n m w Q e a' w'):fX fo n m w Q' e a' w':=by
 obtain⟨ms,m',x,s',h0,h1,h2⟩:=h;exact⟨ms,m',x,s',h0,hq _ _ h1,h2⟩
theorem fX.step{fo n m m1 w w1 Q}(hs:Step w (own m) w1 (own m1)){e a' w'}(h:fX fo n m1 w1 Q e a' w'):fX fo n m w Q e a' w':=by
 obtain⟨ms,m',x,s',h0,h1,h2,h3,h4⟩:=h;exact⟨ms,m',x,s',⟨h0.1,λr hr=>⟨aqo hs.size (h0.2 r hr).1,(h0.2 r hr).2⟩⟩,h1,h2,h3,hs.trans h4⟩
theorem Marks.app{fo:FO}{n m1 m2 s a w w1 w2 ms Ni k}(h:Marks k w w1 ms)(g:G (fo.mark ms) n m1 s a w1)(st:Step w1 (own m1) w2 (own m2))(hs:w.heap.size<=w1.heap.size)(h':Marks k w1 w2 Ni):Marks k w w2 (Ni++ms):=by
 refine⟨⟨ary.2 ⟨h'.1.1,h.1.1,?_⟩,λe=>by rw[h.1.2 e,h'.1.2 e];rfl⟩,λr hr=>?_⟩
 ·rintro r tz _ hr rfl;have:=(ap6.1 (h.2 r hr).2).1;have:=(h'.2 r tz).1;omega
 ·rcases ap9.1 hr with hr|hr
  ·exact⟨aqo hs (h'.2 r hr).1,(h'.2 r hr).2⟩
  ·refine⟨(h.2 r hr).1,?_⟩;rw[st.block r (ap6.1 (h.2 r hr).2).1 ?_]
   ·exact(h.2 r hr).2
   ·rintro⟨i,x,hx,hb⟩;exact g.inv.others i x r hx hb (.inr hr)
theorem fX.marked{fo}{n}{m m1}{s}{a}{w w1}{ms}{Q}(hm:Marks fo.nm w w1 ms)(g:G (fo.mark ms) n m1 s a w1)(hs:Step w (own m) w1 (own m1)){e}{a'}{w'}
  (h:fX (fo.mark ms) n m1 w1 Q e a' w'):fX fo n m w Q e a' w':=by
 obtain⟨Ni,m',x,s',h0,h1,h2,h3,h4⟩:=h;rw[FO.KQ]at h2 h3;exact⟨Ni++ms,m',x,s',hm.app g h4 hs.size h0,h1,h2,h3,hs.trans h4⟩
section
variable {P : Program} {n : Nat} {s : St} {Q : AX -> St -> Prop}
theorem aw.mono{c Q'}(h:aw P n c s Q)(hq:∀x s,Q x s->Q' x s):aw P n c s Q':=
 λfo m a w hr g=>Code.wpIn_mono (λ_ _ _=>fX.mono hq) (h fo m a w hr g)
def Wk(n:Nat)(s s':St):Prop:=∀fo m a w,G fo n m s a w->∃m',G fo n m' s' a w/\Step w (own m) w (own m')
theorem Wk.refl n s:Wk n s s:=λ_ m _ w g=>⟨m,g,Step.refl w _⟩
theorem Wk.trans{s1 s2 s3}(h:Wk n s1 s2)(k:Wk n s2 s3):Wk n s1 s3:=λfo m a w g=>
 let ⟨m1,g1,t1⟩:=h fo m a w g
 let ⟨m2,g2,t2⟩:=k fo m1 a w g1
 ⟨m2,g2,t1.trans t2⟩
theorem aw.weaken{c s'}(h:Wk n s s')(k:aw P n c s' Q):aw P n c s Q:=λfo m a w hr g=>by
 obtain⟨m',g',hs⟩:=h fo m a w g;exact Code.wpIn_mono (λ_ _ _=>fX.step hs) (k fo m' a w hr g')
theorem G.T7{fo m a w}(g:G fo n m s a w) x e(hx:bF w (OO fo m) m e x)(h:Q x s):fX fo n m w Q e a w:=
 .of m x s h g hx (Step.refl w _)
theorem aw.skip(h:Q .normal s):aw P n .skip s Q:=λ_ _ _ _ _ g=>wpIn_skip (g.T7 .normal .normal trivial h)
theorem aw.exit{i}(h:Q (.exit i) s):aw P n (.exit i) s Q:=λ_ _ _ _ _ g=>wpIn_exit (g.T7 (.exit i) (.exit i) rfl h)
theorem aw.ret(h:Q .ret s):aw P n .ret s Q:=λ_ _ _ _ _ g=>wpIn_ret (g.T7 .ret .ret trivial h)
def AX.then(next:St->Prop)(Q:AX->St->Prop):AX->St->Prop
 | .normal,s=>next s
 | x,s=>Q x s
theorem aw.seq{x y}(h:aw P n x s (AX.then (λs'=>aw P n y s' Q) Q)):aw P n (.seq x y) s Q:=λfo m a w hr g=>by
 refine wpIn_seq (Code.wpIn_mono (λe a1 w1 hp=>?_) (h fo m a w (λe=>hr (by simp[gi,e])) g));obtain⟨ms,m1,x1,s1,hm,hq,g1,hx,hs⟩:=hp;cases e with
 | normal=>
   cases x1<;>simp[bF]at hx
   exact Code.wpIn_mono (λ_ _ _=>fX.marked hm g1 hs) (hq (fo.mark ms) m1 a1 w1 (λe=>hr (by simp[gi,e])) g1)
 | exit i=>cases x1<;>simp[bF]at hx;exact⟨ms,m1,_,s1,hm,hq,g1,hx,hs⟩
 | goto i=>cases x1<;>simp[bF]at hx;exact⟨ms,m1,_,s1,hm,hq,g1,hx,hs⟩
 | ret=>cases x1<;>simp[bF]at hx;exact⟨ms,m1,_,s1,hm,hq,g1,hx,hs⟩
 | panic ch=>cases x1<;>simp[bF]at hx;exact⟨ms,m1,_,s1,hm,hq,g1,hx,hs⟩
 | outgrown=>simp_all[bF]
theorem az.p6{w O m x v}(h:az w O m x (.d (.v v))):x=v:=by
 cases h with
 | d _ _ h=>cases h with
   | v _ _=>rfl
theorem KR{α:Type}{l:List (Nat×α)}{i x}(h:l.lookup i=some x):(i,x)∈l:=by
 induction l with
 | nil=>cases h
 | cons p l ih=>
   grind
theorem Nj{w}{O}{m}(h:sb w O) i:az w O m (.pointer (some ⟨i,0,none⟩)) (match yQ.lookup i with
  | some cs=> .rp (cs.map .v)
  | none=> .d (.v (.pointer (some ⟨i,0,none⟩)))):=by
 split
 ·rename_i cs hl;obtain⟨h1,h2,h3,-⟩:=h (i,cs) (KR hl);refine .rp i 0 _ (λj=>cs[j]?.getD undef) h2 h1 (λj hj=>?_) (λj y hy=>?_)
  ·grind
  ·rw[apS]at hy;obtain⟨v,hv,rfl⟩:=apN.1 hy;simp[hv];exact .v _ (h3 j v hv).1
 ·exact .d _ _ (.v _ rfl)
theorem cj{fo m a w}(g:G fo n m s a w) o:az w (OO fo m) m (a.eval o) (s.ev o):=by
 cases o with
 | tmp t=>
   simp[St.ev,St.get];rcases xF with h|h
   ·rw[h];exact .any _
   ·exact(g.fr t _ h).2
 | const v=>
   simp[St.ev];unfold EU;split
   ·rename_i h;exact .d _ _ (.v _ h)
   ·exact .any _
 | global i=>exact Nj g.inv.ef i
 | func f=>exact .eW _ _ _ _ _ rfl rfl (by simp) (by simp)
theorem aw.cond{c x y b}(hc:s.ev c=oD b)(ht:b=true->aw P n x s Q)(hf:b=false->aw P n y s Q):aw P n (.cond c x y) s Q:=λfo m a w hr g=>by
 have he:=cj g c;rw[hc]at he;exact wpIn_cond_split he.p6 (λh=>ht h fo m a w (λe=>hr (by simp[gi,e])) g) (λh=>hf h fo m a w (λe=>hr (by simp[gi,e])) g)
def AX.inBlock(id:Nat)(Q:AX->St->Prop):AX->St->Prop
 | .exit i,s=>if i=id then Q .normal s else Q (.exit i) s
 | x,s=>Q x s
theorem aw.block{id c}(h:aw P n c s (AX.inBlock id Q)):aw P n (.block id c) s Q:=λfo m a w hr g=>by
 refine wpIn_block (Code.wpIn_mono (λe a1 w1 hp=>?_) (h fo m a w hr g));obtain⟨ms,m1,x1,s1,hm,hq,g1,hx,hs⟩:=hp;cases e with
 | exit i=>
   cases x1<;>simp[bF]at hx
   subst hx;simp[Exit.inBlock];simp[AX.inBlock]at hq;split at hq
   ·rename_i h;rw[if_pos h];exact⟨ms,m1,.normal,s1,hm,hq,g1,trivial,hs⟩
   ·rename_i h;rw[if_neg h];exact⟨ms,m1,_,s1,hm,hq,g1,rfl,hs⟩
 | normal=>cases x1<;>simp[bF]at hx;exact⟨ms,m1,_,s1,hm,hq,g1,hx,hs⟩
 | goto i=>cases x1<;>simp[bF]at hx;exact⟨ms,m1,_,s1,hm,hq,g1,hx,hs⟩
 | ret=>cases x1<;>simp[bF]at hx;exact⟨ms,m1,_,s1,hm,hq,g1,hx,hs⟩
 | panic ch=>cases x1<;>simp[bF]at hx;exact⟨ms,m1,_,s1,hm,hq,g1,hx,hs⟩
 | outgrown=>simp_all[bF]
theorem least(p:Nat->Prop)(h:∃k,p k):∃k,p k/\∀j,p j->k<=j:=by
 obtain⟨k,hk⟩:=h
 induction k using Nat.strongRecOn with
 | _ k ih=>
   grind
theorem aw.loop{c}(I:Nat→St→Prop)(h0:∃k,I k s)
  (round:∀k s,I k s->aw P n c s (AX.then (λs'=>∃k',k'<k/\∃s'',Wk n s' s''/\I k' s'') Q)):aw P n (.loop c) s Q:=λfo m a w hr g=>by
 classical
 let J a1 w1 k:=∃ms m1 s1,Marks fo.nm w w1 ms/\I k s1/\G (fo.mark ms) n m1 s1 a1 w1/\Step w (own m) w1 (own m1)
 refine wpIn_loop (λa1 w1=>∃k,J a1 w1 k) (λa1 w1=>if h:∃k,J a1 w1 k then Classical.choose (least _ h)else 0) ?_ ?_
 ·obtain⟨k,hk⟩:=h0;exact⟨k,[],m,s,Marks.nil _ _ _,hk,by simp_all,Step.refl w _⟩
 ·intro a1 w1 hI;rw[dif_pos hI];obtain⟨ms,m1,s1,hm,hi,g1,tA⟩:=(Classical.choose_spec (least _ hI)).1;refine Code.wpIn_mono (λe a2 w2 hp=>?_) (round _ s1 hi (fo.mark ms) m1 a1 w1 hr g1);obtain⟨R7,m2,x2,s2,tB,hq,g2,hx,rM⟩:=fX.marked hm g1 tA hp;cases e with
  | normal=>
    cases x2<;>simp[bF]at hx
    obtain⟨k',ay,s3,hw,hi3⟩:=hq;obtain⟨m3,g3,Xe⟩:=hw (fo.mark R7) m2 a2 w2 g2;have hJ:J a2 w2 k':=⟨R7,m3,s3,tB,hi3,g3,rM.trans Xe⟩
    refine⟨⟨k',hJ⟩,?_⟩;rw[dif_pos ⟨k',hJ⟩];exact Nat.lt_of_le_of_lt ((Classical.choose_spec (least _ ⟨k',hJ⟩)).2 k' hJ) ay
  | exit i=>cases x2<;>simp[bF]at hx;exact⟨R7,m2,_,s2,tB,hq,g2,hx,rM⟩
  | goto i=>cases x2<;>simp[bF]at hx;exact⟨R7,m2,_,s2,tB,hq,g2,hx,rM⟩
  | ret=>cases x2<;>simp[bF]at hx;exact⟨R7,m2,_,s2,tB,hq,g2,hx,rM⟩
  | panic ch=>cases x2<;>simp[bF]at hx;exact⟨R7,m2,_,s2,tB,hq,g2,hx,rM⟩
  | outgrown=>simp_all[bF]
end
inductive AE where
 | ret (x:V)
 | iC (x:V)
def Ends(w:World)(O:Nat->Prop)(m:Nat->Option Value):Ending->AE->Prop
 | .returned v,.ret x=>az w O m v x
 | .panicked chain,.iC x=>Bd w O m chain x
 | _,_=>False
def mK(fo:FO)(m:Nat->Option Value)(w:World)(R:AE->aH->Prop)(e:Ending)(w':World):Prop:=
 ∃m' r L',R r L'/\Ends w' (OO fo m') m' e r/\Inv fo m' L' w'/\Step w (own m) w' (own m')
def iA(w:World)(O:Nat->Prop)(m:Nat->Option Value)(xs:Array Value)(ys:List V):Prop:=
 xs.size=ys.length/\∀(j:Nat) (x:Value) (y:V),xs[j]?=some x->ys[j]?=some y->az w O m x y
def aE(P:Program)(f:FuncId)(args:List V)(L:aH)(R:AE->aH->Prop):Prop:=
 ∀fo m w (xs:Array Value),Inv fo m L w->iA w (OO fo m) m xs args->Calls P f xs w (mK fo m w R)
theorem aE.mono{P f args L R R'}(h:aE P f args L R)(hr:∀r L,R r L->R' r L):aE P f args L R':=
 λfo m w xs hi hx=>(h fo m w xs hi hx).mono λ_ _ ⟨m',r,L',h1,h2⟩=>⟨m',r,L',hr _ _ h1,h2⟩
def eH(k:Nat):List V->List (Nat×V)
 | []=> []
 | x::l=>(k,x)::eH (k+1) l
theorem p7{t x}:∀{l k},(t,x)∈eH k l->k<=t/\l[t-k]?=some x/\t<k+l.length
 | [],_,h=>by cases h
 | y::l,k,h=>by
   simp[eH]at h;rcases h with⟨rfl,rfl⟩|h
   ·simp
   ·obtain⟨h1,h2,h3⟩:=p7 h;grind
def afl:TypeDesc->Bool
 | .struct _|.array _ _=>true
 | _=>false
def gz(P:Program)(t:TypeId):Option (Bool×Nat):=
 match P.underlying t,P.info? t with
 | some d,some i=>some (afl d,i.size)
 | _,_=>none
def bZ(P:Program)(t:TypeId)(f:Nat):Option (Nat×Bool×Nat):=
 match P.underlying t with
 | some (.struct fs)=>match fs[f]? with
   | some fl=>match gz P fl.type with
     | some (g,k)=>if k=0 then none else some (fl.offset,g,k)
     | none=>none
   | none=>none
 | _=>none
def nJ(P:Program)(t:TypeId):Option (TypeId×Nat):=
 match P.underlying t with
 | some (.slice e)=>(P.info? e).map λi=>(e,i.size)
 | _=>none
def EV(P:Program)(t:TypeId):Option (Nat×Bool×Nat):=
 match P.underlying t with
 | some (.array n e)=>(gz P e).map λp=>(n,p.1,p.2)
 | _=>none
def tC(P:Program)(t:TypeId):Bool:=
 match P.underlying t with
 | some .string=>true
 | _=>false
def tD(P:Program)(t:TypeId):Option IntKind:=
 match P.underlying t with
 | some (.int k)=>some k
 | _=>none
section
variable {P : Program} {w : World}
theorem p8{t g k}(h:gz P t=some (g,k)) w:(isAgg t).run P w= .ok g w/\(sizeOf t).run P w= .ok k w:=by
 unfold gz at h;split at h
 ·rename_i d i hd hi;cases h;constructor
  ·simp[isAgg,run_underlying hd];cases d<;>rfl
  ·simp[sizeOf,typeInfo,hi]
 grind
theorem ou{t e k}(h:nJ P t=some (e,k)) w:(underlying t).run P w= .ok (.slice e) w/\(sizeOf e).run P w= .ok k w:=by
 unfold nJ at h;split at h
 ·rename_i e' he;obtain⟨i,hi,hx⟩:=apN.1 h;cases hx;exact⟨run_underlying he w,by simp[sizeOf,typeInfo,hi]⟩
 grind
theorem Bf{t n k g}(h:EV P t=some (n,g,k)) w:∃e,(underlying t).run P w= .ok (.array n e) w/\(isAgg e).run P w= .ok g w/\(sizeOf e).run P w= .ok k w:=by
 unfold EV at h;split at h
 ·obtain⟨i,hi,hx⟩:=apN.1 h;grind[run_underlying,p8]
 grind
theorem Nk{t}{f o k}{g}(h:bZ P t f=some (o,g,k)) w:
  ∃fs fl,(underlying t).run P w= .ok (.struct fs) w/\fs[f]?=some fl/\fl.offset=o/\(isAgg fl.type).run P w= .ok g w/\(sizeOf fl.type).run P w= .ok k w/\k≠0:=by
 unfold bZ at h;split at h
 ·rename_i fs FI;split at h
  ·rename_i fl mL;split at h
   ·rename_i g' k' ha;split at h
    ·cases h
    ·rename_i hk;cases h;exact⟨fs,fl,run_underlying FI w,mL,rfl,(p8 ha w).1,(p8 ha w).2,hk⟩
   grind
  grind
 grind
theorem xG{t}{k}(h:gz P t=some (true,k)){b off}{f}(hc:∀j,j < k→w.cell? ⟨b,off+j,none⟩=some (f j)):
  (Instr.loadAt t (.pointer (some ⟨b,off,none⟩))).run P w= .ok (.agg ((List.range k).map f).toArray) w:=by
 obtain⟨h1,h2⟩:=p8 h w;simp_all[run_loadCells,Addr.add_lit,Instr.loadAt,Instr.sureAddr,loadVar]
theorem xH{t}{k}(h:gz P t=some (false,k)){b off}{v}(hc:w.cell? ⟨b,off,none⟩=some v):
  (Instr.loadAt t (.pointer (some ⟨b,off,none⟩))).run P w= .ok v w:=by
 obtain⟨h1,h2⟩:=p8 h w;simp_all[Instr.loadAt,Instr.sureAddr,loadVar]
theorem xI{t}{f o k}{g}(h:bZ P t f=some (o,g,k)){b off}:
  (Instr.fieldAt t (.pointer (some ⟨b,off,none⟩)) f).run P w= .ok (.pointer (some ⟨b,off+o,none⟩)) w:=by
 obtain⟨fs,fl,h1,h2,h3,h4,h5,h6⟩:=Nk h w;simp_all[Instr.fieldAt,Instr.sureAddr,fieldPlace,Addr.add_lit]
end
theorem eX.oT{w}{O}{x}{xs}(h:eX w O x (.sl xs)):
  ∃(a:Option Addr) (cap:Nat),x= .slice a xs.length cap/\xs.length<=cap/\cap<=maxLen/\∃(k b off:Nat) (f:Nat->Nat->Value),(0<xs.length->a=some ⟨b,off,none⟩/\¬O b/\b<w.heap.size)/\(∀(i:Nat) x,xs[i]?=some x->x.length=k)/\
   (∀i j,i<xs.length->j<k->w.cell? ⟨b,off+i *k+j,none⟩=some (f i j))/\(∀i j x y,xs[i]?=some x->x[j]?=some y->eX w O (f i j) y):=by
 cases h with
 | sl a n cap _ k b off f hn lN pA ha hk hc hr=>subst hn;exact⟨a,cap,rfl,lN,pA,k,b,off,f,ha,hk,hc,hr⟩
theorem az.lg{w O m x y}(h:az w O m x (.d y)):eX w O x y:=by
 cases h with
 | d _ _ h=>exact h
theorem az.cq{w O m x v}(h:az w O m x (.d (.v v))):x=v:=h.p6
theorem adE{w}{O}{m}{x}{xs}(h:eX w O x (.sl xs)){i}(hi:i < xs.length):
  ∃b off k cap,x= .slice (some ⟨b,off,none⟩) xs.length cap/\(∀y∈xs,y.length=k)/\az w O m (.pointer (some ⟨b,off+i *k,none⟩)) (.rp (xs[i]?.getD [])):=by
 obtain⟨a,cap,rfl,lN,pA,k,b,off,f,ha,hk,hc,hr⟩:=h.oT;obtain⟨rfl,hO,ay⟩:=ha (by omega);have ke:=anc hi;refine⟨b,off,k,cap,rfl,?_,?_⟩
 ·intro y hy;obtain⟨j,hj,rfl⟩:=arp hy;exact hk j _ (anc hj)
 ·rw[ke];refine .rp b (off+i *k) _ (f i) hO ay (λj hj=>?_) (λj y hy=>hr i j _ y ke hy);grind
def aN(k:IntKind)(n:Int):Prop:=k.min<=n/\n<=k.max
def kz(b:Bool):V:=oD b
def jE(k:IntKind)(n:Int):V:= .d (.v (.int k n))
def Nn(s:ByteArray):V:= .d (.v (.string s))
def V.un:V->V
 | .gd _ x=>x
 | x=>x
def V.CC:V->Prop
 | .gd g _=>g=true
 | _=>True
def wG(t:Bool)(a b:V):Option (V×Prop):=
 match t with
 | true=>some (a.un,a.CC)
 | false=>some (b.un,b.CC)
theorem T8{a b}:wG true a b=some (a.un,a.CC):=rfl
theorem QK{a b}:wG false a b=some (b.un,b.CC):=rfl
theorem aaw{t p q}:wG t (oD p) (oD q)=some (oD (if t then p else q),True):=by cases t<;>rfl
theorem aax{t g p q}:wG t (.gd g (oD p)) (oD q)=some (oD (if t then p else q),t=true->g=true):=by grind[wG,V.un,V.CC]
theorem aay{t g p q}:wG t (oD p) (.gd g (oD q))=some (oD (if t then p else q),t=false->g=true):=by grind[wG,V.un,V.CC]
def je(P:Program)(t:TypeId):List D:=(((P.info? t).bind (·.zero)).map λz=>z.cells.toList.map λx=>(D.v x).nn).getD []
def cellAt(xs:List (List V))(i j:Nat)(z:List V):V:=match xs[i]? with
 | some r=>r[j]?.getD .any
 | none=>z.headD .any
def Ua(xs:List (List V))(i j k:Nat)(z:List V):List V:=match xs[i]? with
 | some r=>(r.drop j).take k
 | none=>z
theorem Xf{xs i j z} h:cellAt xs i j z=xs[i][j]?.getD .any:=by simp[cellAt,anc h]
theorem Np{xs i j k z} h:Ua xs i j k z=(xs[i].drop j).take k:=by simp[Ua,anc h]
def EW(P:Program)(L:aH)(t:TypeId)(x:V):Option (V×Prop):=
 match gz P t with
 | none=>none
 | some (g,k)=>
   match x with
   | .bp h off=>match L.lookup h with
     | some (.box _ _ cs)=>if g then some (.agg ((cs.drop off).take k),off+k<=cs.length)else some (cs[off]?.getD .any,off<cs.length)
     | _=>none
   | .rp cs=>if g then some (.agg ((cs.take k).map .d),k<=cs.length)else some (.d (cs[0]?.getD default),0<cs.length)
   | .ep h k' i j=>match L.lookup h with
     | some (.row _ HN xs)=>if g then some (.agg (Ua xs i j k ((je P t).map .d)),i<xs.length/\j+k<=k'/\k'=HN)else some (cellAt xs i j ((je P t).map .d),i<xs.length/\j<k'/\k'=HN)
     | _=>none
   | _=>none
def wH(P:Program)(t:TypeId)(f:Nat)(x:V):Option (V×Prop):=
 match bZ P t f with
 | none=>none
 | some (o,_,_)=>
   match x with
   | .bp h off=>some (.bp h (off+o),True)
   | .rp cs=>some (.rp (cs.drop o),True)
   | .ep h k i j=>some (.ep h k i (j+o),True)
   | _=>none
def HO(P:Program)(t:TypeId)(f:Nat)(x:V):Option (V×Prop):=
 match bZ P t f with
 | none=>none
 | some (o,g,k)=>
   match x with
   | .agg cs=>if g then some (.agg ((cs.drop o).take k),o+k<=cs.length)else some (cs[o]?.getD .any,o<cs.length)
   | _=>none
def wI(P:Program)(L:aH)(t:TypeId)(x i:V):Option (V×Prop):=
 match i with
 | .d (.v (.int _ n))=>
   match nJ P t,x with
   | some (e,k),.d (.sl xs)=>some (.rp (xs[n.toNat]?.getD (je P e)),(0<=n/\n.toNat<xs.length)/\(xs[n.toNat]?.getD (je P e)).length=k)
   | some (_,k),.rv h=>match L.lookup h with
     | some (.row _ k' xs)=>some (.ep h k n.toNat 0,(0<=n/\n.toNat<xs.length)/\k=k')
     | _=>none
   | some (_,k),.sv h l=>some (.bp h (n.toNat *k),0<=n/\n.toNat<l)
   | _,x=>match EV P t,x with
     | some (len,_,k),.bp h off=>some (.bp h (off+n.toNat *k),0<=n/\n<len)
     | some (len,_,k),.rp cs=>some (.rp (cs.drop (n.toNat *k)),0<=n/\n<len)
     | _,_=>none
 | _=>none
def HP(P:Program)(t:TypeId)(x i:V):Option (V×Prop):=
 match i with
 | .d (.v (.int _ n))=>
   match x with
   | .d (.v (.string s))=>if tC P t then some (jE .u8 ((s.data.toList[n.toNat]?.getD 0).toNat:Nat),0<=n/\n.toNat<s.size)else none
   | .agg cs=>match EV P t with
     | some (len,false,1)=>some (cs[n.toNat]?.getD .any,(0<=n/\n<len)/\cs.length=len)
     | _=>none
   | _=>none
 | _=>none
def Ub(op:BinOp)(x y:V):Option (V×Prop):=
 match x,y with
 | .d (.v (.int k a)),.d (.v (.int k' b))=>
   match op with
   | .shl=>some (jE k (k.wrap (a *2^(min b.toNat k.bits))),0<=b)
   | .shr=>some (jE k (a.fdiv (2^(min b.toNat k.bits))),0<=b)
   | .add=>if k=k' then(if k= .i64 then some (jE .i64 (a+b),aN .i64 (a+b))else some (jE k (k.wrap (a+b)),True))else none
   | .sub=>if k=k' then(if k= .i64 then some (jE .i64 (a-b),aN .i64 (a-b))else some (jE k (k.wrap (a-b)),True))else none
   | .mul=>if k=k' then(if k= .i64 then some (jE .i64 (a *b),aN .i64 (a *b))else some (jE k (k.wrap (a *b)),True))else none
   | .quo=>if k=k' then some (jE k (k.wrap (a.tdiv b)),b≠0)else none
   | .rem=>if k=k' then some (jE k (a.tmod b),b≠0)else none
   | .and=>if k=k' then some (jE k (k.wrap ((BitVec.ofInt k.bits a) &&& (BitVec.ofInt k.bits b)).toNat),True)else none
   | .or=>if k=k' then some (jE k (k.wrap ((BitVec.ofInt k.bits a) ||| (BitVec.ofInt k.bits b)).toNat),True)else none
   | .xor=>if k=k' then some (jE k (k.wrap ((BitVec.ofInt k.bits a) ^^^ (BitVec.ofInt k.bits b)).toNat),True)else none
   | .andNot=>if k=k' then some (jE k (k.wrap ((BitVec.ofInt k.bits a) &&& ~~~(BitVec.ofInt k.bits b)).toNat),True)else none
   | .eql=>if k=k' then some (kz (a==b),True)else none
   | .neq=>if k=k' then some (kz (a !=b),True)else none
   | .lss=>if k=k' then some (kz (decide (a<b)),True)else none
   | .leq=>if k=k' then some (kz (decide (a<=b)),True)else none
   | .gtr=>if k=k' then some (kz (decide (a > b)),True)else none
   | .geq=>if k=k' then some (kz (decide (a>=b)),True)else none
 | .d (.v (.string a)),.d (.v (.string b))=>
   match op with
   | .add=>some (Nn (a++b),((a.size+b.size:Nat):Int)<=IntKind.i64.max)
   | .eql=>some (kz (a.toList==b.toList),True)
   | .neq=>some (kz (!(a.toList==b.toList)),True)
   | _=>none
 | _,_=>none
def unV(op:UnOp)(x:V):Option (V×Prop):=
 match op,x with
 | .not,oD b=>some (kz (!b),True)
 | .neg,.d (.v (.int k n))=>if k= .i64 then some (jE .i64 (-n),aN .i64 (-n))else some (jE k (k.wrap (0-n)),True)
 | _,_=>none
def Uc(P:Program)(L:aH)(t:TypeId)(x:V):Option (V×Prop):=
 match x with
 | .d (.v (.string s))=>if tC P t then some (jE .i64 (s.size:Nat),True)else none
 | .d (.sl xs)=>if(nJ P t).isSome then some (jE .i64 (xs.length:Nat),True)else none
 | .d (.v (.slice _ n _))=>if(nJ P t).isSome then some (jE .i64 (n:Nat),True)else none
 | .rv h=>match L.lookup h with
   | some (.row _ _ xs)=>if(nJ P t).isSome then some (jE .i64 (xs.length:Nat),True)else none
   | _=>none
 | .sv _ l=>if(nJ P t).isSome then some (jE .i64 (l:Nat),True)else none
 | _=>none
def MV(P:Program)(src dst:TypeId)(x:V):Option (V×Prop):=
 match x,tD P dst with
 | .d (.v (.int k n)),some k'=>if(tD P src).isSome then(if k=k' then some (jE k' n,aN k' n)else some (jE k' (k'.wrap n),True))else none
 | .d (.v (.string s)),none=>if tC P src&&tC P dst then some (Nn s,True)else none
 | _,_=>none
def GD(x:V)(i:Nat):Option (V×Prop):=
 match x with
 | .bM vs=>some (vs[i]?.getD .any,i<vs.length)
 | _=>none
def C0(x:V):Option (V×Prop):=
 match x with
 | .bp h off=>some (.bp h off,True)
 | .rp cs=>some (.rp cs,True)
 | .ep h k i j=>some (.ep h k i j,True)
 | _=>none
def Ud(P:Program)(ρ:Operand->V)(L:aH)(c:Call):Option (V×Prop):=
 match c.callee,c.args.toList,c.argTypes.toList with
 | .builtin .len,[x],[t]=>Uc P L t (ρ x)
 | _,_,_=>none
def tyM(P:Program)(t:TypeId):Option (TypeDesc×TypeId):=
 match P.underlying t with
 | some (.map k e)=>(P.underlying k).map λd=>(d,e)
 | _=>none
def afm(P:Program)(t:TypeId):Option V:=((P.info? t).bind (·.zero)).bind λz=>match z with
 | .agg vs=>if vs.all (·.oneCell')then some (.agg (vs.toList.map λx=> .d (D.v x).nn))else none
 | z=>if z.oneCell' then some (.d (D.v z).nn)else none
def mH:TypeDesc->Value->Bool
 | .bool,.bool _=>true
 | .int k,.int k' _=>k'==k
 | .string,.string _=>true
 | _,_=>false
def sd:Value->Value->Bool
 | .bool a,.bool b=>a==b
 | .int j a,.int k b=>j==k&&a==b
 | .string a,.string b=>a==b
 | _,_=>false
def yT:List ME->Value->Option V
 | [],_=>none
 | e::es,k=>if sd e.1 k then some e.val else yT es k
def JG(d:TypeDesc)(es:List ME):Bool:=es.all λe=>mH d e.1
@[simp] theorem ag5 d:JG d []=true:=rfl
def Ao(ok:Bool)(v:V)(b:Bool):V:=if ok then .bM [v,kz b]else v
def EX(P:Program)(L:aH)(t:TypeId)(x i:V)(ok:Bool):Option (V×Prop):=
 match tyM P t,x,i with
 | some (d,e),.rv h,.d (.v k)=>match L.lookup h,afm P e with
   | some (.mp es),some z=>some (Ao ok ((yT es k).getD z) (yT es k).isSome,mH d k=true/\JG d es=true)
   | _,_=>none
 | _,_,_=>none
def q1(P:Program)(ρ:Operand->V)(L:aH)(o:Oper):Option (V×Prop):=
 match o.op with
 | .move x=>some (ρ x,True)
 | .assign x=>some (ρ x,True)
 | .pick c a b=>match ρ c with
   | oD t=>wG t (ρ a) (ρ b)
   | _=>none
 | .load t a=>EW P L t (ρ a)
 | .fieldAddr t a f=>wH P t f (ρ a)
 | .field t a f=>HO P t f (ρ a)
 | .indexAddr t x i=>wI P L t (ρ x) (ρ i)
 | .index t x i=>HP P t (ρ x) (ρ i)
 | .binOp op _ x y _=>Ub op (ρ x) (ρ y)
 | .unOp op _ x=>unV op (ρ x)
 | .convert src dst x=>MV P src dst (ρ x)
 | .extract x i=>GD (ρ x) i
 | .nilCheck x=>C0 (ρ x)
 | .makeFunc fn first eh=>some (.eW fn (first.toList.map ρ) (eh.toList.map ρ),True)
 | .lookup t x i ok=>EX P L t (ρ x) (ρ i) ok
 | .call c=>Ud P ρ L c
 | _=>none
section
variable {P : Program} {w : World} {O : Nat -> Prop} {m : Nat -> Option Value}
theorem tE{d k}(h:mH d k=true):MapKept.IsKey d k:=by
 cases d<;>cases k<;>simp_all[mH,MapKept.IsKey]
theorem p9{d a b}(ha:mH d a=true)(hb:mH d b=true):sd a b=true↔a=b:=by
 cases d<;>cases a<;>cases b<;>simp_all[mH,sd,MapKept.bytes_beq]
theorem Nq{t e d}(h:tyM P t=some (d,e)) w:∃k,(underlying t).run P w= .ok (.map k e) w/\P.underlying k=some d:=by
 unfold tyM at h;split at h
 ·rename_i k e' he;obtain⟨d',hd,hx⟩:=apN.1 h;cases hx;exact⟨k,run_underlying he w,hd⟩
 grind
theorem Xg{x}(h:x.oneCell'=true):eX w O x (D.v x).nn:=by
 unfold D.nn;split
 ·rename_i heq;cases heq;exact .sl none 0 0 [] 0 0 0 (λ_ _=>undef) rfl (by omega) (by simp) (by omega) (by simp) (by omega) (by simp)
 ·exact .v x h
theorem Xh{t z}(h:afm P t=some z) w:∃v,(zeroValue t).run P w= .ok v w/\∀O m,az w O m v z:=by
 obtain⟨v,hv,h2⟩:=aqA.1 h;obtain⟨i,hi,hz⟩:=aqA.1 hv;refine⟨v,by simp_all[zeroValue,typeInfo],λO m=>?_⟩;split at h2
 ·rename_i vs;split at h2
  ·rename_i bQ;simp at h2;subst h2;rw[Array.all_eq_true']at bQ;refine .agg vs _ (by simp) (λj x hx=>bQ x (aq3 hx)) ?_;intro j x y hx hy;rw[apS,aqn,hx]at hy;simp at hy;subst hy;exact .d _ _ (Xg (bQ x (aq3 hx)))
  grind
 ·split at h2
  ·rename_i h1;simp at h2;subst h2;exact .d _ _ (Xg h1)
  grind
theorem Bg{d}{k}(hk:mH d k=true):∀es l,l.length=es.length→es.all (fun e=>mH d e.1)=true→
  (∀(i:Nat) a e,l[i]?=some a->es[i]?=some e->a.key=e.1/\az w O (λ_=>none) a.val e.val)->∀i,
  (Instr.findNow d k l i=some none/\yT es k=none/\∀e∈es,sd e.1 k=false)\/∃j v y a e,Instr.findNow d k l i=some (some (i+j,v))/\yT es k=some y/\az w O (λ_=>none) v y/\l[j]?=some a/\es[j]?=some e/\a.key=k/\e.1=k
 | [],[],_,_,_,i=> .inl ⟨rfl,rfl,by simp⟩
 | [],_::_,h,_,_,_=>by grind
 | _::_,[],h,_,_,_=>by grind
 | e::es,a::l,hl,hf,hr,i=>by
   simp only[ase,apP]at hf;obtain⟨h1,h2⟩:=hr 0 a e rfl rfl;obtain⟨r,hs,ai8⟩:=MapKept.sameNow_of_keys (tE hk) (tE (h1 ▸ hf.1:mH d a.key=true));by_cases hek:e.1=k
   ·have nK:r=true:=ai8.2 (by grind);subst nK;exact .inr ⟨0,a.val,e.val,a,e,by simp[Instr.findNow,hs],by grind[yT,p9],h2,rfl,rfl,by grind,hek⟩
   ·have nK:r=false:=by
     grind
    have bU:sd e.1 k=false:=by
     grind[sd,p9]
    rcases Bg hk es l (by grind) hf.2 (λi a e ha he=>hr (i+1) a e (by grind) (by grind)) (i+1)with⟨q1,q2,q3⟩|⟨j,v,y,a',e',q1,q2,q3,q4,q5,q6⟩
    ·grind[Instr.findNow,q1,yT]
    ·exact .inr ⟨j+1,v,y,a',e',by grind[Instr.findNow,q1],by simp_all[yT],q3,by grind,by grind,q6⟩
theorem MG{fo}{L}{t}{x i}{ok}{y}{c}(h:EX P L t x i ok=some (y,c))(hc:c)(hi:Inv fo m L w){vx vi}(hx:az w (OO fo m) m vx x)(hv:az w (OO fo m) m vi i):
  ∃v,(Instr.lookup t vx vi ok).run P w= .ok v w/\az w (OO fo m) m v y:=by
 unfold EX at h;split at h
 ·rename_i d e hh k htm;split at h
  ·rename_i es z hl hz;cases h;obtain rfl:=hv.cq;have gA:∀{L:aH},L.lookup hh=some (.mp es)->(hh,aV.mp es)∈L:=by
    intro L
    induction L with
    | nil=>simp
    | cons p L ih=>
      grind
   obtain⟨u,hu,r,arr,clock,rfl,hb,hs,kg,GF⟩:=hi.holds hh _ (gA hl);have hxu:vx= .map (some r):=by
    cases hx with
    | rv _ _ e _=>grind
   subst hxu;obtain⟨kt,nu,tF⟩:=Nq htm w;obtain⟨vz,Nr,uv⟩:=Xh hz w;have KS:=MapKept.run_checkKey (P:=P) (w:=w) tF (tE hc.1) arr.isEmpty 9999;have ac2:∀{v:Value} {y:V},az w (OO fo m) (λ_=>none) v y->az w (OO fo m) m v y:=λh=>h.mono (bK.refl w _) (λ_ _ h=>h) (λ_ _ e=>by cases e)
   have fin:∀{v:Value} {y:V} {b:Bool},az w (OO fo m) m v y->az w (OO fo m) m (if ok then .tuple #[v,.bool b]else v) (Ao ok y b):=by
    intro v y b hr;cases ok with
    | false=>simp_all[Ao]
    | true=>
      simp only[Ao,if_true];refine .bM _ _ rfl ?_;intro j x y' hx hy
      match j with
      | 0=>grind
      | 1=>simp only [aqP,aqk,akC]at hy;subst hy
           have:Value.bool b=x:=by grind
           subst this;exact .d _ _ (.v _ rfl)
      | j+2=>grind
   rcases Bg (w:=w) (O:=OO fo m) hc.1 es arr.toList (by omega) hc.2 (λi a e ha he=>GF i a e (by grind) he) 0 with⟨q1,q2,q3⟩|⟨j,v,y,a',e',q1,q2,q3,-⟩
   ·have hf:=MapKept.run_findKey (P:=P) (w:=w) tF q1;refine⟨_,?_,by rw[q2];exact fin (uv _ _)⟩;simp[Instr.lookup,nu,MapKept.run_getObj_map hb,KS,hf,Nr,Result.andThen,Sem.run_bind]
   ·have hf:=MapKept.run_findKey (P:=P) (w:=w) tF q1;refine⟨_,?_,by rw[q2];exact fin (ac2 q3)⟩;simp[Instr.lookup,nu,MapKept.run_getObj_map hb,KS,hf,Result.andThen,Sem.run_bind]
  grind
 grind
end
def Xi(P:Program)(o:Oper)(dm:Operand->V)(L:aH)(x:V):Prop:=
 ∀fo m (ρ:Operand->Value) w,Inv fo m L w->(∀z,z∈o.op.operands->az w (OO fo m) m (ρ z) (dm z))->
  ∃v,(execOp ρ o).run P w= .ok (.value v) w/\az w (OO fo m) m v x
section
variable {P : Program} {w : World} {fo : FO} {m : Nat -> Option Value} {L : aH}
theorem dD{α:Type}{h r}:∀{L:List (Nat×α)},L.lookup h=some r->(h,r)∈L
 | [],e=>by grind
 | (k,y)::l,e=>by
   rw[List.lookup_cons]at e;by_cases hk:h=k
   ·subst hk;simp at e;subst e;exact ap7
   ·have:(h==k)=false:=by simpa using hk
    rw[this]at e;exact ap2 _ (dD e)
theorem nL b:az w (OO fo m) m (.bool b) (kz b):= .d _ _ (.v _ rfl)
theorem lh k n:az w (OO fo m) m (.int k n) (jE k n):= .d _ _ (.v _ rfl)
theorem Ue s:az w (OO fo m) m (.string s) (Nn s):= .d _ _ (.v _ rfl)
theorem afn{x g y}(h:az w (OO fo m) m x (.gd g y))(hg:g=true):az w (OO fo m) m x y:=by
 subst hg;cases h with
 | gt _ _ h=>exact h
theorem vn{O v x}(h:az w O m v x)(hc:x.CC):az w O m v x.un:=by
 cases x with
 | gd g y=>
   subst hc;cases h with
   | gt _ _ h=>exact h
 | _=>exact h
theorem QL{t}{a b}{x}{c}(h:wG t a b=some (x,c))(hc:c){va vb}(ha:az w (OO fo m) m va a)(hb:az w (OO fo m) m vb b):
  az w (OO fo m) m (if t then va else vb) x:=by
 cases t with
 | true=>
   cases h;grind[vn]
 | false=>
   cases h;grind[vn]
theorem xJ{x h off}(hr:az w (OO fo m) m x (.bp h off)):∃b,m h=some (.pointer (some ⟨b,0,none⟩))/\x= .pointer (some ⟨b,off,none⟩):=by
 cases hr with
 | bp _ _ b e=>grind
theorem C1{x}{cs}(hr:az w (OO fo m) m x (.rp cs)):∃(b off:Nat) (f:Nat→Value),x= .pointer (some ⟨b,off,none⟩)∧¬(OO fo m) b∧b < w.heap.size∧
  (∀j,j<cs.length->w.cell? ⟨b,off+j,none⟩=some (f j))/\∀j y,cs[j]?=some y->eX w (OO fo m) (f j) y:=by
 cases hr with
 | rp b off _ f hb ay hc hr=>exact⟨b,off,f,rfl,hb,ay,hc,hr⟩
theorem Xj{x h n}(hr:az w (OO fo m) m x (.sv h n)):∃b cap,x= .slice (some ⟨b,0,none⟩) n cap/\m h=some (.pointer (some ⟨b,0,none⟩))/\n<=cap/\cap<=maxLen:=by
 cases hr with
 | sv _ _ b cap e hc hx=>grind
theorem C2{x h k i j}(hr:az w (OO fo m) m x (.ep h k i j)):∃b o n c,m h=some (.slice (some ⟨b,o,none⟩) n c)/\x= .pointer (some ⟨b,o+i *k+j,none⟩):=by
 cases hr with
 | ep _ _ _ _ b o n c e=>grind
theorem C3{x h}(hr:az w (OO fo m) m x (.rv h)):m h=some x:=by
 cases hr with
 | rv _ _ e _=>exact e
theorem R8{x}{cs}(hr:az w (OO fo m) m x (.agg cs)):∃vs:Array Value,x= .agg vs∧vs.size=cs.length∧(∀(j:Nat) x,vs[j]?=some x→x.oneCell'=true)∧
  ∀(j:Nat) x y,vs[j]?=some x->cs[j]?=some y->az w (OO fo m) m x y:=by
 cases hr with
 | agg vs _ hs h1 h=>grind
theorem adF{x}{cs}(hr:az w (OO fo m) m x (.bM cs)):∃vs:Array Value,x= .tuple vs∧vs.size=cs.length∧
  ∀(j:Nat) x y,vs[j]?=some x->cs[j]?=some y->az w (OO fo m) m x y:=by
 cases hr with
 | bM vs _ hs h=>grind
theorem KT(hi:Inv fo m L w){h b}{ty}{cs}(hl:(h,aV.box b ty cs)∈L):
  ∃bb,(b=0\/b=bb+1)/\m h=some (.pointer (some ⟨bb,0,none⟩))/\∃cur:Array Value,w.heap[bb]?=some (.cells cur ty (0,0))/\cur.size=cs.length/\(∀(j:Nat) v,cur[j]?=some v->v.oneCell'=true)/\
   (∀j,w.cell? ⟨bb,j,none⟩=cur[j]?)/\∀(j:Nat) v c,cur[j]?=some v->cs[j]?=some c->az w (OO fo m) m v c:=by
 obtain⟨x,hx,bb,kA,cur,rfl,hh,hs,h1,hr⟩:=hi.holds h _ hl;grind[World.cell?]
theorem qb(hi:Inv fo m L w){h k}{ty}{xs}(hl:(h,aV.row ty k xs)∈L)(bU:0 < xs.length):
  ∃b off cap cur,m h=some (.slice (some ⟨b,off,none⟩) xs.length cap)/\w.heap[b]?=some (.cells cur ty (0,0))/\xs.length<=cap/\cap<=maxLen/\off+cap *k<=cur.size/\
   (∀(i:Nat) x,xs[i]?=some x->x.length=k)/\(∀(j:Nat) v,cur[j]?=some v->v.oneCell'=true)/\(∀j,w.cell? ⟨b,j,none⟩=cur[j]?)/\
   ∀i j x y v,xs[i]?=some x->x[j]?=some y->cur[off+i *k+j]?=some v->az w (OO fo m) m v y:=by
 obtain⟨x,hx,hh⟩:=hi.holds h _ hl;rcases hh with⟨_,rfl⟩|⟨b,off,cap,cur,rfl,hb,h1,h2,h3,h4,h5,h6⟩
 ·grind
 grind[World.cell?]
theorem adG(hi:Inv fo m L w){h k ty xs}(hl:(h,aV.row ty k xs)∈L):∃a cap,m h=some (.slice a xs.length cap):=by
 obtain⟨x,hx,hh⟩:=hi.holds h _ hl;rcases hh with⟨rfl,rfl⟩|⟨b,off,cap,cur,rfl,_⟩
 ·grind
 grind
theorem xK{k}{f}{cs}(hlen:cs.length=k)(h1:∀j,j < k→(f j).oneCell'=true)(hr:∀(j:Nat) (y:V),cs[j]?=some y→az w (OO fo m) m (f j) y):
  az w (OO fo m) m (.agg ((List.range k).map f).toArray) (.agg cs):=by
 refine .agg _ _ (by grind) ?_ ?_
 ·grind
 grind
theorem xL{x y O}(h:eX w O x y):x.oneCell'=true:=by
 cases h<;>first|rfl|omega
theorem FJ{t}{a x}{c}(h:EW P L t a=some (x,c))(hc:c)(hi:Inv fo m L w){va}(ha:az w (OO fo m) m va a):
  ∃v,(Instr.loadAt t va).run P w= .ok v w/\az w (OO fo m) m v x:=by
 unfold EW at h;split at h
 ·cases h
 ·rename_i g k hA;split at h
  ·-- box
   rename_i hh off;split at h
   ·rename_i bb0 ty cs hl;obtain⟨bb,kA,hm,cur,mM,hs,kP,nF,fC⟩:=KT hi (dD hl);obtain⟨b,e,rfl⟩:=xJ ha;rw[hm]at e;obtain rfl:bb=b:=by grind
    cases g with
    | true=>
      simp only[if_true,akC,apM]at h;obtain⟨rfl,rfl⟩:=h;have C4:∀j,j<k->cur[off+j]?=some (cur.getD (off+j) undef):=λj hj=>by simp[Array.getD,show off+j<cur.size by omega]
      refine⟨_,xG hA (f:=λj=>cur.getD (off+j) undef) (λj hj=>?_),xK ?_ ?_ ?_⟩
      ·grind
      ·grind
      ·grind
      grind
    | false=>
      simp only[aqq,if_false,akC,apM]at h;obtain⟨rfl,rfl⟩:=h;grind[Array.getElem?_eq_getElem,List.getElem?_eq_getElem,xH]
   grind
  ·-- rp
   rename_i cs;obtain⟨b,off,f,rfl,hb,ay,nF,fC⟩:=C1 ha;cases g with
   | true=>
     simp only[if_true,akC,apM]at h;obtain⟨rfl,rfl⟩:=h;refine⟨_,xG hA (f:=f) (λj hj=>nF j (by omega)),xK (by grind) ?_ ?_⟩
     ·intro j hj;exact xL (fC j _ (anc (by omega)))
     ·intro j y hy;rw[apS,ar2]at hy;split at hy
      ·obtain⟨z,hz,rfl⟩:=apN.1 hy;exact .d _ _ (fC j z hz)
      grind
   | false=>
     simp only[aqq,if_false,akC,apM]at h;obtain⟨rfl,rfl⟩:=h;have h2:cs[0]?=some (cs[0]'hc):=anc hc;exact⟨_,xH hA (by simpa using nF 0 hc),by rw[h2];exact .d _ _ (fC 0 _ h2)⟩
  ·-- ep
   rename_i hh k' i j;split at h
   ·rename_i ty HN xs hl;obtain⟨b,o,n,cc,e,rfl⟩:=C2 ha;cases g with
    | true=>
      simp only[if_true,akC,apM]at h;obtain⟨rfl,rfl⟩:=h;obtain⟨hix,hjk,rfl⟩:=hc;obtain⟨b',off,cap,cur,hm,mM,lN,pA,dW,hlen,kP,nF,fC⟩:=qb hi (dD hl) (by omega);rw[hm]at e;simp only[akC,Value.slice.injEq,Addr.mk.injEq]at e;obtain⟨⟨rfl,rfl,_⟩,_,_⟩:=e;have ke:xs[i]?=some xs[i]:=anc hix;have nv:=hlen i _ ke;have iY:(i+1) *k'<=cap *k':=aqb _ (by omega);rw[aqV,ark]at iY;have C4:∀q,q<k->cur[off+i *k'+j+q]?=some (cur.getD (off+i *k'+j+q) undef):=λq hq=>by simp[Array.getD,show off+i *k'+j+q<cur.size by omega]
      refine⟨_,xG hA (f:=λq=>cur.getD (off+i *k'+j+q) undef) (λq hq=>?_),xK ?_ ?_ ?_⟩
      ·grind
      ·grind[Np]
      ·grind
      grind[Np,Nat.add_assoc]
    | false=>
      simp only[aqq,if_false,akC,apM]at h;obtain⟨rfl,rfl⟩:=h;obtain⟨hix,hjk,rfl⟩:=hc;obtain⟨b',off,cap,cur,hm,mM,lN,pA,dW,hlen,kP,nF,fC⟩:=qb hi (dD hl) (by omega);rw[hm]at e;simp only[akC,Value.slice.injEq,Addr.mk.injEq]at e;obtain⟨⟨rfl,rfl,_⟩,_,_⟩:=e;have ke:xs[i]?=some xs[i]:=anc hix;have nv:=hlen i _ ke;have iY:(i+1) *k'<=cap *k':=aqb _ (by omega);rw[aqV,ark]at iY;grind[Array.getElem?_eq_getElem,List.getElem?_eq_getElem,xH,Xf]
   grind
  grind
theorem GG{t}{f}{a x}{c}(h:wH P t f a=some (x,c)){va}(ha:az w (OO fo m) m va a):
  ∃v,(Instr.fieldAt t va f).run P w= .ok v w/\az w (OO fo m) m v x:=by
 unfold wH at h;split at h
 ·cases h
 ·rename_i o g k hF;split at h
  ·cases h;obtain⟨b,e,rfl⟩:=xJ ha;exact⟨_,xI hF,.bp _ _ b e⟩
  ·cases h;obtain⟨b,off,f',rfl,hb,ay,nF,fC⟩:=C1 ha;refine⟨_,xI hF,.rp b (off+o) _ (λj=>f' (o+j)) hb ay (λj hj=>?_) (λj y hy=>?_)⟩
   ·grind
   grind
  ·cases h;obtain⟨b,oo,n,cc,e,rfl⟩:=C2 ha;refine⟨_,xI hF,?_⟩;rw[arK];exact .ep _ _ _ _ b oo n cc e
  grind
theorem HQ{vs}{cs:List V}{o k}{g}{ft}(h4:(isAgg ft).run P w= .ok g w)(h5:(sizeOf ft).run P w= .ok k w)(hs:vs.size=cs.length)
  (h1:∀(j:Nat) (x:Value),vs[j]?=some x->x.oneCell'=true) (hr:∀(j:Nat) (x:Value) (y:V),vs[j]?=some x->cs[j]?=some y->az w (OO fo m) m x y)
  (hb:if g then o+k<=cs.length else o<cs.length):
  ∃v,(part ft vs o).run P w= .ok v w/\az w (OO fo m) m v (if g then .agg ((cs.drop o).take k)else cs[o]?.getD .any):=by
 cases g with
 | true=>
   refine⟨.agg (vs.extract o (o+k)),by simp_all[part],?_⟩;refine .agg _ _ (by grind) ?_ ?_
   ·grind[Array.getElem?_extract]
   grind
 | false=>
   simp at hb⊢;exact⟨vs[o]'(by omega),by simp_all[part],by grind⟩
theorem Ns{t}{f}{a x}{c}(h:HO P t f a=some (x,c))(hc:c){va}(ha:az w (OO fo m) m va a):
  ∃v,(Instr.field t va f).run P w= .ok v w/\az w (OO fo m) m v x:=by
 unfold HO at h;split at h
 ·cases h
 ·rename_i o g k hF;split at h
  ·rename_i cs;obtain⟨fs,fl,h1,h2,h3,h4,h5,h6⟩:=Nk hF w;obtain⟨vs,rfl,hs,h7,hr⟩:=R8 ha;have hh:(if g then o+k<=cs.length else o<cs.length)/\x=(if g then .agg ((cs.drop o).take k)else cs[o]?.getD .any):=by
    grind
   obtain⟨v,hv,fC⟩:=HQ h4 h5 hs h7 hr hh.1;simp_all[Instr.field,asAgg]
  grind
theorem Nt(hi:Inv fo m L w){h k ty xs}(hl:L.lookup h=some (.row ty k xs)){x}(hr:az w (OO fo m) m x (.rv h)):∃a cap,m h=some x/\x= .slice a xs.length cap:=by
 obtain⟨a,cap,e⟩:=adG hi (dD hl);grind[C3,Option.some.injEq]
theorem GH{t}{a i x}{c}(h:wI P L t a i=some (x,c))(hc:c)(hi:Inv fo m L w){va vi}(ha:az w (OO fo m) m va a)(hv:az w (OO fo m) m vi i):
  ∃v,(Instr.indexAt t va vi).run P w= .ok v w/\az w (OO fo m) m v x:=by
 unfold wI at h;split at h
 ·rename_i kk n;obtain rfl:=hv.cq;split at h
  ·rename_i e k xs hE;cases h;obtain⟨⟨h0,h1⟩,h2⟩:=hc;obtain⟨b,off,k',cap,rfl,hk,fC⟩:=adE (m:=m) ha.lg h1;have sR:k'=k:=by
    grind
   subst sR;obtain⟨h3,h4⟩:=ou hE w;refine⟨_,?_,by rw[anc h1]at fC⊢;exact fC⟩;have ay:n<xs.length:=by omega
   simp[Instr.indexAt,asIntOf,h3,h4,h0,ay,Addr.add_lit]
  ·rename_i e k hh hE;split at h
   ·rename_i ty k' xs hl;cases h;obtain⟨⟨h0,h1⟩,rfl⟩:=hc;obtain⟨b,off,cap,cur,hm,-⟩:=qb hi (dD hl) (by omega);have:=C3 ha;rw[hm]at this;obtain rfl:=apO this;obtain⟨h3,h4⟩:=ou hE w;have ay:n<xs.length:=by omega
    refine⟨.pointer (some ⟨b,off+n.toNat *k+0,none⟩),?_,.ep _ _ _ _ b off _ _ hm⟩;simp[Instr.indexAt,asIntOf,h3,h4,h0,ay,Addr.add_lit]
   grind
  ·rename_i e k hh l hE;cases h;obtain⟨h0,h1⟩:=hc;obtain⟨b,cap,rfl,em,lN,pA⟩:=Xj ha;obtain⟨h3,h4⟩:=ou hE w;have ay:n<l:=by omega
   refine⟨_,?_,.bp _ _ b em⟩;simp[Instr.indexAt,asIntOf,h3,h4,h0,ay,Addr.add_lit]
  ·split at h
   ·rename_i len g k hh off hA _ _ _;cases h;obtain⟨h0,h1⟩:=hc;obtain⟨e,h3,h5,h4⟩:=Bf hA w;obtain⟨b,e',rfl⟩:=xJ ha;refine⟨_,?_,.bp _ _ b e'⟩;simp[Instr.indexAt,asIntOf,h3,h4,h0,h1,Addr.add_lit,Instr.sureAddr]
   ·rename_i len g k cs hA _ _ _;cases h;obtain⟨h0,h1⟩:=hc;obtain⟨e,h3,h5,h4⟩:=Bf hA w;obtain⟨b,off,f',rfl,hb,ay,nF,fC⟩:=C1 ha;refine⟨.pointer (some ⟨b,off+n.toNat *k,none⟩),?_,.rp b (off+n.toNat *k) _ (λj=>f' (n.toNat *k+j)) hb ay (λj hj=>?_) (λj y hy=>?_)⟩
    ·simp[Instr.indexAt,asIntOf,h3,h4,h0,h1,Addr.add_lit,Instr.sureAddr]
    ·grind
    grind
   grind
 grind
theorem wJ{t}(h:tC P t=true) w:(underlying t).run P w= .ok .string w:=by
 grind[tC,run_underlying]
theorem Nu{t}{a i x}{c}(h:HP P t a i=some (x,c))(hc:c){va vi}(ha:az w (OO fo m) m va a)(hv:az w (OO fo m) m vi i):
  ∃v,(Instr.index t va vi).run P w= .ok v w/\az w (OO fo m) m v x:=by
 unfold HP at h;split at h
 ·rename_i kk n;obtain rfl:=hv.cq;split at h
  ·rename_i s;obtain rfl:=ha.cq;split at h
   ·cases h;obtain⟨h0,h1⟩:=hc;have e2:s.data.toList[n.toNat]?=some (s[n.toNat]'h1):=by
     rw[aqn];exact aqf h1
    simp_all[Instr.index,asIntOf,wJ,lh]
   grind
  ·split at h
   ·rename_i len hA;cases h;obtain⟨vs,rfl,hs,h7,hr⟩:=R8 ha;obtain⟨e,h3,h5,h4⟩:=Bf hA w;obtain⟨v,hv',fC⟩:=HQ (o:=n.toNat) h5 h4 hs h7 hr (by grind);simp_all[Instr.index,asIntOf]
   grind
  grind
 grind
theorem nk{k n}(h:aN k n):k.wrap n=n:=by
 unfold aN IntKind.min IntKind.max at h;unfold IntKind.wrap;cases k<;>simp[IntKind.bits,IntKind.signed]at *<;>omega
theorem Uf{op}{t}{xo yo}{a b x}{c}(h:Ub op a b=some (x,c))(hc:c){va vb}(ha:az w (OO fo m) m va a)(hb:az w (OO fo m) m vb b):
  ∃v,(do eqGuard op t xo yo va vb;binOp op t va vb:Sem Value).run P w= .ok v w/\az w (OO fo m) m v x:=by
 unfold Ub at h;split at h
 ·rename_i k p k' q;obtain rfl:=ha.cq;obtain rfl:=hb.cq;have hg:(eqGuard op t xo yo (.int k p) (.int k' q)).run P w= .ok () w:=by
   simp[eqGuard]
  rw[Sem.run_bind,hg];simp only[Result.andThen_ok];split at h
  ·cases h;exact⟨_,by simp[binOp,Op.shift,Int.not_lt.2 hc],lh _ _⟩
  ·cases h;exact⟨_,by simp[binOp,Op.shift,Int.not_lt.2 hc],lh _ _⟩
  all_goals (split at h;rotate_left;cases h;rename_i hk;subst hk)
  case h_3|h_4|h_5=>
   split at h
   ·rename_i hk;subst hk;cases h;simp_all[binOp,Op.intArith,ne_eq,not_true_eq_false,if_false,Sem.run_pure,nk,lh]
   ·cases h;simp[binOp,Op.intArith,lh]
  case h_6|h_7=>
   cases h;simp_all[binOp,Op.intDiv,lh]
  case h_8|h_9|h_10|h_11=>
   cases h;exact⟨_,by simp only[binOp,Op.intBits,ne_eq,not_true_eq_false,if_false,Sem.run_pure],lh _ _⟩
  all_goals
   cases h;exact⟨_,by simp[binOp,Op.intCmp],nL _⟩
 ·rename_i p q;obtain rfl:=ha.cq;obtain rfl:=hb.cq;have hg:(eqGuard op t xo yo (.string p) (.string q)).run P w= .ok () w:=by
   simp[eqGuard]
  rw[Sem.run_bind,hg];split at h
  ·cases h;simp_all[binOp,Op.stringOp,if_neg,Int.not_lt,Ue]
  ·cases h;simp[binOp,Op.stringOp,nL]
  ·cases h;simp[binOp,Op.stringOp,nL]
  grind
 grind
theorem Xk{op}{a x}{c}(h:unV op a=some (x,c))(hc:c){va}(ha:az w (OO fo m) m va a):
  ∃v,(Op.unary op va).run P w= .ok v w/\az w (OO fo m) m v x:=by
 unfold unV at h;split at h
 ·obtain rfl:=ha.cq;cases h;exact⟨_,rfl,nL _⟩
 ·obtain rfl:=ha.cq;split at h
  ·cases h;simp_all[lh,Op.unary,Op.intArith,nk]
  ·cases h;exact⟨_,rfl,lh _ _⟩
 grind
theorem Uh{t ty}{a x}{c}(h:Uc P L t a=some (x,c))(hi:Inv fo m L w){va}(ha:az w (OO fo m) m va a):
  ∃v,(Builtin.len_ #[t] ty #[va]).run P w= .ok v w/\az w (OO fo m) m v x:=by
 unfold Uc at h;split at h
 ·obtain rfl:=ha.cq;split at h
  ·rename_i s hs;cases h;exact⟨_,by simp[Builtin.len_,wJ hs w];rfl,lh _ _⟩
  grind
 ·split at h
  ·rename_i hE;cases h;obtain⟨⟨e,k⟩,Nv⟩:=aqI.1 hE;obtain⟨a',cap,rfl,-⟩:=ha.lg.oT;exact⟨_,by simp[Builtin.len_,(ou Nv w).1];rfl,lh _ _⟩
  grind
 ·split at h
  ·rename_i hE;cases h;obtain⟨⟨e,k⟩,Nv⟩:=aqI.1 hE;obtain rfl:=ha.cq;exact⟨_,by simp[Builtin.len_,(ou Nv w).1];rfl,lh _ _⟩
  grind
 ·split at h
  ·rename_i hl;split at h
   ·rename_i hE;cases h;obtain⟨⟨e,k⟩,Nv⟩:=aqI.1 hE;obtain⟨a',cap,_,rfl⟩:=Nt hi hl ha;exact⟨_,by simp[Builtin.len_,(ou Nv w).1];rfl,lh _ _⟩
   grind
  grind
 ·split at h
  ·rename_i hE;cases h;obtain⟨⟨e,k⟩,Nv⟩:=aqI.1 hE;obtain⟨b,cap,rfl,-⟩:=Xj ha;exact⟨_,by simp[Builtin.len_,(ou Nv w).1];rfl,lh _ _⟩
  grind
 grind
theorem Ui{t k}(h:tD P t=some k) w:(underlying t).run P w= .ok (.int k) w:=by
 grind[tD,Option.some.injEq,run_underlying]
theorem QM{src dst}{a x}{c}(h:MV P src dst a=some (x,c))(hc:c){va}(ha:az w (OO fo m) m va a):
  ∃v,(convert src dst va).run P w= .ok v w/\az w (OO fo m) m v x:=by
 unfold MV at h;split at h
 ·rename_i k n k' hd;obtain rfl:=ha.cq;split at h
  ·rename_i hs;obtain⟨ks,hs⟩:=aqI.1 hs;have bq:(convert src dst (.int k n)).run P w= .ok (.int k' (k'.wrap n)) w:=by
    simp_all[convert,Ui,Conv.intToInt]
   split at h
   ·cases h;simp_all[nk,lh]
   ·cases h;simp_all[lh]
  grind
 ·obtain rfl:=ha.cq;split at h
  ·cases h;simp_all[convert,wJ,Ue]
  grind
 grind
theorem R9{ρ}{dm}(l:Array Operand)(h:∀z,z∈l→az w (OO fo m) m (ρ z) (dm z)):
  ∀(j:Nat) x y,(l.map ρ)[j]?=some x->(l.toList.map dm)[j]?=some y->az w (OO fo m) m x y:=by
 grind
theorem aaz{dm o x c}(h:q1 P dm L o=some (x,c))(hc:c):Xi P o dm L x:=by
 intro fo m ρ w hi hr;obtain⟨dst,op,ty,pos,after,guard⟩:=o;unfold q1 at h;simp only at h hr;split at h
 ·simp only[akC,apM]at h;obtain⟨rfl,_⟩:=h;exact⟨_,rfl,hr _ (by simp[Op.operands])⟩
 ·simp only[akC,apM]at h;obtain⟨rfl,_⟩:=h;exact⟨_,rfl,hr _ (by simp[Op.operands])⟩
 ·rename_i co ao bo;split at h
  ·rename_i t ht;have h1:=hr co (by simp[Op.operands]);rw[ht]at h1;refine⟨_,?_,QL h hc (hr ao (by simp[Op.operands])) (hr bo (by simp[Op.operands]))⟩;simp only[execOp];rw[h1.cq];rfl
  grind
 ·obtain⟨v,h1,h2⟩:=FJ h hc hi (hr _ (by simp[Op.operands]));simp_all[execOp]
 ·obtain⟨v,h1,h2⟩:=GG (w:=w) h (hr _ (by simp[Op.operands]));simp_all[execOp]
 ·obtain⟨v,h1,h2⟩:=Ns (w:=w) h hc (hr _ (by simp[Op.operands]));simp_all[execOp]
 ·rename_i t xo io;obtain⟨v,h1,h2⟩:=GH h hc hi (hr xo (by simp[Op.operands])) (hr io (by simp[Op.operands]));simp_all[execOp]
 ·rename_i t xo io;obtain⟨v,h1,h2⟩:=Nu (w:=w) h hc (hr xo (by simp[Op.operands])) (hr io (by simp[Op.operands]));simp_all[execOp]
 ·rename_i bop t xo yo yt;obtain⟨v,h1,h2⟩:=Uf (P:=P) (w:=w) (t:=t) (xo:=xo) (yo:=yo) h hc (hr xo (by simp[Op.operands])) (hr yo (by simp[Op.operands]));refine⟨v,?_,h2⟩;simp only[execOp];rw[Sem.run_bind,h1];rfl
 ·obtain⟨v,h1,h2⟩:=Xk (P:=P) (w:=w) h hc (hr _ (by simp[Op.operands]));simp_all[execOp]
 ·obtain⟨v,h1,h2⟩:=QM (w:=w) h hc (hr _ (by simp[Op.operands]));simp_all[execOp]
 ·rename_i xo i;have hx:=hr xo (by simp[Op.operands]);unfold GD at h;split at h
  ·rename_i vs hvs;simp only[akC,apM]at h;obtain⟨rfl,rfl⟩:=h;rw[hvs]at hx;obtain⟨us,hu,hs,fC⟩:=adF hx;have h2:us[i]?=some (us[i]'(by omega)):=aqf (by omega);have h3:vs[i]?=some (vs[i]'hc):=anc hc;exact⟨us[i]'(by omega),by simp_all[execOp,Instr.extract],by grind⟩
  grind
 ·rename_i xo;have hx:=hr xo (by simp[Op.operands]);unfold C0 at h;split at h
  ·rename_i hv;simp only[akC,apM]at h;obtain⟨rfl,_⟩:=h;rw[hv]at hx;obtain⟨b,e,hp⟩:=xJ hx;simp_all[execOp]
  ·rename_i hv;simp only[akC,apM]at h;obtain⟨rfl,_⟩:=h;rw[hv]at hx;obtain⟨b,off,f',hp,-⟩:=C1 hx;simp_all[execOp]
  ·rename_i hv;simp only[akC,apM]at h;obtain⟨rfl,_⟩:=h;rw[hv]at hx;obtain⟨b,oo,n,cc,e,hp⟩:=C2 hx;simp_all[execOp]
  grind
 ·rename_i fn first eh
  simp only[akC,apM]at h;obtain⟨rfl,_⟩:=h;refine⟨.func fn (first.map ρ) (eh.map ρ),by rfl,.eW _ _ _ _ _ (by simp) (by simp) ?_ ?_⟩
  ·grind[R9,Op.operands]
  grind[R9,Op.operands]
 ·rename_i t xo io ok;obtain⟨v,h1,h2⟩:=MG h hc hi (hr xo (by simp[Op.operands])) (hr io (by simp[Op.operands]));simp_all[execOp]
 ·rename_i cl;obtain⟨callee,args,argTypes⟩:=cl;unfold Ud at h;split at h
  ·rename_i xo t qc ow aaA;simp only at qc ow aaA;obtain rfl:args= #[xo]:=by grind
   obtain rfl:argTypes= #[t]:=by grind
   subst qc;obtain⟨v,h1,h2⟩:=Uh (ty:=ty) h hi (hr xo (by simp[Op.operands,Call.operands]));simp_all[execOp,resolve,invoke,builtin]
  grind
 grind
end
section
variable {P : Program} {w w' : World} {fo : FO} {m m' : Nat -> Option Value} {L : aH} {n : Nat} {s : St} {a : Act}
theorem aV.Holds.mono{O O'}{x}{r:aV}(h:r.Holds w O m x)(hb:∀b,df x b→w'.heap[b]?=w.heap[b]?)(hk:bK w O w')
  (hO:∀b,b<w.heap.size->O' b->O b) (hm:∀h x,m h=some x->m' h=some x):r.Holds w' O' m' x:=by
 cases r with
 | box b ty cs=>
   obtain⟨bb,kA,cur,rfl,h1,h2,h3,h4⟩:=h;exact⟨bb,kA,cur,rfl,by rw[hb bb rfl];exact h1,h2,h3,λj v c hv hc=>(h4 j v c hv hc).mono hk hO hm⟩
 | row ty k xs=>
   rcases h with h|⟨b,off,cap,cur,rfl,h1,h2,h3,h4,h5,h6,h7⟩
   ·exact .inl h
   ·exact .inr ⟨b,off,cap,cur,rfl,by rw[hb b rfl];exact h1,h2,h3,h4,h5,h6,λi j x y v h1 h2 h3=>(h7 i j x y v h1 h2 h3).mono hk hO hm⟩
 | env A=>exact A.mono h hb hk hO
 | mp es=>exact KO h hb hk hO
theorem aV.Holds.lt{O x}{r:aV}(h:r.Holds w O m x){b}(hb:df x b):b<w.heap.size:=by
 cases r with
 | box b' ty cs=>
   obtain⟨bb,kA,cur,rfl,h1,_⟩:=h;grind[df,jU,Array.getElem?_eq_some_iff]
 | row ty k xs=>
   rcases h with⟨rfl,_⟩|⟨b',off,cap,cur,rfl,h1,_⟩
   ·grind[df,jU]
   grind[df,jU,Array.getElem?_eq_some_iff]
 | env A=>exact A.lt h hb
 | mp es=>exact adD h hb
theorem HR{h}(hk:h∈keys L):∃r,(h,r)∈L:=by
 obtain⟨p,hp,rfl⟩:=apV.1 hk;grind
theorem Inv.lt(hi:Inv fo m L w){h b x}(hx:m h=some x)(hb:df x b):b<w.heap.size:=by
 obtain⟨r,hr⟩:=HR (hi.fI h x hx);obtain⟨y,hy,hh⟩:=hi.holds h r hr;rw[hx]at hy;obtain rfl:=apO hy;exact hh.lt hb
theorem Inv.aht(hi:Inv fo m L w){b}(h:OO fo m b):b<w.heap.size:=by
 rcases h with⟨h,x,hx,hb⟩|h
 ·exact hi.lt hx hb
 ·exact hi.ei b h
def eZ(m:Nat->Option Value)(h:Nat)(x:Value):Nat->Option Value:=λi=>if i=h then some x else m i
theorem cn h x:eZ m h x h=some x:=by simp[eZ]
theorem et{h i} x(bU:i≠h):eZ m h x i=m i:=by grind[eZ]
theorem adH(hi:Inv fo m L w){h}(hn:h∉keys L):m h=none:=by
 cases hm:m h with
 | none=>rfl
 | some x=>exact(hn (hi.fI h x hm)).elim
theorem ss(hi:Inv fo m L w){h}(hn:h∉keys L) x:∀i y,m i=some y->eZ m h x i=some y:=by
 grind[adH,et]
theorem Inv.new(hi:Inv fo m L w){h}(hn:h∉keys L){x}{r}(hs:w.heap.size≤w'.heap.size)(tG:∀b,b < w.heap.size→w'.heap[b]?=w.heap[b]?)
  (hx:∀b,df x b->w.heap.size<=b) (hh:r.Holds w' (OO fo (eZ m h x)) (eZ m h x) x):Inv fo (eZ m h x) ((h,r)::L) w':=by
 have kh:=ss hi hn x;have hO:∀b,b<w.heap.size->OO fo (eZ m h x) b->OO fo m b:=by
  rintro b hb (⟨i,y,hy,kW⟩|hf)
  ·by_cases kX:i=h
   ·subst kX;rw[cn]at hy;grind
   ·rw[et x kX]at hy;exact .inl ⟨i,y,hy,kW⟩
  ·exact .inr hf
 refine⟨?_,?_,?_,?_,?_,?_,hi.ef.mono ⟨hs,λb hb _=>tG b hb⟩ hO⟩
 ·simp only[keys,aqd,aqZ];exact⟨hn,hi.nodup⟩
 ·intro i y hy;by_cases kX:i=h
  ·simp_all[keys]
  ·rw[et x kX]at hy;exact ap2 _ (hi.fI i y hy)
 ·intro i j y z b hy hz kW KU;by_cases kX:i=h<;>by_cases Nw:j=h
  ·omega
  ·subst kX;rw[cn]at hy;rw[et x Nw]at hz;obtain rfl:=apO hy;have:=hx b kW;have:=hi.lt hz KU;omega
  ·subst Nw;rw[cn]at hz;rw[et x kX]at hy;obtain rfl:=apO hz;have:=hx b KU;have:=hi.lt hy kW;omega
  ·rw[et x kX]at hy;rw[et x Nw]at hz;exact hi.apart i j y z b hy hz kW KU
 ·intro i y b hy kW hf;by_cases kX:i=h
  ·subst kX;rw[cn]at hy;obtain rfl:=apO hy;have:=hx b kW;have:=hi.ei b hf;omega
  ·rw[et x kX]at hy;exact hi.others i y b hy kW hf
 ·intro b hf;exact aqa (hi.ei b hf) hs
 ·intro i q hq;rcases ap8.1 hq with hq|hq
  ·cases hq;exact⟨x,cn _ _,hh⟩
  ·obtain⟨y,hy,Ny⟩:=hi.holds i q hq;exact⟨y,kh i y hy,Ny.mono (λb hb=>tG b (hi.lt hy hb)) ⟨hs,λb hb _=>tG b hb⟩ hO kh⟩
theorem C5(hi:Inv fo m L w){h x}(hx:∀b,df x b->w.heap.size<=b):∀b,b<w.heap.size->OO fo (eZ m h x) b->OO fo m b:=by
 rintro b hb (⟨i,y,hy,kW⟩|hf)
 ·by_cases kX:i=h
  ·subst kX;rw[cn]at hy;grind
  ·rw[et x kX]at hy;exact .inl ⟨i,y,hy,kW⟩
 ·exact .inr hf
theorem adI{h x}(hx:∀b,df x b->w.heap.size<=b):∀b,b<w.heap.size->own (eZ m h x) b->own m b:=by
 rintro b hb ⟨i,y,hy,kW⟩;by_cases kX:i=h
 ·subst kX;rw[cn]at hy;grind
 ·rw[et x kX]at hy;exact⟨i,y,hy,kW⟩
structure hZ(w w':World):Prop where
 os:w'.os=w.os
 tape:w'.tape=w.tape
 output:w'.output=w.output
 size:w.heap.size<=w'.heap.size
 block:∀b,b<w.heap.size->w'.heap[b]?=w.heap[b]?
theorem hZ.alloc w o:hZ w (w.alloc o):=
 ⟨rfl,rfl,rfl,by simp,λb hb=>Below.heap_alloc w o b hb⟩
where
 Below.heap_alloc w o k (h:k<w.heap.size):(w.alloc o).heap[k]?=w.heap[k]?:=by
  show(w.heap.push o)[k]?=_;grind
theorem G.new(g:G fo n m s a w)(gr:hZ w w'){h}(hn:h∉keys s.L){x}{r}(hx:∀b,df x b→w.heap.size≤b)
  (hh:r.Holds w' (OO fo (eZ m h x)) (eZ m h x) x):G fo n (eZ m h x) {s with L:=(h,r)::s.L} a w'/\Step w (own m) w' (own (eZ m h x)):=
 ⟨⟨g.size,λt y hy=>⟨(g.fr t y hy).1,(g.fr t y hy).2.mono ⟨gr.size,λb hb _=>gr.block b hb⟩ (C5 g.inv hx) (ss g.inv hn x)⟩,g.inv.new hn gr.size gr.block hx hh,g.defers⟩,
  ⟨gr.os,gr.tape,gr.output,gr.size,λb hb _=>gr.block b hb,adI hx⟩⟩
def aH.jK(L:aH)(h:Nat)(r:aV):aH:=L.map λp=>if p.1=h then(h,r)else p
theorem xM L h r:keys (aH.jK L h r)=keys L:=by
 unfold keys aH.jK;rw[arc];apply List.map_congr_left;grind
structure EY(w:World) (b:Nat) (w':World):Prop where
 os:w'.os=w.os
 tape:w'.tape=w.tape
 output:w'.output=w.output
 size:w.heap.size<=w'.heap.size
 block:∀c,c<w.heap.size->c≠b->w'.heap[c]?=w.heap[c]?
theorem lO w b cs:EY w b (w.setRow b cs):=
 ⟨rfl,rfl,rfl,by simp,λc _ bU=>by
  simp[World.setRow];grind⟩
theorem Inv.jK(hi:Inv fo m L w){h b x}(hx:m h=some x)(hb:df x b)(wr:EY w b w'){r}(hh:r.Holds w' (OO fo m) m x):Inv fo m (L.jK h r) w':=by
 have cN:bK w (OO fo m) w':=⟨wr.size,λc hc ho=>wr.block c hc (λe=>ho (.inl ⟨h,x,hx,e ▸ hb⟩))⟩
 refine⟨by rw[xM];exact hi.nodup,by rw[xM];exact hi.fI,hi.apart,hi.others,λb hf=>aqa (hi.ei b hf) wr.size,?_,hi.ef.mono cN (λ_ _ h=>h)⟩;intro i q hq;obtain⟨p,hp,he⟩:=apV.1 hq;split at he
 ·grind
 ·rename_i bU;subst he;obtain⟨y,hy,Ny⟩:=hi.holds _ _ hp;refine⟨y,hy,Ny.mono (λc hc=>?_) cN (λ_ _ h=>h) (λ_ _ h=>h)⟩;refine wr.block c (hi.lt hy hc) (λe=>bU ?_);subst e;exact hi.apart _ _ _ _ _ hy hx hc hb
theorem G.jK(g:G fo n m s a w){h b}{x}(hx:m h=some x)(hb:df x b)(wr:EY w b w'){r}(hh:r.Holds w' (OO fo m) m x):
  G fo n m {s with L:=aH.jK s.L h r} a w'/\Step w (own m) w' (own m):=by
 have cN:bK w (OO fo m) w':=⟨wr.size,λc hc ho=>wr.block c hc (λe=>ho (.inl ⟨h,x,hx,e ▸ hb⟩))⟩
 exact⟨⟨g.size,λt y hy=>⟨(g.fr t y hy).1,(g.fr t y hy).2.mono cN (λ_ _ h=>h) (λ_ _ h=>h)⟩,g.inv.jK hx hb wr hh,g.defers⟩,
  ⟨wr.os,wr.tape,wr.output,wr.size,λc hc ho=>wr.block c hc (λe=>ho ⟨h,x,hx,e ▸ hb⟩),λ_ _ h=>h⟩⟩
end
mutual
def V.kill(h:Nat):V->V
 | .bp i o=>if i=h then .any else .bp i o
 | .rv i=>if i=h then .any else .rv i
 | .ep i k x y=>if i=h then .any else .ep i k x y
 | .eW fn f c=> .eW fn (V.dR h f) (V.dR h c)
 | .agg cs=> .agg (V.dR h cs)
 | .bM cs=> .bM (V.dR h cs)
 | .gd b x=> .gd b (V.kill h x)
 | .d x=> .d x
 | .rp cs=> .rp cs
 | .sv i n=>if i=h then .any else .sv i n
 | .kn Q=> .kn Q
 | .any=> .any
def V.dR(h:Nat):List V->List V
 | []=> []
 | x::l=>V.kill h x::V.dR h l
end
theorem iF h:∀l:List V,V.dR h l=l.map (V.kill h)
 | []=>by rfl
 | x::l=>by simp[V.dR,iF]
def dd(ys:List (List D)):List (List V):=ys.map (·.map V.d)
theorem JH h(l:List D):V.dR h (l.map V.d)=l.map V.d:=by
 simp[iF,V.kill]
def aV.kill(h:Nat):aV->aV
 | .box b ty cs=> .box b ty (V.dR h cs)
 | .row ty k xs=> .row ty k (xs.map (V.dR h))
 | .env A=> .env A
 | .mp es=> .mp es
theorem adJ h ys:(dd ys).map (V.dR h)=dd ys:=by
 simp[dd,JH]
def St.kill(h:Nat)(s:St):St:=⟨s.fr.map λp=>(p.1,p.2.kill h),s.L.map λp=>(p.1,p.2.kill h)⟩
theorem az.kill{w O m m' h}(hm:∀i x,i≠h->m i=some x->m' i=some x){x y}(hr:az w O m x y):az w O m' x (y.kill h):=by
 induction hr with
 | d x y hd=>simpa[V.kill]using az.d x y hd
 | bp i off b e=>
   simp only[V.kill];split
   ·exact .any _
   ·rename_i bU;exact .bp i off b (hm _ _ bU e)
 | rv i x e e1=>
   simp only[V.kill];split
   ·exact .any _
   ·rename_i bU;exact .rv i x (hm _ _ bU e) e1
 | ep i k p q b o n c e=>
   simp only[V.kill];split
   ·exact .any _
   ·rename_i bU;exact .ep i k p q b o n c (hm _ _ bU e)
 | rp b off cs f hb ay hc hr=>simpa[V.kill]using az.rp b off cs f hb ay hc hr
 | sv i n b cap e hc hx=>
   simp only[V.kill];split
   ·exact .any _
   ·rename_i bU;exact .sv i n b cap (hm _ _ bU e) hc hx
 | eW fn first eh cf cc s1 s2 h1 h2 CY FH=>
   simp only[V.kill,iF];refine .eW fn first eh _ _ (by grind) (by grind) ?_ ?_
   ·grind
   grind
 | agg vs cs hs h1 h2 ih=>
   simp only[V.kill,iF];refine .agg vs _ (by grind) h1 ?_;grind
 | bM vs cs hs h2 ih=>
   simp only[V.kill,iF];refine .bM vs _ (by grind) ?_;grind
 | gt x y hr ih=>simpa[V.kill]using az.gt x _ ih
 | gf y=>simpa[V.kill]using az.gf (y.kill h)
 | kn x Q h=>simpa[V.kill]using az.kn x Q h
 | any x=>simpa[V.kill]using az.any x
theorem aV.Holds.kill{w O m m' h}(hm:∀i x,i≠h->m i=some x->m' i=some x){x}{r:aV}(hh:r.Holds w O m x):(r.kill h).Holds w O m' x:=by
 cases r with
 | box b ty cs=>
   obtain⟨bb,kA,cur,rfl,h1,h2,h3,h4⟩:=hh;simp[aV.kill,iF];refine⟨bb,kA,cur,rfl,h1,by grind,h3,λj v c hv hc=>?_⟩;rw[apS]at hc;obtain⟨z,hz,rfl⟩:=apN.1 hc;exact(h4 j v z hv hz).kill hm
 | row ty k xs=>
   rcases hh with⟨rfl,rfl⟩|⟨b,off,cap,cur,rfl,h1,h2,h3,h4,h5,h6,h7⟩
   ·exact .inl ⟨rfl,rfl⟩
   ·refine .inr ⟨b,off,cap,cur,by simp,h1,by grind,h3,h4,λi x hx=>?_,h6,λi j x y v hx hy hv=>?_⟩
    ·grind[iF,List.length_map]
    ·rw[apS]at hx;obtain⟨z,hz,rfl⟩:=apN.1 hx;rw[iF,apS]at hy;obtain⟨y',nw,rfl⟩:=apN.1 hy;exact(h7 i j z y' v hz nw hv).kill hm
 | env A=>exact hh
 | mp es=>exact hh
section
variable {P : Program} {w w' : World} {fo : FO} {m m' : Nat -> Option Value} {L : aH} {n : Nat} {s : St} {a : Act}
theorem G.change(g:G fo n m s a w){h}{x v'}(hx:m h=some x){r'}(Xl:w'.os=w.os)(ahu:w'.tape=w.tape)(afo:w'.output=w.output)
  (hs:w.heap.size<=w'.heap.size) (tG:∀c,c<w.heap.size->¬df x c->w'.heap[c]?=w.heap[c]?) (hv:∀b,df v' b->df x b\/w.heap.size<=b)
  (hh:r'.Holds w' (OO fo (eZ m h v')) (eZ m h v') v'):
  G fo n (eZ m h v') ⟨(s.kill h).fr,aH.jK (s.kill h).L h r'⟩ a w'/\Step w (own m) w' (own (eZ m h v')):=by
 have bU:∀i y,i≠h->m i=some y->eZ m h v' i=some y:=λi y hi hy=>by simp_all[et]
 have fb:∀b,b<w.heap.size->own (eZ m h v') b->own m b:=by
  rintro b hb ⟨i,y,hy,kW⟩;by_cases kX:i=h
  ·subst kX;rw[cn]at hy;obtain rfl:=apO hy;rcases hv b kW with h1|h1
   ·exact⟨i,x,hx,h1⟩
   ·omega
  ·rw[et v' kX]at hy;exact⟨i,y,hy,kW⟩
 have hO:∀b,b<w.heap.size->OO fo (eZ m h v') b->OO fo m b:=λb hb ho=>ho.imp (fb b hb) id
 have cN:bK w (OO fo m) w':=⟨hs,λc hc ho=>tG c hc (λe=>ho (.inl ⟨h,x,hx,e⟩))⟩
 have hi:=g.inv;refine⟨⟨g.size,?_,?_,g.defers⟩,⟨Xl,ahu,afo,hs,λc hc ho=>tG c hc (λe=>ho ⟨h,x,hx,e⟩),fb⟩⟩
 ·intro t y hy;simp only[St.kill,apV]at hy;obtain⟨p,hp,he⟩:=hy;cases he;obtain⟨h1,h2⟩:=g.fr p.1 p.2 hp;exact⟨h1,(h2.kill bU).mono cN hO (λ_ _ e=>e)⟩
 ·have pK:keys (s.kill h).L=keys s.L:=by simp[keys,St.kill,arc]
  refine⟨by rw[xM,pK];exact hi.nodup,?_,?_,?_,λb hf=>aqa (hi.ei b hf) hs,?_,hi.ef.mono cN hO⟩
  ·rw[xM,pK];intro i y hy;by_cases kX:i=h
   ·subst kX;exact hi.fI i x hx
   ·rw[et v' kX]at hy;exact hi.fI i y hy
  ·intro i j y z b hy hz kW KU;by_cases kX:i=h<;>by_cases Nw:j=h
   ·omega
   ·subst kX;rw[cn]at hy;rw[et v' Nw]at hz;obtain rfl:=apO hy;rcases hv b kW with h1|h1
    ·exact hi.apart i j x z b hx hz h1 KU
    ·have:=hi.lt hz KU;omega
   ·subst Nw;rw[cn]at hz;rw[et v' kX]at hy;obtain rfl:=apO hz;rcases hv b KU with h1|h1
    ·exact hi.apart i j y x b hy hx kW h1
    ·have:=hi.lt hy kW;omega
   ·rw[et v' kX]at hy;rw[et v' Nw]at hz;exact hi.apart i j y z b hy hz kW KU
  ·intro i y b hy kW hf;by_cases kX:i=h
   ·subst kX;rw[cn]at hy;obtain rfl:=apO hy;rcases hv b kW with h1|h1
    ·exact hi.others i x b hx h1 hf
    ·have:=hi.ei b hf;omega
   ·rw[et v' kX]at hy;exact hi.others i y b hy kW hf
  ·intro i q hq;obtain⟨p,hp,he⟩:=apV.1 hq;split at he
   ·cases he;exact⟨v',cn _ _,hh⟩
   ·rename_i Uj;subst he;simp only[St.kill,apV]at hp;obtain⟨p0,mN,vp⟩:=hp;cases vp;obtain⟨y,hy,Ny⟩:=hi.holds p0.1 p0.2 mN;refine⟨y,bU _ _ Uj hy,(Ny.kill bU).mono (λc hc=>?_) cN hO (λ_ _ e=>e)⟩;exact tG c (hi.lt hy hc) (λe=>Uj (hi.apart _ _ _ _ _ hy hx hc e))
def rq(P:Program)(n:Nat)(o:Oper)(s:St)(K:V->St->Prop):Prop:=
 ∀fo m a w,G fo n m s a w->∃nx v w' m' x s',(execOp a.eval o).run P w= .ok nx w'/\(nx= .value v\/(nx= .skip/\v=undef))/\K x s'/\
  az w' (OO fo m') m' v x/\G fo n m' s' a w'/\Step w (own m) w' (own m')
def ru(P:Program)(t:TypeId):Option (List Value):=((P.info? t).bind (·.zero)).bind λz=>if z.cells.all (·.oneCell')then some z.cells.toList else none
theorem aaB{t z}(h:ru P t=some z) w:∃v,(zeroValue t).run P w= .ok v w/\v.cells.toList=z/\∀x∈z,x.oneCell'=true:=by
 obtain⟨v,hv,h2⟩:=aqA.1 h;obtain⟨i,hi,hz⟩:=aqA.1 hv;split at h2
 ·simp at h2;subst h2;refine⟨v,by simp_all[zeroValue,typeInfo],rfl,?_⟩;grind[Array.all_eq_true']
 grind
theorem uC{O}{l:List Value}(h:∀x∈l,x.oneCell'=true):∀(j:Nat) v c,l[j]?=some v->(l.map λx=>V.d (D.v x))[j]?=some c->az w O m v c:=by
 intro j v c hv hc;rw[apS,hv]at hc;simp at hc;subst hc;exact .d _ _ (.v _ (h v (apT hv)))
theorem Sa(xN:Nat→Nat)(ox:∀bb,xN bb=0∨xN bb=bb+1){dst}{elem}{ty}{pos}{after}{guard}{h}{z}(hz:ru P elem=some z)(hn:h∉keys s.L):
  rq P n ⟨dst,.alloc elem,ty,pos,after,guard⟩ s (λx s'=>∃b,x= .bp h 0/\s'={s with L:=(h,.box (xN b) elem (z.map λx=> .d (.v x)))::s.L}):=by
 intro fo m a w g;obtain⟨v,bq,hv,kP⟩:=aaB hz w;have hx:∀b,df (.pointer (some ⟨w.heap.size,0,none⟩)) b->w.heap.size<=b:=by simp[df,jU]
 obtain⟨g',st⟩:=g.new (hZ.alloc w (.cells v.cells elem)) hn (r:= .box (xN w.heap.size) elem (z.map λx=> .d (.v x))) hx (by
  refine⟨w.heap.size,ox _,v.cells,rfl,heap_alloc_new w _,by grind,?_,?_⟩
  ·grind
  grind[uC])
 refine⟨_,_,_,_,_,_,?_,.inl rfl,⟨w.heap.size,rfl,rfl⟩,.bp h 0 w.heap.size (cn _ _),g',st⟩;simp[execOp,Instr.alloc,bq,newVar,newRow]
theorem afp{dst}{elem}{ty}{pos}{after}{guard}{h}{z}(hz:ru P elem=some z)(hn:h∉keys s.L):
  rq P n ⟨dst,.alloc elem,ty,pos,after,guard⟩ s (λx s'=>∃b,x= .bp h 0/\s'={s with L:=(h,.box (b+1) elem (z.map λx=> .d (.v x)))::s.L}):=Sa (· +1) (λ_=> .inr rfl) hz hn
def V.cl:V->Option (List V)
 | .agg cs=>some cs
 | .bM _=>none
 | .gd _ _=>none
 | .any=>none
 | .kn _=>none
 | x=>some [x]
theorem Bh{O}{v}{x}{cs}(hr:az w O m v x)(hc:x.cl=some cs):v.cells.size=cs.length∧(∀u∈v.cells.toList,u.oneCell'=true)∧
  ∀(j:Nat) u c,v.cells[j]?=some u->cs[j]?=some c->az w O m u c:=by
 have one:∀{v:Value} {x:V},az w O m v x→v.oneCell'=true→v.cells.size=[x].length∧(∀u∈v.cells.toList,u.oneCell'=true)∧
   ∀(j:Nat) (u:Value) (c:V),v.cells[j]?=some u-> [x][j]?=some c->az w O m u c:=by
  intro v x hr h1;have hv:v.cells= #[v]:=by cases v<;>first|rfl|grind[Value.oneCell']
  grind
 cases hr with
 | agg vs jL hs h1 h=>
   simp only[V.cl,akC]at hc;subst hc;refine⟨hs,λu hu=>?_,h⟩;obtain⟨j,hj⟩:=List.getElem?_of_mem hu;rw[aqn]at hj;exact h1 j u hj
 | d x y h=>simp only[V.cl,akC]at hc;subst hc;exact one (.d _ _ h) (xL h)
 | bp h off b e=>simp only[V.cl,akC]at hc;subst hc;exact one (.bp h off b e) rfl
 | rv h x e e1=>simp only[V.cl,akC]at hc;subst hc;exact one (.rv h _ e e1) e1
 | ep h k i j b o n c e=>simp only[V.cl,akC]at hc;subst hc;exact one (.ep h k i j b o n c e) rfl
 | rp b off cs f hb ay tH hr=>simp only[V.cl,akC]at hc;subst hc;exact one (.rp b off cs f hb ay tH hr) rfl
 | sv h n b cap e tH hx=>simp only[V.cl,akC]at hc;subst hc;exact one (.sv h n b cap e tH hx) rfl
 | eW fn first eh cf cc s1 s2 h1 h2=>simp only[V.cl,akC]at hc;subst hc;exact one (.eW fn first eh cf cc s1 s2 h1 h2) rfl
 | bM vs cs hs h=>grind[V.cl]
 | gt x y h=>grind[V.cl]
 | gf y=>grind[V.cl]
 | kn x Q h=>grind[V.cl]
 | any x=>grind[V.cl]
theorem ac3(xN:Nat→Nat)(ox:∀bb,xN bb=0∨xN bb=bb+1){dst}{elem}{xo}{ty}{pos}{after}{guard}{h}{cs}(hc:(s.ev xo).cl=some cs)(hn:h∉keys s.L):
  rq P n ⟨dst,.box elem xo,ty,pos,after,guard⟩ s (λx s'=>∃b,x= .bp h 0/\s'={s with L:=(h,.box (xN b) elem cs)::s.L}):=by
 intro fo m a w g;have hr:=cj g xo;obtain⟨h1,h2,h3⟩:=Bh hr hc;have hx:∀b,df (.pointer (some ⟨w.heap.size,0,none⟩)) b->w.heap.size<=b:=by simp[df,jU]
 have rN:=hZ.alloc w (.cells (a.eval xo).cells elem);obtain⟨g',st⟩:=g.new rN hn (r:= .box (xN w.heap.size) elem cs) hx (by
  refine⟨w.heap.size,ox _,(a.eval xo).cells,rfl,heap_alloc_new w _,h1,?_,?_⟩
  ·grind
  ·intro j u c hu sT;exact(h3 j u c hu sT).mono ⟨rN.size,λb hb _=>rN.block b hb⟩ (C5 g.inv hx) (ss g.inv hn _))
 refine⟨_,_,_,_,_,_,?_,.inl rfl,⟨w.heap.size,rfl,rfl⟩,.bp h 0 w.heap.size (cn _ _),g',st⟩;rfl
theorem ai9{dst}{elem}{xo}{ty}{pos}{after}{guard}{h}{cs}(hc:(s.ev xo).cl=some cs)(hn:h∉keys s.L):
  rq P n ⟨dst,.box elem xo,ty,pos,after,guard⟩ s (λx s'=>∃b,x= .bp h 0/\s'={s with L:=(h,.box (b+1) elem cs)::s.L}):=ac3 (· +1) (λ_=> .inr rfl) hc hn
def putAt(off:Nat)(cs dU:List V):List V:=dU.take off++cs++dU.drop (off+cs.length)
theorem xO{off cs dU}(h:off+cs.length<=dU.length):(putAt off cs dU).length=dU.length:=by
 grind[putAt]
theorem jf{α:Type}(dU cs:List α) off(h:off+cs.length≤dU.length) j:
  (dU.take off++cs++dU.drop (off+cs.length))[j]?=if off<=j/\j<off+cs.length then cs[j-off]? else dU[j]?:=by
 have hm:min off dU.length=off:=by omega
 grind
theorem Uk{dst}{t}{ao xo}{ty}{pos}{after}{guard}{h off b k}{g0}{KV}{cs dU}
  (ht:gz P t=some (g0,k)) (ha:s.ev ao= .bp h off) (hl:s.L.lookup h=some (.box b KV dU)) (hc:(s.ev xo).cl=some cs) (hk:cs.length=k) (afq:off+k<=dU.length):
  rq P n ⟨dst,.store t ao xo,ty,pos,after,guard⟩ s (λx s'=>x= .any/\s'={s with L:=aH.jK s.L h (.box b KV (putAt off cs dU))}):=by
 intro fo m a w g;have hr:=cj g xo;have Xm:=cj g ao;rw[ha]at Xm;obtain⟨h1,h2,h3⟩:=Bh hr hc;obtain⟨bb,kA,hm,cur,mM,hs,kP,nF,fC⟩:=KT g.inv (dD hl);obtain⟨b',e,hp⟩:=xJ Xm;rw[hm]at e;obtain rfl:bb=b':=by grind
 subst hk;have bx:=run_storeCells_at P bb off KV (a.eval xo).cells.toList 0 cur w mM (by grind) h2;obtain⟨_,dW⟩:=p8 ht w;have hlen:(a.eval xo).cells.toList.length=cs.length:=by omega
 simp only[aqS,hlen]at bx;obtain⟨g',st⟩:=g.jK hm (b:=bb) rfl (lO w bb (cur.toList.take off++(a.eval xo).cells.toList++cur.toList.drop (off+cs.length)).toArray) (r:= .box b KV (putAt off cs dU)) (by
  have bn:=λj=>jf cur.toList (a.eval xo).cells.toList off (by grind) j
  have zP:=λj=>jf dU cs off afq j
  rw[hlen]at bn;have cN:bK w (OO fo m) (w.setRow bb (cur.toList.take off++(a.eval xo).cells.toList++cur.toList.drop (off+cs.length)).toArray):=
   ⟨(lO w bb _).size,λc sT ho=>(lO w bb _).block c sT (λe=>ho (.inl ⟨h,_,hm,by simp[df,jU,e]⟩))⟩
  refine⟨bb,kA,_,rfl,setRow_heap w bb cur _ KV _ mM,?_,?_,?_⟩
  ·grind[xO]
  ·grind
  ·intro j u c hu sT;rw[aqJ,bn]at hu;unfold putAt at sT;rw[zP]at sT;refine az.mono cN (λ_ _ h=>h) (λ_ _ h=>h) ?_;grind)
 refine⟨.skip,undef,_,_,.any,_,?_,.inr ⟨rfl,rfl⟩,⟨rfl,rfl⟩,.any _,g',st⟩;simp_all[execOp,Instr.storeAt,Instr.sureAddr,storeVar]
end
theorem C6 off:∀l j0 (cells:Array Value),off+j0+l.length≤cells.size→
  ((l.zipIdx j0).foldl (λ(cs:Array Value) (p:Value×Nat)=>cs.setIfInBounds (off+p.2) p.1) cells).toList=cells.toList.take (off+j0)++l++cells.toList.drop (off+j0+l.length)
 | [],j0,cells,_=>by simp
 | v::l,j0,cells,h=>by
   simp;rw[C6 off l (j0+1) _ (by simp at h⊢;omega)];have e:=list_seg_step cells.toList (off+j0) v l (by omega);simpa[Array.toList_setIfInBounds,arK]using e
theorem Nz off(v cells:Array Value)(h:off+v.size≤cells.size):
  (v.zipIdx.foldl (λ(cs:Array Value) (p:Value×Nat)=>cs.setIfInBounds (off+p.2) p.1) cells).toList=cells.toList.take off++v.toList++cells.toList.drop (off+v.size):=by
 have:=C6 off v.toList 0 cells (by omega);grind[Array.toList_zipIdx]
def tI(place:Nat->Option (Nat×Nat))(cells:List V):List (Nat×V)->Option (List V×Prop)
 | []=>some (cells,True)
 | (i,x)::rest=>
   match place i,x.cl with
   | some (off,size),some cs=>
     match tI place (putAt off cs cells) rest with
     | some (r,c)=>some (r,(cs.length=size/\off+size<=cells.length)/\c)
     | none=>none
   | _,_=>none
section
variable {P : Program} {w w' : World} {fo : FO} {m m' : Nat -> Option Value} {L : aH} {n : Nat} {s : St} {a : Act}
theorem wK{O}{place}:∀ps qs cells cv {r} {c},
  ps.length=qs.length->(∀(j:Nat) p q,ps[j]?=some p->qs[j]?=some q->p.1=q.1/\az w O m p.2 q.2)->
  cells.size=cv.length->(∀u∈cells.toList,u.oneCell'=true)->(∀(j:Nat) u c,cells[j]?=some u->cv[j]?=some c->az w O m u c)->
  tI place cv qs=some (r,c)->c->
  ∃iM,Instr.fill place cells ps=some iM/\iM.size=r.length/\(∀u∈iM.toList,u.oneCell'=true)/\(∀(j:Nat) u c,iM[j]?=some u->r[j]?=some c->az w O m u c)
 | [],[],cells,cv,r,c,_,_,hs,h1,h2,hf,hc=>by
   cases hf;exact⟨cells,rfl,hs,h1,h2⟩
 | [],_::_,_,_,_,_,hl,_,_,_,_,_,_=>by grind
 | _::_,[],_,_,_,_,hl,_,_,_,_,_,_=>by grind
 | (i,v)::ps,(i',x)::qs,cells,cv,r,c,hl,hr,hs,h1,h2,hf,hc=>by
   obtain⟨hii,fC⟩:=hr 0 (i,v) (i',x) rfl rfl;simp only at hii fC;subst hii;simp only[tI]at hf;split at hf
   ·rename_i off size cs lP oU;split at hf
    ·rename_i r' c' hf';cases hf;obtain⟨⟨dW,afq⟩,sT⟩:=hc;obtain⟨g1,g2,g3⟩:=Bh fC oU;have ey:off+v.cells.size<=cells.size:=by omega
     have e1:=Nz off v.cells cells ey;have bn:=λj=>jf cells.toList v.cells.toList off (by omega) j
     have zP:=λj=>jf cv cs off (by omega) j
     obtain⟨iM,k1,k2,k3,k4⟩:=wK ps qs (v.cells.zipIdx.foldl (λ(cs:Array Value) (p:Value×Nat)=>cs.setIfInBounds (off+p.2) p.1) cells) (putAt off cs cv)
      (by grind) (λj p q hp hq=>hr (j+1) p q (by grind) (by grind))
      (by grind[xO,Array.length_toList])
      (by
       grind)
      (by
       intro j u c hu xP;unfold putAt at xP;grind)
      hf' sT
     refine⟨iM,?_,k2,k3,k4⟩;rw[Instr.fill];grind
    grind
   grind
def wm(P:Program)(t:TypeId):Option (List Value×List (Nat×Nat)):=
 match P.info? t,P.underlying t with
 | some it,some (.struct fields)=>
   match it.zero,fields.toList.mapM (λf=>(P.info? f.type).map λi=>(f.offset,i.size))with
   | some z,some places=>if z.cells.all (·.oneCell')then some (z.cells.toList,places)else none
   | _,_=>none
 | some it,some (.array n e)=>
   match it.zero,P.info? e with
   | some z,some ie=>if z.cells.all (·.oneCell')then some (z.cells.toList,(List.range n).map λi=>(i *ie.size,ie.size))else none
   | _,_=>none
 | _,_=>none
def HS(P:Program)(t:TypeId)(qs:List (Nat×V)):Option (V×Prop):=
 match wm P t with
 | some (z,places)=>
   match tI (places[·]?) (z.map λx=> .d (.v x)) qs with
   | some (r,c)=>some (.agg r,c)
   | none=>none
 | none=>none
theorem xQ{p q}:∀l,(∀x∈l,∀y,p x.1=some y->q x.1=some y)->∀{cells iM},Instr.fill p cells l=some iM->Instr.fill q cells l=some iM
 | [],_,_,_,h=>h
 | (i,v)::l,hpq,cells,iM,h=>by
   rw[Instr.fill]at h⊢;cases hp:p i with
   | none=>grind
   | some y=>
     rw[hpq (i,v) (by simp) _ hp];simp only[hp]at h⊢;split at h
     ·cases h
     ·rename_i bU;rw[if_neg bU];exact xQ l (λx hx=>hpq x (by simp[hx])) h
theorem NA{O}{t}{ps}{qs}{x}{c}(hl:ps.toList.length=qs.length)
  (hr:∀(j:Nat) (p:Nat×Value) (q:Nat×V),ps.toList[j]?=some p->qs[j]?=some q->p.1=q.1/\az w O m p.2 q.2) (h:HS P t qs=some (x,c)) (hc:c):
  ∃v,(Instr.build t ps).run P w= .ok v w/\az w O m v x:=by
 unfold HS at h;split at h
 ·rename_i z places hB;split at h
  ·rename_i r c' hf;simp only[akC,apM]at h;obtain⟨rfl,rfl⟩:=h;unfold wm at hB;split at hB
   ·rename_i it fields gR hu;split at hB
    ·rename_i zz pl hz hp;split at hB
     ·rename_i bQ;simp only[akC,apM]at hB;obtain⟨rfl,rfl⟩:=hB;have kP:∀u∈zz.cells.toList,u.oneCell'=true:=by
       grind[Array.all_eq_true']
      obtain⟨iM,k1,k2,k3,k4⟩:=wK (w:=w) (O:=O) (m:=m) ps.toList qs zz.cells _ hl hr (by simp) kP (by
       grind[uC]) hf hc
      refine⟨.agg iM,run_build w t ps iM ?_,.agg _ _ k2 (λj u hu=>k3 u (apT (by rw[aqn];exact hu))) k4⟩;simp_all[Program.built]
     grind
    grind
   ·rename_i it nn e gR hu;split at hB
    ·rename_i zz ie hz Xn;split at hB
     ·rename_i bQ;simp only[akC,apM]at hB;obtain⟨rfl,rfl⟩:=hB;have kP:∀u∈zz.cells.toList,u.oneCell'=true:=by
       grind[Array.all_eq_true']
      obtain⟨iM,k1,k2,k3,k4⟩:=wK (w:=w) (O:=O) (m:=m) ps.toList qs zz.cells _ hl hr (by simp) kP (by
       grind[uC]) hf hc
      refine⟨.agg iM,run_build w t ps iM ?_,.agg _ _ k2 (λj u hu=>k3 u (apT (by rw[aqn];exact hu))) k4⟩;unfold Program.built;simp only[gR,hu,hz,Xn];refine xQ ps.toList ?_ k1;grind
     grind
    grind
   grind
  grind
 grind
def kQ(P:Program)(t:TypeId):Option (TypeId×Nat×Nat×List Value):=
 match P.underlying t with
 | some (.slice e)=>match P.info? e with
   | some i=>match i.zero with
     | some z=>if z.cells.all (·.oneCell')&&z.cells.size==i.size then some (e,i.size,i.bytes,z.cells.toList)else none
     | none=>none
   | none=>none
 | _=>none
theorem oe{t e}{k by_}{z}(h:kQ P t=some (e,k,by_,z)):
  ∃i zv,P.underlying t=some (.slice e)/\P.info? e=some i/\i.zero=some zv/\i.size=k/\i.bytes=by_/\zv.cells.toList=z/\zv.cells.size=k/\∀x∈z,x.oneCell'=true:=by
 unfold kQ at h;split at h
 ·split at h
  ·split at h
   ·split at h
    ·grind[Array.all_eq_true']
    grind
   grind
  grind
 grind
theorem oV{z N k q}(hz:z.size=k)(hk:0<k)(hq:q<N):(madeCells z N)[q]?=z[q % k]?:=by
 simp_all[Nat.mod_lt,madeCells]
theorem ahv{dst}{t}{lo co}{ty}{pos}{after}{guard}{h k by_}{e}{z}{kl kc}{l c}
  (ht:kQ P t=some (e,k,by_,z)) (hl:s.ev lo= .d (.v (.int kl l))) (hc:s.ev co= .d (.v (.int kc c))) (hk:0<k) (hn:h∉keys s.L)
  (h0:0<=l/\l<=c) (hb:c<=maxLen/\by_ *c.toNat<=140737488355328):
  rq P n ⟨dst,.makeSlice t lo co,ty,pos,after,guard⟩ s (λx s'=>x= .rv h/\s'={s with L:=(h,.row e k (List.replicate l.toNat (z.map λx=> .d (.v x))))::s.L}):=by
 intro fo m a w g;obtain⟨i,zv,hu,hi,hz,lj,vq,og,wo,kP⟩:=oe ht;have sU:=cj g lo;have Xo:=cj g co;rw[hl]at sU;rw[hc]at Xo;have vr:c.toNat<=maxLen:=by omega
 have de:(i.bytes:Int) *c<=281474976710656:=by
  grind
 have bq:=run_make (P:=P) w t e i zv hu hi hz kl kc l c h0.1 h0.2 de (by simp_all[maxLen]);rw[lj]at bq;have hx:∀b,df (.slice (some ⟨w.heap.size,0,none⟩) l.toNat c.toNat) b->w.heap.size<=b:=by simp[df,jU]
 obtain⟨g',st⟩:=g.new (hZ.alloc w (.cells (madeCells zv.cells (c.toNat *k)) e)) hn
  (r:= .row e k (List.replicate l.toNat (z.map λx=> .d (.v x)))) hx (by
   refine .inr ⟨w.heap.size,0,c.toNat,madeCells zv.cells (c.toNat *k),by simp,heap_alloc_new w _,by grind,vr,by simp[madeCells],?_,?_,?_⟩
   ·grind
   ·intro j u Ap;have hj:j<c.toNat *k:=by grind[Array.getElem?_eq_some_iff,madeCells]
    rw[oV wo hk hj]at Ap;grind
   ·intro p q x y u cy hy Ap;have hp:=(apQ.1 cy).1;simp at hp;have:=apT cy;rw[List.mem_replicate]at this;obtain⟨_,rfl⟩:=this;have hq:q<k:=by grind
    have hpc:(p+1) *k<=c.toNat *k:=aqb _ (by omega);rw[aqV,ark]at hpc;rw[aqB,oV wo hk (by omega),Nat.mul_comm p k,Nat.mul_add_mod,arF hq]at Ap;grind[uC])
 refine⟨_,_,_,_,_,_,?_,.inl rfl,⟨rfl,rfl⟩,.rv h _ (cn _ _) rfl,g',st⟩;simp[execOp,sU.cq,Xo.cq,bq]
theorem Aq{L}{ρ}{dm:Operand→V}{dst}{t}{len}{ps}{ty}{pos}{after}{guard}{k by_}{e}{z}{r}{c}{xs}
  (ht:kQ P t=some (e,k,by_,z)) (hk:0<k) (hlen:len *k<=2^24)
  (hf:tI (λi=>some (i *k,k)) (List.replicate len (z.map λx=>V.d (.v x))).flatten (ps.toList.map λp=>(p.1,dm p.2))=some (r,c)) (hc:c)
  (yU:r=xs.flatten) (Ar:xs.length=len) (qd:∀x∈xs,x.length=k) {fo m w} (cO:Inv fo m L w) (hr:∀o,o∈(Op.buildSlice t len ps).operands->az w (OO fo m) m (ρ o) (dm o)):
  ∃v w',(execOp ρ ⟨dst,.buildSlice t len ps,ty,pos,after,guard⟩).run P w= .ok (.value v) w'/\hZ w w'/\(∀b,df v b->w.heap.size<=b)/\v.oneCell'=true/\∀h,h∉keys L->(aV.row e k xs).Holds w' (OO fo (eZ m h v)) (eZ m h v) v:=by
 obtain⟨i,zv,hu,hi,hz,lj,vq,og,wo,kP⟩:=oe ht;have hx:∀b,df (.slice (some ⟨w.heap.size,0,none⟩) len len) b->w.heap.size<=b:=by simp[df,jU]
 have ahw:∀q,(madeCells zv.cells (len *k))[q]?=if q<len *k then zv.cells[q % k]? else none:=by
  grind[oV,madeCells]
 have ahx:∀(N q:Nat),(List.replicate N (z.map λx=>V.d (.v x))).flatten[q]?=if q<N *k then(z.map λx=>V.d (.v x))[q % k]? else none:=by
  intro N
  induction N with
  | zero=>simp
  | succ N ih=>
    intro q;rw[List.replicate_succ,arz,aq8];have ahy:(z.map λx=>V.d (.v x)).length=k:=by grind
    rw[ahy];split
    ·rename_i hq;rw[if_pos (by grind),arF hq]
    ·rename_i hq;rw[ih];have:(q-k) % k=q % k:=by simp_all[Nat.mod_eq_sub_mod]
     grind
 obtain⟨iM,k1,k2,k3,k4⟩:=wK (w:=w) (O:=OO fo m) (m:=m) (place:=λi=>some (i *k,k)) (ps.toList.map λp=>(p.1,ρ p.2)) _ (madeCells zv.cells (len *k)) _
  (by simp) (by
   intro j p q hp hq;rw[apS]at hp hq;obtain⟨y,hy,rfl⟩:=apN.1 hp;rw[hy]at hq;simp only[aqe,akC]at hq;subst hq;exact⟨rfl,hr _ (by
    simp only[Op.operands,asg];grind)⟩) (by simp[madeCells,<-og,wo]) (by
   grind[List.getElem?_of_mem,List.mem_of_getElem?]) (by
   intro j u cc Ap sT;rw[ahw]at Ap;rw[ahx]at sT;split at Ap
   ·rename_i hj;rw[if_pos hj]at sT;grind[uC]
   grind) hf hc
 subst yU;have dx:∀(xs:List (List V)) (qd:∀x∈xs,x.length=k) (i j:Nat) (x:List V) (y:V),xs[i]?=some x->x[j]?=some y->xs.flatten[i *k+j]?=some y:=by
  intro xs
  induction xs with
  | nil=>simp
  | cons x0 xs ih=>
    intro qd i j x y hx hy;have h0:x0.length=k:=qd x0 (by simp);rw[arz,aq8];cases i with
    | zero=>
      grind
    | succ i=>
      grind
 have mL:∀(xs:List (List V)),(∀x∈xs,x.length=k)->xs.flatten.length=xs.length *k:=by
  intro xs
  induction xs with
  | nil=>simp
  | cons x0 xs ih=>grind
 have rN:=hZ.alloc w (.cells iM e);have FK:len<=maxLen:=by
  have h1:len *1<=len *k:=Nat.mul_le_mul_left _ hk;grind[maxLen]
 refine⟨.slice (some ⟨w.heap.size,0,none⟩) len len,w.alloc (.cells iM e),?_,rN,hx,rfl,λh hn=>?_⟩
 rotate_left
 ·refine .inr ⟨w.heap.size,0,len,iM,by rw[Ar],heap_alloc_new w _,by omega,FK,by grind,λi x cy=>qd x (apT cy),?_,?_⟩
  ·grind
  ·intro i j x y u cy hy Ap;rw[aqB]at Ap;exact(k4 _ u y Ap (dx xs qd i j x y cy hy)).mono ⟨rN.size,λb hb _=>rN.block b hb⟩ (C5 cO hx) (ss cO hn _)
 by_cases h0:len *k=0
 ·have NB:len=0:=by
   grind[Nat.mul_eq_zero]
  simp_all[Array.eq_empty_of_size_eq_zero,Instr.fill,madeCells,Array.range_zero',execOp,Instr.buildSlice,run_underlying,sizeOf,typeInfo,newRow]
 simp_all[run_buildSlice,madeCells,execOp,Sem.run_bind,Result.andThen_ok]
theorem QN{dst}{t}{len}{ps}{ty}{pos}{after}{guard}{h k by_}{e}{z}{r}{c}{xs}
  (ht:kQ P t=some (e,k,by_,z)) (hk:0<k) (hn:h∉keys s.L) (hlen:len *k<=2^24)
  (hf:tI (λi=>some (i *k,k)) (List.replicate len (z.map λx=>V.d (.v x))).flatten (ps.toList.map λp=>(p.1,s.ev p.2))=some (r,c)) (hc:c)
  (yU:r=xs.flatten) (Ar:xs.length=len) (qd:∀x∈xs,x.length=k):
  rq P n ⟨dst,.buildSlice t len ps,ty,pos,after,guard⟩ s (λx s'=>x= .rv h/\s'={s with L:=(h,.row e k xs)::s.L}):=by
 intro fo m a w g;obtain⟨v,w',h1,h2,h3,h4,h5⟩:=Aq ht hk hlen hf hc yU Ar qd g.inv (λo _=>cj g o);obtain⟨g',st⟩:=g.new h2 hn h3 (h5 h hn);exact⟨_,v,w',_,_,_,h1,.inl rfl,⟨rfl,rfl⟩,.rv h _ (cn _ _) h4,g',st⟩
theorem Ul{dst}{t}{ao xo}{ty}{pos}{after}{guard}{h k k' i j}{g0}{e}{cs}{xs}
  (ht:gz P t=some (g0,k)) (ha:s.ev ao= .ep h k' i j) (hl:s.L.lookup h=some (.row e k' xs)) (hc:(s.ev xo).cl=some cs) (hk:cs.length=k) (hi:i<xs.length) (hj:j+k<=k'):
  rq P n ⟨dst,.store t ao xo,ty,pos,after,guard⟩ s (λx s'=>x= .any/\s'={s with L:=aH.jK s.L h (.row e k' (xs.set i (putAt j cs (xs[i]?.getD []))))}):=by
 intro fo m a w g;have hr:=cj g xo;have Xm:=cj g ao;rw[ha]at Xm;obtain⟨h1,h2,h3⟩:=Bh hr hc;obtain⟨b,off,cap,cur,hm,mM,lN,pA,dW,hlen,kP,nF,fC⟩:=qb g.inv (dD hl) (by omega);obtain⟨b',o,n',c',e',hp⟩:=C2 Xm;rw[hm]at e';simp only[akC,Value.slice.injEq,Addr.mk.injEq]at e';obtain⟨⟨rfl,rfl,_⟩,rfl,rfl⟩:=e';subst hk;have ke:xs[i]?=some xs[i]:=anc hi;have Xp:=hlen i _ ke;have iY:(i+1) *k'<=cap *k':=aqb _ (by omega);rw[aqV,ark]at iY;have bx:=run_storeCells_at P b (off+i *k'+j) e (a.eval xo).cells.toList 0 cur w mM (by grind) h2;obtain⟨_,an4⟩:=p8 ht w;have ac4:(a.eval xo).cells.toList.length=cs.length:=by omega
 simp only [aqS,ac4]at bx;obtain⟨g',st⟩:=g.jK hm (b:=b) rfl (lO w b (cur.toList.take (off+i *k'+j)++(a.eval xo).cells.toList++cur.toList.drop (off+i *k'+j+cs.length)).toArray)
   (r:= .row e k' (xs.set i (putAt j cs (xs[i]?.getD [])))) (by
  have bn:=λq=>jf cur.toList (a.eval xo).cells.toList (off+i *k'+j) (by grind) q
  have zP:=λq=>jf xs[i] cs j (by omega) q
  rw[ac4]at bn;have cN:bK w (OO fo m) (w.setRow b (cur.toList.take (off+i *k'+j)++(a.eval xo).cells.toList++cur.toList.drop (off+i *k'+j+cs.length)).toArray):=
   ⟨(lO w b _).size,λc sT ho=>(lO w b _).block c sT (λe=>ho (.inl ⟨h,_,hm,by simp[df,jU,e]⟩))⟩
  refine .inr ⟨b,off,cap,_,by simp,setRow_heap w b cur _ e _ mM,by grind,pA,?_,?_,?_,?_⟩
  ·grind
  ·grind[Option.some.injEq,xO]
  ·grind
  ·intro p q x y u hx hy hu;rw[aqJ,bn]at hu;refine az.mono cN (λ_ _ h=>h) (λ_ _ h=>h) ?_;rw[asb]at hx;split at hx
   ·rename_i Sd;subst Sd;simp only[akC]at hx;subst hx;rw[ke]at hy;simp only[aqF]at hy;unfold putAt at hy;rw[zP]at hy;split at hu
    ·grind
    ·rename_i hq;rw[if_neg (by omega)]at hy;grind
   ·rename_i Sd;have lP:=(apQ.1 hx).1;have hqk:q<k':=by grind
    have bU:¬(off+i *k'+j<=off+p *k'+q/\off+p *k'+q<off+i *k'+j+cs.length):=by
     rintro⟨q1,q2⟩;rcases Nat.lt_or_gt_of_ne Sd with ay|ay
     ·have:=aqb k' (show i+1<=p by omega);grind
     ·have:=aqb k' (show p+1<=i by omega);grind
    grind)
 refine⟨.skip,undef,_,_,.any,_,?_,.inr ⟨rfl,rfl⟩,⟨rfl,rfl⟩,.any _,g',st⟩;simp_all[execOp,Instr.storeAt,Instr.sureAddr,storeVar]
end
section
variable {P : Program} {w w' : World} {fo : FO} {m m' : Nat -> Option Value} {L : aH} {n : Nat} {s : St} {a : Act}
structure Src(P:Program) (k:Nat) (x:Value) (N:Nat) (news:List Value) (w:World):Prop where
 len:news.length=N *k
 one:∀u∈news,u.oneCell'=true
 run:∀w',w'.heap=w.heap->(Builtin.lenOf x).run P w'= .ok N w'/\(Builtin.firstCells k N x).run P w'= .ok news.toArray w'
theorem GI{t t2 ty e}{d2}{i}{k}{x}{N}{news}(ht:P.underlying t=some (.slice e))(rO:P.underlying t2=some d2)(kB:(∃e2,d2= .slice e2)∨d2= .string)(hi:P.info? e=some i)(hk:i.size=k)
  (src:Src P k x N news w) {b off sLen sCap cur} (hg:w.heap[b]?=some (.cells cur e (0,0))) (HT:sLen+N<=sCap) (ey:off+sLen *k+news.length<=cur.size):
  (Builtin.append_ #[t,t2] ty #[.slice (some ⟨b,off,none⟩) sLen sCap,x]).run P w=
   .ok (.slice (some ⟨b,off,none⟩) (sLen+N) sCap) (w.setRow b (cur.toList.take (off+sLen *k)++news++cur.toList.drop (off+sLen *k+news.length)).toArray):=by
 obtain⟨h1,h2⟩:=src.run w rfl;have bx:=run_storeCells_at P b (off+sLen *k) e news 0 cur w hg (by omega) src.one;rcases kB with⟨e2,rfl⟩|rfl<;>simp[Builtin.append_,run_underlying ht,run_underlying rO,sizeOf,typeInfo,hi,hk,h1,h2,HT,Addr.add_lit,bx]
theorem su{t t2 ty e}{d2}{i}{z}{k}{x}{N}{news olds}{ao}{sLen sCap}(ht:P.underlying t=some (.slice e))(rO:P.underlying t2=some d2)(kB:(∃e2,d2= .slice e2)∨d2= .string)(hi:P.info? e=some i)(hk:i.size=k)
  (hz:i.zero=some z) (src:Src P k x N news w) (hold:Src P k (.slice ao sLen sCap) sLen olds w)
  (hg:sCap<sLen+N) (h63:((sLen+N:Nat):Int)<=9223372036854775807) (ey:Builtin.nextslicecap (sLen+N) sCap *i.bytes<=281474976710656):
  (Builtin.append_ #[t,t2] ty #[.slice ao sLen sCap,x]).run P w=
   .ok (.slice (some ⟨w.heap.size,0,none⟩) (sLen+N) (grownCap w (sLen+N) sCap e))
    (w.drew.alloc (.cells (olds.toArray++news.toArray++Builtin.zeroCells z.cells (grownCap w (sLen+N) sCap e-(sLen+N))) e)):=by
 obtain⟨h1,_⟩:=src.run w rfl;obtain⟨_,h2⟩:=src.run w.drew rfl;obtain⟨_,h3⟩:=hold.run w.drew rfl;have hn:=by omega
 have aaC:=by omega
 have aja:=by omega
 all_goals
   (simp[Builtin.append_,run_underlying ht,run_underlying rO,sizeOf,typeInfo,zeroValue,hi,hk,hz,h1,hn,aaC,aja,Question.forced,h2,h3,newRow,grownCap]
    grind)
def GJ(L:aH)(x:V):Option (List (List V)):=
 match x with
 | .d (.sl ys)=>some (dd ys)
 | .d (.v (.slice none 0 0))=>some []
 | .d (.v (.string s))=>some (dd (s.data.toList.map λb=> [.v (.int .u8 (b.toNat:Nat))]))
 | .rv h=>match L.lookup h with
   | some (.row _ _ xs)=>some xs
   | _=>none
 | _=>none
theorem Src.GK{k N cap}{b off}{news}(hlen:news.length=N *k)(kP:∀u∈news,u.oneCell'=true)
  (hc:∀(j:Nat) (u:Value),news[j]?=some u->w.cell? ⟨b,off+j,none⟩=some u):Src P k (.slice (some ⟨b,off,none⟩) N cap) N news w:=by
 refine⟨hlen,kP,λw' hw=>⟨rfl,run_firstCells_some w' k N ⟨b,off,none⟩ N cap news hlen λj v hv=>?_⟩⟩;simp_all[Addr.add_lit,World.cell?]
theorem Src.Um{k cap}:Src P k (.slice none 0 cap) 0 [] w:=⟨by simp,by simp,λw' _=>⟨rfl,by rfl⟩⟩
theorem Src.empty{k cap ao}:Src P k (.slice ao 0 cap) 0 [] w:=by
 refine⟨by simp,by simp,λw' _=>⟨rfl,?_⟩⟩;cases ao<;>simp[Builtin.firstCells,loadCells,loadCellsFrom]
theorem flat_get{α:Type}{k}:∀(xs:List (List α)),(∀x∈xs,x.length=k)->∀q,0<k->xs.flatten[q]?=(xs[q / k]?.bind λx=>x[q % k]?)
 | [],_,q,_=>by simp
 | x0::xs,qd,q,hk=>by
   have h0:=qd x0 (by simp);rw[arz,aq8,h0];split
   ·rename_i hq;rw[Nat.div_eq_of_lt hq,arF hq];simp
   ·rw[flat_get xs (λx hx=>qd x (by simp[hx])) (q-k) hk];have e1:q / k=(q-k) / k+1:=by
     rw[Nat.div_eq_sub_div hk (by omega)]
    rw[e1,<-Nat.mod_eq_sub_mod (by omega)];simp
theorem NC{α:Type}{k}:∀(xs:List (List α)),(∀x∈xs,x.length=k)->xs.flatten.length=xs.length *k
 | [],_=>by simp
 | x0::xs,qd=>by rw[arz,apX,NC xs (λx hx=>qd x (by simp[hx])),qd x0 (by simp),apY,aqV];omega
theorem C7(s:ByteArray):s.data.toList.length=s.size:=by rfl
theorem Bi(hi:Inv fo m L w){x}{y}{ys}{k}(hr:az w (OO fo m) m x y)(h:GJ L y=some ys)(hk:0 < k)(vt:∀z∈ys,z.length=k):
  ∃news,Src P k x ys.length news w/\∀(j:Nat) u c,news[j]?=some u->ys.flatten[j]?=some c->az w (OO fo m) m u c:=by
 unfold GJ at h;split at h
 ·rename_i zs;simp only[akC]at h;subst h;obtain⟨ao,cap,rfl,lN,pA,k',b,off,f,ha,pL,hc,hrr⟩:=hr.lg.oT;by_cases h0:zs=[]
  ·subst h0;exact⟨[],by simp[dd,Src.empty],by simp⟩
  ·have iX:0<zs.length:=aqz.2 h0;obtain⟨rfl,hO,ay⟩:=ha iX;have sR:k'=k:=by
    have h1:=pL 0 _ (anc iX);have h2:=vt (zs[0].map V.d) (by unfold dd;exact apV.2 ⟨_,ap1 iX,rfl⟩);rw[<-h1,<-h2];simp
   subst sR;have hlen:(dd zs).length=zs.length:=by simp[dd]
   refine⟨(List.range (zs.length *k')).map λq=>f (q / k') (q % k'),?_,?_⟩
   ·rw[hlen];refine Src.GK (by simp) ?_ ?_
    ·intro u hu;obtain⟨q,hq,rfl⟩:=apV.1 hu;simp at hq;have h1:q / k'<zs.length:=Nat.div_lt_of_lt_mul (by grind);have h2:q % k'<k':=Nat.mod_lt _ hk;have hg:=anc h1;have:=pL _ _ hg;exact xL (hrr _ _ _ _ hg (anc (by omega)))
    ·intro j u hu;rw[apS]at hu;obtain⟨q,hq,rfl⟩:=apN.1 hu;grind[List.getElem?_eq_some_iff,Nat.div_lt_of_lt_mul,Nat.mul_comm,Nat.mod_lt,Nat.add_assoc,Nat.div_add_mod]
   ·intro j u c hu tH;rw[apS]at hu;obtain⟨q,hq,rfl⟩:=apN.1 hu;obtain⟨hj,C8⟩:=apQ.1 hq;simp at C8;subst C8;rw[flat_get _ vt _ hk]at tH;obtain⟨z,hz,uv⟩:=aqA.1 tH;unfold dd at hz;rw[apS]at hz;obtain⟨z0,hz0,rfl⟩:=apN.1 hz;rw[apS]at uv;obtain⟨d0,CD,rfl⟩:=apN.1 uv;exact .d _ _ (hrr _ _ _ _ hz0 CD)
 ·simp only[akC]at h;subst h;rw[hr.cq];exact⟨[],Src.Um,by simp⟩
 ·rename_i s;simp only[akC]at h;subst h;rw[hr.cq];have nu:k=1\/s.size=0:=by
   cases hl:s.data.toList with
   | nil=>grind[C7]
   | cons b l=>
     simp_all[dd]
  have hlen:(dd (s.data.toList.map λb=> [D.v (.int .u8 (b.toNat:Nat))])).length=s.size:=by simp[C7,dd,aqg]
  refine⟨s.data.toList.map λb=> .int .u8 (b.toNat:Nat),?_,?_⟩
  ·rw[hlen];refine⟨?_,?_,?_⟩
   ·rw[aqg,C7];grind
   ·intro u hu;obtain⟨b,_,rfl⟩:=apV.1 hu;rfl
   ·intro w' _;refine⟨rfl,?_⟩;simp only[Builtin.firstCells,Sem.run_pure];congr 1;grind[Array.ext',ByteArray.extract_zero_size,Array.toList_map]
  ·intro j u c hu hc;rw[apS]at hu;obtain⟨b,hb,rfl⟩:=apN.1 hu;have mL:(dd (s.data.toList.map λb=> [D.v (.int .u8 (b.toNat:Nat))])).flatten=s.data.toList.map λb=>V.d (.v (.int .u8 (b.toNat:Nat))):=by
    unfold dd;rw[arc]
    induction s.data.toList with
    | nil=>rfl
    | cons b l ih=>grind
   rw[mL,apS,hb]at hc;simp only[aqe,akC]at hc;subst hc;exact lh _ _
 ·rename_i h';split at h
  ·rename_i ty k' xs hl;simp only[akC]at h;subst h;by_cases h0:xs=[]
   ·subst h0;obtain⟨ao,cap,_,rfl⟩:=Nt hi hl hr;exact⟨[],Src.empty,by simp⟩
   ·have iX:0<xs.length:=aqz.2 h0;obtain⟨b,off,cap,cur,hm,mM,lN,pA,dW,hlen,kP,nF,fC⟩:=qb hi (dD hl) iX;have:=C3 hr;rw[hm]at this;obtain rfl:=apO this;have sR:k'=k:=by
     have h1:=hlen 0 _ (anc iX);grind
    subst sR;have iY:xs.length *k'<=cap *k':=aqb _ lN;have C4:∀q,q<xs.length *k'->cur[off+q]?=some (cur.getD (off+q) undef):=λq hq=>by simp[Array.getD,show off+q<cur.size by omega]
    refine⟨(List.range (xs.length *k')).map λq=>cur.getD (off+q) undef,Src.GK (by simp) ?_ ?_,?_⟩
    ·grind
    ·grind
    ·intro j u c hu tH;rw[apS]at hu;obtain⟨q,hq,rfl⟩:=apN.1 hu;obtain⟨hj,C8⟩:=apQ.1 hq;simp at C8 hj;subst C8;rw[flat_get _ vt _ hk]at tH;grind[Option.bind_eq_some_iff,Nat.add_assoc,Nat.mul_comm,Nat.div_add_mod]
  grind
 grind
theorem MH{z}{N q:Nat}{u}(h:(Builtin.zeroCells z N)[q]?=some u):∃p:Nat,z[p]?=some u:=by
 unfold Builtin.zeroCells at h;rw[Array.getElem?_map]at h;obtain⟨r,hr,rfl⟩:=apN.1 h;have hz:0<z.size:=by
  grind
 have hm:r % z.size<z.size:=Nat.mod_lt _ hz;exact⟨r % z.size,by grind⟩
theorem zQ{O}{e}{k}{zv:Value}{z}{olds news:List Value}{xs ys}{cap}(og:zv.cells.toList=z)(wo:zv.cells.size=k)(kP:∀x∈z,x.oneCell'=true)(hk:0 < k)
  (ho:olds.length=xs.length *k) (FL:news.length=ys.length *k) (C9:∀u∈olds,u.oneCell'=true) (rP:∀u∈news,u.oneCell'=true) (qd:∀x∈xs,x.length=k) (hyk:∀x∈ys,x.length=k)
  (Se:∀(j:Nat) (u:Value) (c:V),olds[j]?=some u->xs.flatten[j]?=some c->az w O m u c) (FM:∀(j:Nat) (u:Value) (c:V),news[j]?=some u->ys.flatten[j]?=some c->az w O m u c)
  (bR:xs.length+ys.length<=cap) (vr:cap<=maxLen) {w0:World} {fr} (mM:fr.heap[w0.heap.size]?=some (.cells (olds.toArray++news.toArray++Builtin.zeroCells zv.cells (cap-(xs.length+ys.length))) e (0,0)))
  {O' m'} (ac2:∀u c,az w O m u c->az fr O' m' u c):
  (aV.row e k (xs++ys)).Holds fr O' m' (.slice (some ⟨w0.heap.size,0,none⟩) (xs.length+ys.length) cap):=by
 have ND:∀x∈xs++ys,x.length=k:=by
  grind
 refine .inr ⟨w0.heap.size,0,cap,_,by simp,mM,by grind,vr,?_,λi x hx=>ND x (apT hx),?_,?_⟩
 ·simp only[Array.size_append,List.size_toArray,size_zeroCells,wo,ho,FL,<-aqV,aqB];grind
 ·grind[List.mem_of_getElem?,MH]
 ·intro i j x y u hx hy hu;rw[aqB]at hu;have hj:j<k:=by grind
  have hi:=(apQ.1 hx).1;simp at hi;have hb:(i+1) *k<=(xs.length+ys.length) *k:=aqb _ (by omega);have mL:(xs++ys).flatten[i *k+j]?=some y:=by
   rw[flat_get _ ND _ hk,Nat.mul_comm i k,Nat.mul_add_div hk,Nat.div_eq_of_lt hj,aqS,hx,Nat.mul_add_mod,arF hj];exact hy
  rw[List.flatten_append,aq8,NC _ qd]at mL;grind
def se(P:Program)(t:TypeId):Bool:=
 match P.underlying t with
 | some (.slice _)=>true
 | some .string=>true
 | _=>false
theorem Bj{t}(h:se P t=true):∃d2,P.underlying t=some d2/\((∃e2,d2= .slice e2)\/d2= .string):=by
 unfold se at h;grind
theorem Da{N by_}(hb:0<by_)(h:N *by_<=140737488355328):N<=maxLen:=by
 have h1:N *1<=N *by_:=Nat.mul_le_mul_left _ hb;grind[maxLen]
theorem adK{dst:Option Tmp}{t t2:TypeId}{so xo:Operand}{ty:TypeId}{pos:String}{after:Array Edge}{guard:Option (Nat×Bool)}{h k by_:Nat}{e e':TypeId}{z:List Value}{xs ys:List (List V)}
  (ht:kQ P t=some (e,k,by_,z)) (rO:se P t2=true) (hs:s.ev so= .rv h) (hl:s.L.lookup h=some (.row e' k xs)) (he:e'=e) (hx:GJ s.L (s.ev xo)=some ys) (hk:0<k/\0<by_) (vt:∀y∈ys,y.length=k)
  (hb:(xs.length+ys.length) *by_<=140737488355328):
  rq P n ⟨dst,.call {callee:= .builtin .append,args:= #[so,xo],argTypes:= #[t,t2]},ty,pos,after,guard⟩ s
   (λx s'=>x= .rv h/\s'=⟨(s.kill h).fr,aH.jK (s.kill h).L h (.row e k ((xs++ys).map (V.dR h)))⟩):=by
 intro fo m a w g;subst he;obtain⟨i,zv,hu,hi,hz,lj,vq,og,wo,kP⟩:=oe ht;obtain⟨d2,nM,kB⟩:=Bj rO;have NF:=cj g so;rw[hs]at NF;have wq:=cj g xo;obtain⟨news,src,FM⟩:=Bi (P:=P) g.inv wq hx hk.1 vt;have FK:xs.length+ys.length<=maxLen:=Da hk.2 hb;have sR:∀(l:List (List V)),(∀x∈l,x.length=k)->∀x∈l.map (V.dR h),x.length=k:=by
  intro l hl x hx;obtain⟨y,hy,rfl⟩:=apV.1 hx;rw[iF,aqg];exact hl y hy
 have ajb:∀(l:List (List V)),(l.map (V.dR h)).flatten=l.flatten.map (V.kill h):=by
  intro l
  induction l with
  | nil=>rfl
  | cons x l ih=>simp only[aqd,arz,ih,iF,aqM]
 have ac5:∀{us:List Value} {l:List (List V)} {v':Value},(∀(j:Nat) (u:Value) (c:V),us[j]?=some u→l.flatten[j]?=some c→az w (OO fo m) m u c)→
   ∀(j:Nat) (u:Value) (c:V),us[j]?=some u->(l.map (V.dR h)).flatten[j]?=some c->az w (OO fo m) (eZ m h v') u c:=by
  intro us l v' hh j u c hu hc;rw[ajb,apS]at hc;obtain⟨y,hy,rfl⟩:=apN.1 hc;exact(hh j u y hu hy).kill (λi x hi hx=>by rw[et v' hi];exact hx)
 obtain⟨sx,Sf,NG⟩:=g.inv.holds h _ (dD hl);have Db:=C3 NF;rw [Db]at Sf;obtain rfl:=apO Sf;have jG:∀{v':Value} {w':World},(Builtin.append_ #[t,t2] ty #[a.eval so,a.eval xo]).run P w= .ok v' w'→
   (execOp a.eval ⟨dst,.call {callee:= .builtin .append,args:= #[so,xo],argTypes:= #[t,t2]},ty,pos,after,guard⟩).run P w= .ok (.value v') w':=by
  intro v' w' hr;simp[execOp,resolve,invoke,builtin,hr]
 have grow:∀{ao:Option Addr} {cap:Nat} {olds:List Value},a.eval so= .slice ao xs.length cap→Src P k (.slice ao xs.length cap) xs.length olds w→
   (∀(j:Nat) (u:Value) (c:V),olds[j]?=some u->xs.flatten[j]?=some c->az w (OO fo m) m u c)->(∀x∈xs,x.length=k)->cap<xs.length+ys.length->
   ∃nx v w' m' x s',(execOp a.eval ⟨dst,.call {callee:= .builtin .append,args:= #[so,xo],argTypes:= #[t,t2]},ty,pos,after,guard⟩).run P w= .ok nx w'/\(nx= .value v\/(nx= .skip/\v=undef))/\
    (x=V.rv h/\s'=⟨(s.kill h).fr,aH.jK (s.kill h).L h (.row e' k ((xs++ys).map (V.dR h)))⟩)/\az w' (OO fo m') m' v x/\G fo n m' s' a w'/\Step w (own m) w' (own m'):=by
  intro ao cap olds lQ hold Se qd lN;have bq:=su (P:=P) (ty:=ty) hu nM kB hi lj hz src hold lN (by simp only[maxLen]at FK;omega) (by rw[vq];exact growslice_fits lN hb);have bR:=grownCap_ge w (xs.length+ys.length) cap e';have vr:=grownCap_le_maxLen w (xs.length+ys.length) cap e' FK;have yV:∀b,df (.slice (some ⟨w.heap.size,0,none⟩) (xs.length+ys.length) (grownCap w (xs.length+ys.length) cap e')) b->df (a.eval so) b\/w.heap.size<=b:=by
   intro b hb;simp[df,jU]at hb;right;omega
  have rN:=hZ.alloc w.drew (.cells (olds.toArray++news.toArray++Builtin.zeroCells zv.cells (grownCap w (xs.length+ys.length) cap e'-(xs.length+ys.length))) e');have hh:(aV.row e' k ((xs++ys).map (V.dR h))).Holds (w.drew.alloc (.cells (olds.toArray++news.toArray++Builtin.zeroCells zv.cells (grownCap w (xs.length+ys.length) cap e'-(xs.length+ys.length))) e'))
    (OO fo (eZ m h (.slice (some ⟨w.heap.size,0,none⟩) (xs.length+ys.length) (grownCap w (xs.length+ys.length) cap e')))) (eZ m h (.slice (some ⟨w.heap.size,0,none⟩) (xs.length+ys.length) (grownCap w (xs.length+ys.length) cap e')))
    (.slice (some ⟨w.heap.size,0,none⟩) (xs.length+ys.length) (grownCap w (xs.length+ys.length) cap e')):=by
   rw[aqM];have:=zQ (w:=w) (O:=OO fo m) (m:=eZ m h (.slice (some ⟨w.heap.size,0,none⟩) (xs.length+ys.length) (grownCap w (xs.length+ys.length) cap e'))) (e:=e') (k:=k) (zv:=zv) (z:=z) (olds:=olds) (news:=news)
    (xs:=xs.map (V.dR h)) (ys:=ys.map (V.dR h)) (cap:=grownCap w (xs.length+ys.length) cap e') og wo kP hk.1 (by rw[aqg];exact hold.len) (by rw[aqg];exact src.len) hold.one src.one (sR _ qd) (sR _ vt)
    (ac5 Se) (ac5 FM) (by simpa using bR) vr (w0:=w)
    (fr:=w.drew.alloc (.cells (olds.toArray++news.toArray++Builtin.zeroCells zv.cells (grownCap w (xs.length+ys.length) cap e'-(xs.length+ys.length))) e'))
    (by simpa using heap_alloc_new w.drew (.cells (olds.toArray++news.toArray++Builtin.zeroCells zv.cells (grownCap w (xs.length+ys.length) cap e'-(xs.length+ys.length))) e'))
    (O':=OO fo (eZ m h (.slice (some ⟨w.heap.size,0,none⟩) (xs.length+ys.length) (grownCap w (xs.length+ys.length) cap e'))))
    (m':=eZ m h (.slice (some ⟨w.heap.size,0,none⟩) (xs.length+ys.length) (grownCap w (xs.length+ys.length) cap e')))
    (λu c hu=>az.mono (w:=w) (O:=OO fo m) ⟨rN.size,λb hb _=>rN.block b hb⟩ (by
     rintro b hb (⟨p,y,hy,kW⟩|hf)
     ·by_cases FN:p=h
      ·subst FN;rw[cn]at hy;obtain rfl:=apO hy;simp[df,jU]at kW;omega
      ·rw[et _ FN]at hy;exact .inl ⟨p,y,hy,kW⟩
     ·exact .inr hf) (λ_ _ e=>e) hu)
   simpa using this
  obtain⟨g',st⟩:=g.change Db (by rfl) (by rfl) (by rfl) rN.size (λc hc _=>rN.block c hc) yV hh;rw[<-lQ]at bq;exact⟨_,_,_,_,_,_,jG bq,.inl rfl,⟨rfl,rfl⟩,.rv h _ (cn _ _) rfl,g',st⟩
 rcases NG with⟨xR,rfl⟩|⟨b,off,cap,cur,lQ,mM,lN,pA,dW,hlen,h1,fC⟩
 ·-- nil
  by_cases ry:ys=[]
  ·subst ry;have As:news=[]:=aqH (by simpa using src.len);subst As;have bq:(Builtin.append_ #[t,t2] ty #[a.eval so,a.eval xo]).run P w= .ok (.slice none 0 0) w:=by
    obtain⟨q1,q2⟩:=src.run w rfl;simp only[aqj]at q1 q2;rw[xR];rcases kB with⟨e2,rfl⟩|rfl<;>simp[Builtin.append_,run_underlying hu,run_underlying nM,sizeOf,typeInfo,hi,lj,q1,q2]
   obtain⟨g',st⟩:=g.change (w':=w) Db rfl rfl rfl (apU _) (λ_ _ _=>rfl) (v':= .slice none 0 0) (by intro b hb;simp[df,jU]at hb) (r':= .row e' k []) (.inl ⟨rfl,rfl⟩);exact⟨_,_,_,_,_,_,jG bq,.inl rfl,⟨rfl,by simp⟩,.rv h _ (cn _ _) rfl,g',st⟩
  ·exact grow (ao:=none) (cap:=0) (olds:=[]) (by simpa using xR) Src.Um (by simp) (by simp) (by have:=aqz.2 ry;simpa using this)
 ·have qd:∀x∈xs,x.length=k:=by
   intro x hx;obtain⟨j,hj,rfl⟩:=arp hx;exact hlen j _ (anc hj)
  have iY:xs.length *k<=cap *k:=aqb _ lN;have C4:∀q,q<xs.length *k->cur[off+q]?=some (cur.getD (off+q) undef):=λq hq=>by simp[Array.getD,show off+q<cur.size by omega]
  by_cases HT:xs.length+ys.length<=cap
  ·-- there is room
   have ajc:(xs.length+ys.length) *k<=cap *k:=aqb _ HT;rw[aqV]at ajc;have KW:=src.len;have bq:=GI (P:=P) (ty:=ty) hu nM kB hi lj src mM (off:=off) (sLen:=xs.length) (sCap:=cap) HT (by omega);rw[<-lQ]at bq;have bn:=λq=>jf cur.toList news (off+xs.length *k) (by simp;omega) q
   have wr:=lO w b (cur.toList.take (off+xs.length *k)++news++cur.toList.drop (off+xs.length *k+news.length)).toArray;have yV:∀b',df (.slice (some ⟨b,off,none⟩) (xs.length+ys.length) cap) b'->df (a.eval so) b'\/w.heap.size<=b':=by
    intro b' de;left;rw[lQ];exact de
   have hO:∀c,c<w.heap.size->OO fo (eZ m h (.slice (some ⟨b,off,none⟩) (xs.length+ys.length) cap)) c->OO fo m c:=by
    rintro c hc (⟨p,y,hy,kW⟩|hf)
    ·by_cases FN:p=h
     ·subst FN;rw[cn]at hy;obtain rfl:=apO hy;exact .inl ⟨p,_,Db,by rw[lQ];exact kW⟩
     ·rw[et _ FN]at hy;exact .inl ⟨p,y,hy,kW⟩
    ·exact .inr hf
   have cN:bK w (OO fo m) (w.setRow b (cur.toList.take (off+xs.length *k)++news++cur.toList.drop (off+xs.length *k+news.length)).toArray):=
    ⟨wr.size,λc hc ho=>wr.block c hc (λe=>ho (.inl ⟨h,_,Db,by rw[lQ];simp[df,jU,e]⟩))⟩
   have ND:∀x∈xs++ys,x.length=k:=by
    intro x hx;rcases ap9.1 hx with hx|hx
    ·exact qd x hx
    ·exact vt x hx
   have hh:(aV.row e' k ((xs++ys).map (V.dR h))).Holds (w.setRow b (cur.toList.take (off+xs.length *k)++news++cur.toList.drop (off+xs.length *k+news.length)).toArray)
     (OO fo (eZ m h (.slice (some ⟨b,off,none⟩) (xs.length+ys.length) cap))) (eZ m h (.slice (some ⟨b,off,none⟩) (xs.length+ys.length) cap)) (.slice (some ⟨b,off,none⟩) (xs.length+ys.length) cap):=by
    refine .inr ⟨b,off,cap,_,by simp,setRow_heap w b cur _ e' _ mM,by simpa using HT,pA,by simp;omega,?_,?_,?_⟩
    ·intro q x hx;exact sR _ ND x (apT hx)
    ·intro q u hu;rw[aqJ,bn]at hu;split at hu
     ·exact src.one u (apT hu)
     ·exact h1 q u (by rw[<-aqn];exact hu)
    ·intro p q x y u hx hy hu;rw[aqJ,bn]at hu;have hq:q<k:=by have:=(apQ.1 hy).1;have:=sR _ ND x (apT hx);omega
     rw[apS]at hx;obtain⟨x0,rz,rfl⟩:=apN.1 hx;rw[iF,apS]at hy;obtain⟨y0,ry,rfl⟩:=apN.1 hy;refine az.mono cN hO (λ_ _ e=>e) (az.kill (m:=m) (λi x hi hx=>by rw[et _ hi];exact hx) ?_);rw[aq8]at rz;split at rz
     ·rename_i hp;have:=aqb k (show p+1<=xs.length by omega);rw[aqV,ark]at this;rw[if_neg (by omega)]at hu;exact fC p q x0 y0 u rz ry (by rw[<-aqn];exact hu)
     ·rename_i hp;have lP:=(apQ.1 rz).1;have e1:p *k=xs.length *k+(p-xs.length) *k:=by rw[<-aqV];congr 1;omega
      have e2:=aqb k (show(p-xs.length)+1<=ys.length by omega);rw[aqV,ark]at e2;rw[if_pos (by omega),show off+p *k+q-(off+xs.length *k)=(p-xs.length) *k+q by omega]at hu;refine FM _ u y0 hu ?_;rw[flat_get _ vt _ hk.1,Nat.mul_comm _ k,Nat.mul_add_div hk.1,Nat.div_eq_of_lt hq,aqS,rz,Nat.mul_add_mod,arF hq];exact ry
   obtain⟨g',st⟩:=g.change Db wr.os wr.tape wr.output wr.size (λc hc bU=>wr.block c hc (λe=>bU (by rw[lQ,e];rfl))) yV hh;exact⟨_,_,_,_,_,_,jG bq,.inl rfl,⟨rfl,rfl⟩,.rv h _ (cn _ _) rfl,g',st⟩
  ·refine grow (ao:=some ⟨b,off,none⟩) (cap:=cap) (olds:=(List.range (xs.length *k)).map λq=>cur.getD (off+q) undef) lQ (Src.GK (by simp) ?_ ?_) ?_ qd (by omega)
   ·intro u hu;obtain⟨q,hq,rfl⟩:=apV.1 hu;simp at hq;exact h1 _ _ (C4 q hq)
   ·intro j u hu;rw[apS]at hu;obtain⟨q,hq,rfl⟩:=apN.1 hu;obtain⟨hj,C8⟩:=apQ.1 hq;simp at C8 hj;subst C8;simp only[World.cell?,mM];exact C4 j hj
   ·intro j u c hu tH;rw[apS]at hu;obtain⟨q,hq,rfl⟩:=apN.1 hu;obtain⟨hj,C8⟩:=apQ.1 hq;simp at C8 hj;subst C8;rw[flat_get _ qd _ hk.1]at tH;obtain⟨zz,Nr,uv⟩:=aqA.1 tH;refine fC (j / k) (j % k) zz c _ Nr uv ?_;rw[arK,Nat.mul_comm (j / k) k,Nat.div_add_mod];exact C4 j hj
end
inductive SK where
 | b
 | i (k:IntKind)
 | s
 deriving DecidableEq
def NH:Value->Value->Option Bool
 | .bool a,.bool b=>some (a==b)
 | .int k a,.int k' b=>if k=k' then some (a==b)else none
 | .string a,.string b=>some (a.toList==b.toList)
 | _,_=>none
def lR:List Value->List Value->Option Bool
 | [],[]=>some true
 | x::l,y::l'=>match NH x y,lR l l' with
   | some a,some b=>some (a&&b)
   | _,_=>none
 | _,_=>none
def NI:SK->Value->Bool
 | .b,.bool _=>true
 | .i k,.int k' _=>k==k'
 | .s,.string _=>true
 | _,_=>false
def fits:List SK->List Value->Bool
 | [],[]=>true
 | k::ks,x::l=>NI k x&&fits ks l
 | _,_=>false
def Au(P:Program)(k:TypeId->Option (List SK)):Nat->List Field->Option (List SK)
 | _,[]=>some []
 | o,f::fs=>match k f.type,Au P k (o+P.cellsOf f.type) fs with
   | some a,some b=>if f.name≠ "_" /\a.length=P.cellsOf f.type/\f.offset=o then some (a++b)else none
   | _,_=>none
def FP(P:Program):Nat->TypeId->Option (List SK)
 | 0,_=>none
 | m+1,t=>match P.underlying t with
   | some .bool=>some [.b]
   | some (.int k)=>some [.i k]
   | some .string=>some [.s]
   | some (.struct fs)=>if P.stoodInHeld t then none else Au P (FP P m) 0 fs.toList
   | _=>none
def valOf(P:Program)(t:TypeId)(xs:List Value):Value:=
 match P.underlying t with
 | some (.struct _)=> .agg xs.toArray
 | _=>xs.headD undef
section
variable {P : Program} {w : World}
theorem GL:∀{a b xs},fits (a++b) xs=true->fits a (xs.take a.length)=true/\fits b (xs.drop a.length)=true
 | [],b,xs,h=>⟨by rfl,by grind⟩
 | k::a,b,[],h=>by grind[fits]
 | k::a,b,x::xs,h=>by
   simp[fits]at h;obtain⟨h1,h2⟩:=GL h.2;exact⟨by simp[fits,h.1,h1],by simpa using h2⟩
theorem oy:∀{a xs},fits a xs=true->xs.length=a.length
 | [],[],_=>rfl
 | [],_::_,h=>by grind[fits]
 | _::_,[],h=>by grind[fits]
 | _::a,_::xs,h=>by simp[fits]at h;simp[oy h.2]
theorem HU:∀n xs ys {r},xs.length=ys.length->lR xs ys=some r->∃a b,lR (xs.take n) (ys.take n)=some a/\lR (xs.drop n) (ys.drop n)=some b/\r=(a&&b)
 | 0,xs,ys,r,_,h=>⟨true,r,by rfl,by grind,by simp⟩
 | n+1,[],[],r,_,h=>by grind
 | n+1,x::xs,y::ys,r,hl,h=>by
   rw[lR]at h;split at h
   ·rename_i a b h1 h2;obtain⟨c,e,h3,h4,rfl⟩:=HU n xs ys (by grind) h2;simp_all[lR,ar8]
   grind
 | n+1,[],_::_,r,hl,_=>by grind
 | n+1,_::_,[],r,hl,_=>by grind
theorem Xq{xs}(h:fits [.b] xs=true):∃a,xs=[.bool a]:=by
 cases xs with
 | nil=>grind[fits]
 | cons x l=>
   have hl:=oy h;have:l=[]:=by grind
   subst this;simp[fits]at h;cases x<;>simp[NI]at h
   simp
theorem Xr{k xs}(h:fits [.i k] xs=true):∃a,xs=[.int k a]:=by
 cases xs with
 | nil=>grind[fits]
 | cons x l=>
   have hl:=oy h;simp[fits]at h;cases x<;>simp[NI]at h
   grind
theorem Xs{xs}(h:fits [.s] xs=true):∃a,xs=[.string a]:=by
 cases xs with
 | nil=>grind[fits]
 | cons x l=>
   have hl:=oy h;have:l=[]:=by grind
   subst this;simp[fits]at h;cases x<;>simp[NI]at h
   simp
theorem Dc{m}{e}{ks}(hk:FP P m e=some ks){xs}{off}(hl:ks.length=P.cellsOf e)(hf:fits ks ((xs.toList.drop off).take ks.length)=true):
  (part e xs off).run P w= .ok (valOf P e ((xs.toList.drop off).take ks.length)) w:=by
 have hlen:=oy hf;cases m with
 | zero=>grind[FP]
 | succ m=>
   have one:(∀fs,P.underlying e≠some (.struct fs))->(∀n e',P.underlying e≠some (.array n e'))->ks.length=1->∀kd,P.underlying e=some kd->(part e xs off).run P w= .ok (valOf P e ((xs.toList.drop off).take ks.length)) w:=by
    intro h1 jy h2 kd hu;have hx:∃v,xs[off]?=some v/\(xs.toList.drop off).take 1=[v]:=by
     grind[List.length_take,List.length_drop,Array.getElem?_eq_getElem,List.take_one,List.head?_drop]
    obtain⟨v,hx,ht⟩:=hx;simp_all[valOf,part,isAgg,run_underlying]
   rw[FP]at hk;split at hk
   ·grind
   ·grind
   ·grind
   ·rename_i fs hu;obtain⟨i,hi⟩:=info_of_underlying hu;have hv:valOf P e ((xs.toList.drop off).take ks.length)= .agg ((xs.toList.drop off).take ks.length).toArray:=by
     simp_all[valOf]
    have dW:i.size=P.cellsOf e:=by simp[Program.cellsOf,hi]
    rw[hv];have he:xs.extract off (off+i.size)=((xs.toList.drop off).take ks.length).toArray:=by
     grind
    simp_all[part,isAgg,run_underlying,sizeOf,typeInfo]
   grind
theorem Dd{m d}(IH:∀(t:TypeId) (ks:List SK),FP P m t=some ks→∀(xs ys:List Value) (r:Bool),fits ks xs=true→fits ks ys=true→lR xs ys=some r→(Op.equalIn (d+m) t (valOf P t xs) (valOf P t ys)).run P w= .ok r w)
  {xs ys}:∀fs o ks,Au P (FP P m) o fs=some ks->fits ks (xs.toList.drop o)=true->fits ks (ys.toList.drop o)=true->∀r,lR (xs.toList.drop o) (ys.toList.drop o)=some r->
   (Op.eqFields (d+m) xs ys fs).run P w= .ok r w
 | [],o,ks,hk,hx,hy,r,hr=>by
   simp only[Au,akC]at hk;subst hk;have e1:=oy hx;have e2:=oy hy;rw[ap3.1 e1,ap3.1 e2]at hr;simp_all[lR,Op.eqFields]
 | f::fs,o,ks,hk,hx,hy,r,hr=>by
   rw[Au]at hk;split at hk
   ·rename_i a b ha hb;split at hk
    ·rename_i hc;obtain⟨hn,hl,ho⟩:=hc;simp only[akC]at hk;subst hk;obtain⟨x1,x2⟩:=GL hx;obtain⟨y1,y2⟩:=GL hy;obtain⟨ra,rb,r1,r2,rfl⟩:=HU a.length _ _ (by rw[oy hx,oy hy]) hr;subst ho;have p1:=Dc (w:=w) ha hl x1;have p2:=Dc (w:=w) ha hl y1;have e1:=IH f.type a ha _ _ ra x1 y1 r1;rw[aqW]at x2 y2 r2;rw[aqW]at r2;rw[hl]at x2 y2 r2;have e2:=Dd IH fs _ b hb x2 y2 rb r2;simp only[Op.eqFields,ne_eq,hn,not_false_eq_true,if_true,Sem.run_bind,p1,p2,Result.andThen_ok,e1];cases ra
     ·simp
     grind
    grind
   grind
theorem Sg:∀m d t ks,FP P m t=some ks→∀xs ys r,fits ks xs=true→fits ks ys=true→lR xs ys=some r→
  (Op.equalIn (d+m) t (valOf P t xs) (valOf P t ys)).run P w= .ok r w
 | 0,_,_,_,hk,_,_,_,_,_,_=>by grind[FP]
 | m+1,d,t,ks,hk,xs,ys,r,hx,hy,hr=>by
   rw[FP]at hk;split at hk
   ·simp only[akC]at hk;subst hk;obtain⟨a,rfl⟩:=Xq hx;obtain⟨b,rfl⟩:=Xq hy;simp only[lR,NH,Bool.and_true]at hr;grind[valOf,List.headD_cons,run_equalIn_bool']
   ·simp only[akC]at hk;subst hk;obtain⟨a,rfl⟩:=Xr hx;obtain⟨b,rfl⟩:=Xr hy;simp only[lR,NH,Bool.and_true]at hr;grind[valOf,List.headD_cons,run_equalIn_int]
   ·simp only[akC]at hk;subst hk;obtain⟨a,rfl⟩:=Xs hx;obtain⟨b,rfl⟩:=Xs hy;simp only[lR,NH,Bool.and_true]at hr;grind[valOf,List.headD_cons,run_equalIn_string]
   ·rename_i fs hu;split at hk
    ·cases hk
    ·rename_i bx;have FQ:P.fieldsOf t=fs:=by simp[Program.fieldsOf,hu]
     have:=run_equalIn_agg w (d+m) t xs.toArray ys.toArray (by rw[FQ];exact hu) (by simpa using bx);simp only[valOf,hu];rw[show d+(m+1)=(d+m)+1 by omega,this,FQ];exact Dd (λt ks hk xs ys r h1 h2 h3=>Sg m d t ks hk xs ys r h1 h2 h3) fs.toList 0 ks hk (by simpa using hx) (by simpa using hy) r (by simpa using hr)
   grind
def vT:List V->Option (List Value)
 | []=>some []
 | .d (.v x)::l=>match vT l with
   | some r=>some (x::r)
   | none=>none
 | _::_=>none
def NJ(P:Program)(t:TypeId):Option (List SK):=
 if P.eqGuardType P.depth t then none else match P.underlying t with
 | some (.struct _)=>FP P 12 t
 | _=>none
def JI(xs ys:List V):Option Bool:=
 match vT xs,vT ys with
 | some a,some b=>lR a b
 | _,_=>none
def wL(ks:List SK)(xs:List V):Bool:=
 match vT xs with
 | some a=>fits ks a
 | none=>false
def HV(P:Program)(op:BinOp)(t:TypeId)(x y:V):Option (V×Prop):=
 match op,x,y with
 | .eql,.agg xs,.agg ys=>match NJ P t,JI xs ys with
   | some ks,some r=>some (kz r,wL ks xs=true/\wL ks ys=true)
   | _,_=>none
 | .neq,.agg xs,.agg ys=>match NJ P t,JI xs ys with
   | some ks,some r=>some (kz (!r),wL ks xs=true/\wL ks ys=true)
   | _,_=>none
 | _,_,_=>none
theorem GN{O:Nat->Prop}{m:Nat->Option Value}:∀{cs:List V} {as:List Value} (vs:List Value),vT cs=some as->vs.length=cs.length->(∀(j:Nat) (x:Value) (y:V),vs[j]?=some x->cs[j]?=some y->az w O m x y)->vs=as
 | [],as,[],h,_,_=>by simp only[vT,akC]at h;exact h
 | [],_,_::_,_,hl,_=>by simp at hl
 | _::_,_,[],_,hl,_=>by simp at hl
 | c::cs,as,v::vs,h,hl,hr=>by
   have h0:=hr 0 v c rfl rfl;have ht:∀as',vT cs=some as'->vs=as':=λas' h'=>GN vs h' (by simpa using hl) (λj x y hx hy=>hr (j+1) x y (by simpa using hx) (by simpa using hy))
   cases c with
   | d y=>
     cases y with
     | v u=>
       simp only[vT]at h;split at h
       ·rename_i r tz;simp only[akC]at h;subst h;rw[h0.p6,ht r tz]
       ·cases h
     | _=>simp[vT]at h
   | _=>simp[vT]at h
theorem NK{fo:FO}{m:Nat→Option Value}{op:BinOp}{t:TypeId}{xo yo:Operand}{a b x:V}{c:Prop}(h:HV P op t a b=some (x,c))(hc:c){va vb:Value}(ha:az w (OO fo m) m va a)(hb:az w (OO fo m) m vb b):
  ∃v,(do eqGuard op t xo yo va vb;binOp op t va vb:Sem Value).run P w= .ok v w/\az w (OO fo m) m v x:=by
 have key:∀{xs ys:List V} {ks:List SK} {r:Bool},a= .agg xs→b= .agg ys→NJ P t=some ks→JI xs ys=some r→wL ks xs=true→wL ks ys=true→
   ∃us vs:Array Value,va= .agg us/\vb= .agg vs/\P.eqGuardType P.depth t=false/\(Op.equalIn 10000 t (.agg us) (.agg vs)).run P w= .ok r w:=by
  rintro xs ys ks r rfl rfl ht hr f1 f2;generalize e1:V.agg xs=A at ha;generalize e2:V.agg ys=B at hb;cases ha with
  | agg us cs hs h1 h2=>
    cases e1;cases hb with
    | agg vs jL hs' jy rQ=>
      cases e2;unfold NJ at ht;split at ht
      ·cases ht
      ·rename_i hg;split at ht
       ·rename_i fs hu;refine⟨us,vs,rfl,rfl,by simpa using hg,?_⟩;unfold JI at hr;unfold wL at f1 f2;split at hr
        ·rename_i as bs De de;rw[De]at f1;rw[de]at f2;have q1:=GN (w:=w) (O:=OO fo m) (m:=m) us.toList De (by simpa using hs) (λj x y hx hy=>h2 j x y (by simpa using hx) hy);have q2:=GN (w:=w) (O:=OO fo m) (m:=m) vs.toList de (by simpa using hs') (λj x y hx hy=>rQ j x y (by simpa using hx) hy);have:=Sg (P:=P) (w:=w) 12 9988 t ks ht as bs r f1 f2 hr;simp only[valOf,hu,<-q1,<-q2]at this;exact this
        ·cases hr
       ·cases ht
    | _=>cases e2
  | _=>cases e1
 unfold HV at h;split at h
 ·rename_i xs ys;split at h
  ·rename_i ks r hk hr;simp only[akC,apM]at h;obtain⟨rfl,rfl⟩:=h;obtain⟨us,vs,rfl,rfl,hg,he⟩:=key rfl rfl hk hr hc.1 hc.2;refine⟨.bool r,?_,nL _⟩;rw[Sem.run_bind,run_eqGuard_agg w _ _ _ _ _ _ hg];simp only[Result.andThen_ok,run_eql_struct,he]
  ·cases h
 ·rename_i xs ys;split at h
  ·rename_i ks r hk hr;simp only[akC,apM]at h;obtain⟨rfl,rfl⟩:=h;obtain⟨us,vs,rfl,rfl,hg,he⟩:=key rfl rfl hk hr hc.1 hc.2;refine⟨.bool (!r),?_,nL _⟩;rw[Sem.run_bind,run_eqGuard_agg w _ _ _ _ _ _ hg];simp only[Result.andThen_ok,run_neq_struct,he]
  ·cases h
 ·cases h
end
section
variable {P : Program} {w w' : World} {fo : FO} {m m' : Nat -> Option Value} {L : aH} {n : Nat} {s : St} {a : Act}
def ar(P:Program)(n:Nat)(ops:Array Oper)(l:List Oper)(s:St)(Q:AX->St->Prop):Prop:=
 ∀fo m0 w0 m a w,Step w0 (own m0) w (own m)->G fo n m s a w->wpListIn (wr fo.r) 0 P ops (fX fo n m0 w0 Q) l a w
theorem G.put(g:G fo n m s a w){dst:Option Tmp}(hd:∀d,dst=some d->d<n){v x}(hr:az w (OO fo m) m v x):G fo n m (s.put dst x) (a.put dst v) w:=by
 cases dst with
 | none=>exact g
 | some d=>
   refine⟨by simpa[Act.put]using g.size,?_,g.inv,g.defers⟩;intro t y hy;simp[St.put]at hy;rcases hy with⟨rfl,rfl⟩|hy
   ·have:(a.put (some t) v).tmps.getD t undef=v:=by
     have dW:=g.size;simp_all[Act.put]
    grind
   ·obtain⟨hy,bU⟩:=sr hy;obtain⟨h1,h2⟩:=g.fr t y hy;have Uj:d≠t:=λe=>bU e.symm
    simp_all[Act.put]
variable {ops : Array Oper} {Q : AX -> St -> Prop} {o : Oper} {rest : List Oper}
theorem ar.nil(h:Q .normal s):ar P n ops [] s Q:=λ_ _ _ m _ _ st g=> .of m .normal s h g trivial st
theorem sV{r}{Q'}{a}{w w'}{nx}{v}(hw:Region.wanted o (yielded ops a.tmps)=true)(bq:(execOp a.eval o).run P w= .ok nx w')
  (sS:nx= .value v\/(nx= .skip/\v=undef)) (h:wpListIn (wr r) 0 P ops Q' rest (a.put o.dst v) w'):wpListIn (wr r) 0 P ops Q' (o::rest) a w:=by
 unfold wpListIn;grind[xl]
theorem ar.lS{K}(hg:o.guard=none)(hd:∀d,o.dst=some d->d<n)(h:rq P n o s K)(k:∀x s',K x s'->ar P n ops rest (s'.put o.dst x) Q):ar P n ops (o::rest) s Q:=by
 intro fo m0 w0 m a w st g;obtain⟨nx,v,w',m',x,s',bq,sS,hK,hr,g',fJ⟩:=h fo m a w g;exact sV (by simp[Region.wanted,hg]) bq sS (k x s' hK fo m0 w0 m' _ w' (st.trans fJ) (g'.put hd hr))
theorem ar.quiet{x}(hg:o.guard=none)(hd:∀d,o.dst=some d->d<n)(h:Xi P o s.ev s.L x)(k:ar P n ops rest (s.put o.dst x) Q):ar P n ops (o::rest) s Q:=by
 intro fo m0 w0 m a w st g;obtain⟨v,bq,hr⟩:=h fo m a.eval w g.inv (λz _=>cj g z);exact sV (by simp[Region.wanted,hg]) bq (.inl rfl) (k fo m0 w0 m _ w st (g.put hd hr))
def Si(g:Bool)(x:V)(want:Bool):Option (Option Bool):=
 match g with
 | false=>some (some false)
 | true=>match x with
   | oD b=>some (some (b==want))
   | _=>none
@[simp] theorem aiD{x want}:Si false x want=some (some false):=rfl
@[simp] theorem ajd{g b want}:Si g (oD b) want=some (some (g&&(b==want))):=by cases g<;>simp[Si]
theorem NL{g want x r}(h:Si g x want=some r):(g=false/\r=some false)\/∃b,x=oD b/\r=some (g&&(b==want)):=by
 cases g with
 | false=>simp_all
 | true=>
   simp[Si]at h;grind
def gk(ops:Array Oper)(s:St)(o:Oper):Option (Option Bool):=
 match o.guard with
 | none=>some none
 | some (j,want)=>
   match(ops[j]?).bind (·.dst)with
   | some t=>match s.get t with
     | oD b=>some (some (b==want))
     | .gd g x=>Si g x want
     | _=>none
   | none=>none
theorem lB{ops o}(hg:gk ops s o=some none):o.guard=none:=by
 grind[gk,NL]
theorem qP(g:G fo n m s a w) t:az w (OO fo m) m (a.tmps.getD t undef) (s.get t):=cj g (.tmp t)
theorem QO{ops}{o:Oper}{j want t}(h:o.guard=some (j,want))(ht:(ops[j]?).bind (·.dst)=some t):t∈o.looksAt ops:=by
 simp_all[Oper.looksAt]
theorem sf{ops}{o:Oper}{s}{w}{fo}{m}{a:Act}(hs:∀t,t∈o.looksAt ops→az w (OO fo m) m (a.tmps.getD t undef) (s.get t)){b}(h:gk ops s o=some (some b)):
  Region.wanted o (yielded ops a.tmps)=b:=by
 unfold gk at h;split at h
 ·cases h
 ·rename_i j want hg;split at h
  ·rename_i t ht;have hr:=hs t (QO hg ht);have hy:∀b',a.tmps.getD t undef= .bool b'->Region.wanted o (yielded ops a.tmps)=(b'==want):=by
    intro b' de;have hs:a.tmps[t]?=some (.bool b'):=by
     simp only[aqN]at de;grind[undef]
    simp_all[Region.wanted,yielded,arf]
   split at h
   ·rename_i b' ke;simp only[akC]at h;subst h;rw[ke]at hr;exact hy b' hr.cq
   ·rename_i g0 x0 ke;rcases NL h with⟨rfl,hb⟩|⟨b',rfl,hb⟩
    ·simp only[akC]at hb;subst hb;rw[ke]at hr;generalize hv:a.tmps.getD t undef=v at hr;cases hr with
     | gf _=>
       have hs:yielded ops a.tmps j=none:=by
        simp only[yielded,ht,arf];simp only[aqN]at hv;cases hx:a.tmps[t]? with
        | none=>rfl
        | some x=>rw[hx]at hv;simp only[aqF]at hv;rw[hv];rfl
       simp_all[Region.wanted]
    ·simp only[akC]at hb;subst hb;rw[ke]at hr;generalize hv:a.tmps.getD t undef=v at hr;cases hr with
     | gt _ _ hr=>rw[hy b' (by rw[hv];exact hr.cq)];simp
     | gf _=>
       have hs:yielded ops a.tmps j=none:=by
        simp only[yielded,ht,arf];simp only[aqN]at hv;cases hx:a.tmps[t]? with
        | none=>rfl
        | some x=>rw[hx]at hv;simp only[aqF]at hv;rw[hv];rfl
       simp_all[Region.wanted]
   grind
  grind
theorem nN(g:G fo n m s a w){b:Bool}(h:gk ops s o=some (some b)):Region.wanted o (yielded ops a.tmps)=b:=sf (λt _=>qP g t) h
theorem ar.guarded{b}{x}(lD:gk ops s o=some (some b))(hd:∀d,o.dst=some d→d < n)
  (h:b=true->∃dm:Operand->V,(∀z,z∈o.op.operands->∀w O m v,az w O m v (s.ev z)->az w O m v (dm z))/\Xi P o dm s.L x) (k:ar P n ops rest (s.put o.dst (.gd b x)) Q):ar P n ops (o::rest) s Q:=by
 intro fo m0 w0 m a w st g;have hw:=nN g lD;cases b with
 | true=>
   obtain⟨dm,h1,h2⟩:=h rfl;obtain⟨v,bq,hr⟩:=h2 fo m a.eval w g.inv (λz hz=>h1 z hz _ _ _ _ (cj g z));exact sV hw bq (.inl rfl) (k fo m0 w0 m _ w st (g.put hd (.gt _ _ hr)))
 | false=>
   unfold wpListIn;rw[if_neg (by grind)];exact⟨λ_ _=>trivial,k fo m0 w0 m _ w st (g.put hd (.gf _))⟩
def Dj:Option V->Nat->Option (Nat×Prop)
 | none,d=>some (d,True)
 | some (.d (.v (.int _ l))),_=>some (l.toNat,0<=l)
 | _,_=>none
def HW(P:Program)(t:TypeId)(x:V)(lo hi:Option V):Option (V×Prop):=
 match x with
 | .d (.v (.string s))=>
   if tC P t then match Dj lo 0,Dj hi s.size with
    | some (l,c1),some (u,c2)=>some (Nn (s.extract l u),(c1/\c2)/\l<=u/\u<=s.size)
    | _,_=>none
   else none
 | .d (.sl xs)=>match nJ P t,Dj lo 0,Dj hi xs.length with
   | some (_,k),some (l,c1),some (u,c2)=>some (.d (.sl ((xs.take u).drop l)),((c1/\c2)/\l<=u/\u<=xs.length)/\∀x∈xs,x.length=k)
   | _,_,_=>none
 | _=>none
theorem HX{isSlice}{len C l u:Nat}{lo hi}(jz:(lo=none∧l=0)∨∃kl,lo=some (.int kl l))(KX:(hi=none∧u=len)∨∃ku,hi=some (.int ku u))(Xt:l≤u)(huC:u≤C):
  (Instr.sliceBounds isSlice len C lo hi none).run P w= .ok (l,u,C) w:=by
 rcases jz with⟨rfl,rfl⟩|⟨kl,rfl⟩<;>rcases KX with⟨rfl,rfl⟩|⟨ku,rfl⟩
 ·rfl
 ·simp[Instr.sliceBounds,Instr.sliceBound,asIntOf,huC]
 ·simp[Instr.sliceBounds,Instr.sliceBound,asIntOf,Xt]
 simp_all[Instr.sliceBounds,Instr.sliceBound,asIntOf]
theorem wM{z ρ}{dm:Operand->V}{d l c}(h:Dj (z.map dm) d=some (l,c))(hc:c)(hr:∀y,z=some y->az w (OO fo m) m (ρ y) (dm y)):(z.map ρ=none/\l=d)\/∃k,z.map ρ=some (.int k l):=by
 cases z with
 | none=>
   simp[Dj]at h;exact .inl ⟨rfl,h.1.symm⟩
 | some y=>
   have hy:=hr y rfl;simp at h;generalize dm y=v at h hy;unfold Dj at h;split at h
   ·grind
   ·rename_i k q h';simp at h';subst h';cases h;exact .inr ⟨k,by simp only[aqe];rw[hy.cq,arH hc]⟩
   grind
theorem NM{t}{xo}{lo hi}{ρ}{dm:Operand→V}{x}{c}(h:HW P t (dm xo) (lo.map dm) (hi.map dm)=some (x,c))(hc:c)
  (hx:az w (OO fo m) m (ρ xo) (dm xo)) (jz:∀y,lo=some y->az w (OO fo m) m (ρ y) (dm y)) (KX:∀y,hi=some y->az w (OO fo m) m (ρ y) (dm y)):
  ∃v,(Instr.sliceAt t (ρ xo) (lo.map ρ) (hi.map ρ) none).run P w= .ok v w/\az w (OO fo m) m v x:=by
 unfold HW at h;split at h
 ·rename_i s hs;rw[hs]at hx;split at h
  ·rename_i ht;split at h
   ·rename_i l c1 u c2 h1 h2;cases h;have hb:=HX (P:=P) (w:=w) (isSlice:=false) (C:=s.size) (wM h1 hc.1.1 jz) (wM h2 hc.1.2 KX) hc.2.1 hc.2.2;exact⟨_,by simp only[Instr.sliceAt,Instr.slice,Sem.run_bind,wJ ht w,Result.andThen_ok,hx.cq];simp[hb],Ue _⟩
   grind
  grind
 ·rename_i xs hs;rw[hs]at hx;split at h
  ·rename_i e k l c1 u c2 ht h1 h2;cases h;obtain⟨⟨⟨xS,xP⟩,Xt,hux⟩,hlen⟩:=hc;obtain⟨ao,cap,hv,lN,pA,k',b,off,f,ha,hk,Xu,fC⟩:=hx.lg.oT;obtain⟨HY,rO⟩:=ou ht w;have hb:=HX (P:=P) (w:=w) (isSlice:=true) (C:=cap) (wM h1 xS jz) (wM h2 xP KX) Xt (by omega);refine⟨_,by simp only[Instr.sliceAt,Instr.slice,Sem.run_bind,HY,rO,Result.andThen_ok,hv,hb];rfl,.d _ _ ?_⟩;have oU:((xs.take u).drop l).length=u-l:=by grind
   refine .sl _ _ _ _ k b (off+l *k) (λi j=>f (l+i) j) oU.symm (by omega) (by omega) ?_ ?_ ?_ ?_
   ·intro h0;obtain⟨e1,e2,e3⟩:=ha (by omega);rw[if_neg (by omega),e1];simp_all[Addr.add_lit]
   ·grind
   ·intro i j hi hj;have ay:l+i<xs.length:=by omega
    have sR:k'=k:=by rw[<-hk _ _ (anc ay)];grind
    grind
   grind
  grind
 grind
def Av(P:Program)(t:TypeId):Bool:=
 match P.underlying t with
 | some .bool=>true
 | _=>false
def EZ(P:Program)(op:BinOp)(t:TypeId)(x y:V):Option (V×Prop):=
 match op,x,y with
 | .eql,oD a,oD b=>if Av P t then some (kz (a==b),True)else none
 | .neq,oD a,oD b=>if Av P t then some (kz (!(a==b)),True)else none
 | _,_,_=>none
def JJ(ρ:Operand->V)(c:Call):Option (V×Prop):=
 match c.callee,c.args.toList with
 | .builtin .max,[x,y]=>match ρ x,ρ y with
   | .d (.v (.int k a)),.d (.v (.int _ b))=>some (jE k (if b > a then b else a),True)
   | _,_=>none
 | .builtin .min,[x,y]=>match ρ x,ρ y with
   | .d (.v (.int k a)),.d (.v (.int _ b))=>some (jE k (if b<a then b else a),True)
   | _,_=>none
 | _,_=>none
def Dk(P:Program)(t:TypeId):Bool:=
 match P.underlying t with
 | some (.interface _)=>false
 | some _=>true
 | none=>false
def GO:List V->Option (List D)
 | []=>some []
 | .d y::l=>match GO l with
   | some r=>some (y::r)
   | none=>none
 | _::_=>none
theorem JK:∀{l r},GO l=some r->l=r.map .d
 | [],r,h=>by simp_all[GO]
 | x::l,r,h=>by
   unfold GO at h;split at h
   ·rename_i heq;cases heq
   ·rename_i y l' heq;cases heq;split at h
    ·rename_i r' hr;simp at h;subst h;rw[JK hr];rfl
    ·cases h
   ·cases h
def Un(P:Program)(t:TypeId)(x:V):Option (V×Prop):=
 if Dk P t then match x with
  | .d (.v v)=>some (.d (.uu t false [.v v]),True)
  | .d (.sl xs)=>some (.d (.uu t false [.sl xs]),True)
  | .agg cs=>match GO cs with
    | some ds=>some (.d (.uu t true ds),True)
    | none=>none
  | _=>none
 else none
def MW(ag:Bool)(cs:List D):V:=if ag then .agg (cs.map .d)else match cs with
 | [y]=> .d y
 | _=> .any
def zeroV(P:Program)(t:TypeId):V:=match(P.info? t).bind (·.zero)with
 | some (.agg cs)=>if cs.all (·.oneCell')then .agg (cs.toList.map λx=> .d (.v x))else .any
 | some x=>if x.oneCell' then .d (.v x)else .any
 | none=> .any
def aaD(P:Program)(t:TypeId):Bool:=((P.info? t).bind (·.zero)).isSome
def MX(P:Program)(x:V)(a:TypeId)(ok:Bool):Option (V×Prop):=
 if Dk P a then match x with
  | .d (.uu t ag cs)=>if t=a then(if ok then some (.bM [MW ag cs,oD true],True)else some (MW ag cs,True))
    else if ok&&aaD P a then some (.bM [zeroV P a,oD false],True)else none
  | .d (.v .nilIface)=>if ok&&aaD P a then some (.bM [zeroV P a,oD false],True)else none
  | _=>none
 else none
def yW(P:Program)(t:TypeId):Bool:=
 match P.underlying t with
 | some (.interface _)=>true
 | _=>false
def Uo:Operand->Bool
 | .const _=>true
 | _=>false
def HZ(P:Program)(op:BinOp)(t:TypeId)(k:Bool)(x y:V):Option (V×Prop):=
 match op,x,y with
 | .eql,.d (.uu ..),.d (.v .nilIface)=>if yW P t then some (kz false,True)else none
 | .neq,.d (.uu ..),.d (.v .nilIface)=>if yW P t then some (kz true,True)else none
 | .eql,.d (.v .nilIface),.d (.v .nilIface)=>if yW P t&&k then some (kz true,True)else none
 | .neq,.d (.v .nilIface),.d (.v .nilIface)=>if yW P t&&k then some (kz false,True)else none
 | _,_,_=>none
def Up(P:Program)(ρ:Operand->V)(o:Oper):Option (V×Prop):=
 match o.op with
 | .build t ps=>HS P t (ps.toList.map λp=>(p.1,ρ p.2))
 | .binOp op t x y _=>match HV P op t (ρ x) (ρ y)with
   | some r=>some r
   | none=>match HZ P op t (Uo y) (ρ x) (ρ y)with
     | some r=>some r
     | none=>EZ P op t (ρ x) (ρ y)
 | .call c=>JJ ρ c
 | .slice t x lo hi none=>HW P t (ρ x) (lo.map ρ) (hi.map ρ)
 | .makeInterface t x=>Un P t (ρ x)
 | .typeAssert x _ a ok=>MX P (ρ x) a ok
 | _=>none
def q2(P:Program)(ρ:Operand->V)(L:aH)(o:Oper):Option (V×Prop):=
 match Up P ρ o with
 | some r=>some r
 | none=>q1 P ρ L o
theorem MI t a b(h:P.underlying t=some .bool):(binOp .neq t (.bool a) (.bool b)).run P w= .ok (.bool (!(a==b))) w:=by
 have h1:=run_eql_bool (w:=w) t a b h;simp[binOp]at h1⊢;generalize (Op.equal t (.bool a) (.bool b)).run P w=R at h1⊢;cases R with
 | ok u w'=>simp_all
 | _=>simp at h1
theorem MJ{op}{t}{xo yo}{a b x}{c}(h:EZ P op t a b=some (x,c)){va vb}(ha:az w (OO fo m) m va a)(hb:az w (OO fo m) m vb b):
  ∃v,(do eqGuard op t xo yo va vb;binOp op t va vb:Sem Value).run P w= .ok v w/\az w (OO fo m) m v x:=by
 unfold EZ at h;split at h
 ·obtain rfl:=ha.cq;obtain rfl:=hb.cq;split at h
  ·cases h;have hu:P.underlying t=some .bool:=by
    grind[Av]
   simp_all[eqGuard,run_eql_bool,nL]
  grind
 ·obtain rfl:=ha.cq;obtain rfl:=hb.cq;split at h
  ·cases h;have hu:P.underlying t=some .bool:=by
    grind[Av]
   simp_all[eqGuard,MI,nL]
  grind
 grind
theorem FR{t}(h:Dk P t=true) w:∃d,(underlying t).run P w= .ok d w/\∀ms,d≠ .interface ms:=by
 unfold Dk at h;split at h
 ·cases h
 ·simp_all[run_underlying]
 grind
theorem Uq{t}{a x}{c}(h:Un P t a=some (x,c)){va}(ha:az w (OO fo m) m va a):
  ∃v,(Instr.makeInterface t va).run P w= .ok v w/\az w (OO fo m) m v x:=by
 unfold Un at h;split at h
 ·rename_i ht;obtain⟨d,hd,Xv⟩:=FR ht w;have bq:(Instr.makeInterface t va).run P w= .ok (.iface t va) w:=by
   simp only[Instr.makeInterface,Sem.run_bind,hd,Result.andThen_ok]
   first
    | rfl
    | (· rfl)
  refine⟨_,bq,?_⟩;split at h
  ·cases h;have hr:=ha.lg;cases hr with
   | v _ h1=>exact .d _ _ (.Ng t _ _ h1 (.v _ h1))
  ·cases h;have hr:=ha.lg;obtain⟨a',cap,hv,-⟩:=hr.oT;subst hv;exact .d _ _ (.Ng t _ _ rfl hr)
  ·split at h
   ·rename_i ds Xw;cases h;rw[JK Xw]at ha;cases ha with
    | agg vs _ hs h1 hh=>
      refine .d _ _ (.T5 t vs ds (by grind) h1 (λj v y hv hy=>?_));have:=hh j v (.d y) hv (by grind);exact this.lg
   grind
  grind
 grind
theorem CE{t ms}(h:P.underlying t=some (.interface ms)) d u x:(Op.equalIn (d+1) t (.iface u x) .nilIface).run P w= .ok false w:=by
 simp[Op.equalIn,run_underlying h]
theorem CF{t ms}(h:P.underlying t=some (.interface ms)) d:(Op.equalIn (d+1) t .nilIface .nilIface).run P w= .ok true w:=by
 simp[Op.equalIn,run_underlying h]
theorem wN{t}(h:yW P t=true):∃ms,P.underlying t=some (.interface ms):=by
 grind[yW]
theorem JL{v t ag cs O}(h:eX w O v (.uu t ag cs)):∃u,v= .iface t u:=by
 cases h<;>exact⟨_,rfl⟩
theorem NN{op}{t}{xo yo}{a b x}{c}(h:HZ P op t (Uo yo) a b=some (x,c)){va vb}(ha:az w (OO fo m) m va a)(hb:az w (OO fo m) m vb b):
  ∃v,(do eqGuard op t xo yo va vb;binOp op t va vb:Sem Value).run P w= .ok v w/\az w (OO fo m) m v x:=by
 unfold HZ at h;split at h
 ·obtain rfl:=hb.cq;obtain⟨u,rfl⟩:=JL ha.lg;split at h
  ·rename_i ht;obtain⟨ms,hu⟩:=wN ht;cases h;have he:∀t',(Op.equal t (.iface t' u) .nilIface).run P w= .ok false w:=λt'=>CE hu 9999 t' u
   simp_all[eqGuard,binOp,nL]
  grind
 ·obtain rfl:=hb.cq;obtain⟨u,rfl⟩:=JL ha.lg;split at h
  ·rename_i ht;obtain⟨ms,hu⟩:=wN ht;cases h;have he:∀t',(Op.equal t (.iface t' u) .nilIface).run P w= .ok false w:=λt'=>CE hu 9999 t' u
   simp_all[eqGuard,binOp,nL]
  grind
 ·obtain rfl:=ha.cq;obtain rfl:=hb.cq;split at h
  ·rename_i ht;rw[apP]at ht;obtain⟨ht,hk⟩:=ht;obtain⟨cv,rfl⟩:∃cv,yo= .const cv:=by
    cases yo<;>first|exact⟨_,rfl⟩|cases hk
   obtain⟨ms,hu⟩:=wN ht;cases h;have he:(Op.equal t .nilIface .nilIface).run P w= .ok true w:=CF hu 9999;simp_all[eqGuard,pure,binOp,nL]
  grind
 ·obtain rfl:=ha.cq;obtain rfl:=hb.cq;split at h
  ·rename_i ht;rw[apP]at ht;obtain⟨ht,hk⟩:=ht;obtain⟨cv,rfl⟩:∃cv,yo= .const cv:=by
    cases yo<;>first|exact⟨_,rfl⟩|cases hk
   obtain⟨ms,hu⟩:=wN ht;cases h;have he:(Op.equal t .nilIface .nilIface).run P w= .ok true w:=CF hu 9999;simp_all[eqGuard,pure,binOp,nL]
  grind
 grind
theorem KY{a}(h:aaD P a=true):∃v,(zeroValue a).run P w= .ok v w/\az w (OO fo m) m v (zeroV P a):=by
 obtain⟨v,hv⟩:=aqI.1 h;obtain⟨i,hi,hz⟩:=aqA.1 hv;refine⟨v,by simp_all[zeroValue,typeInfo],?_⟩;unfold zeroV;rw[hv];split
 ·rename_i cs heq;cases heq;split
  ·rename_i bQ;rw[Array.all_eq_true']at bQ;refine .agg cs _ (by simp) (λj x hx=>bQ x (aq3 hx)) (λj x y hx hy=>?_);rw[apS,aqn,hx]at hy;simp at hy;subst hy;exact .d _ _ (.v _ (bQ x (aq3 hx)))
  ·exact .any _
 ·rename_i x hx heq;cases heq;split
  ·rename_i h1;exact .d _ _ (.v _ h1)
  ·exact .any _
 grind
theorem Xx{t ag cs v}(h:eX w (OO fo m) v (.uu t ag cs)):∃u,v= .iface t u/\az w (OO fo m) m u (MW ag cs):=by
 cases h with
 | Ng _ x y hx hr=>exact⟨x,rfl,.d _ _ hr⟩
 | T5 _ vs _ hs h1 hr=>
   refine⟨.agg vs,rfl,.agg vs _ (by grind) h1 (λj x y hx hy=>?_)⟩;rw[apS]at hy;obtain⟨y',nw,rfl⟩:=apN.1 hy;exact .d _ _ (hr j x y' hx nw)
theorem QP{xt a:TypeId}{ok:Bool}{y x:V}{c:Prop}(h:MX P y a ok=some (x,c)){va:Value}(ha:az w (OO fo m) m va y):
  ∃v,(Instr.typeAssert va xt a ok).run P w= .ok v w/\az w (OO fo m) m v x:=by
 unfold MX at h;split at h
 ·rename_i ht;obtain⟨d,hd,Xv⟩:=FR ht w;have bM:∀(u:Value) (z:V) (b:Bool),az w (OO fo m) m u z->az w (OO fo m) m (.tuple #[u,.bool b]) (.bM [z,oD b]):=λu z b hu=>by
   refine .bM _ _ rfl (λj x y hx hy=>?_)
   match j,hx,hy with
   | 0,hx,hy=>simp at hx hy;subst hx;subst hy;exact hu
   | 1,hx,hy=>simp at hx hy;subst hx;subst hy;exact nL _
  split at h
  ·rename_i t ag cs;obtain⟨u,rfl,hu⟩:=Xx ha.lg;split at h
   ·rename_i hta;split at h
    ·rename_i aS;subst aS;simp only[akC,apM]at h;obtain⟨rfl,_⟩:=h;refine⟨_,?_,bM u _ true hu⟩;cases d with
     | interface ms=>exact(Xv ms rfl).elim
     | _=>simp[Instr.typeAssert,hd,hta]
    ·rename_i aS;simp only[akC,apM]at h;obtain⟨rfl,_⟩:=h;refine⟨_,?_,hu⟩;cases d with
     | interface ms=>exact(Xv ms rfl).elim
     | _=>simp[Instr.typeAssert,hd,hta,aS]
   ·rename_i hta;split at h
    ·rename_i aS;rw[apP]at aS;obtain⟨rfl,hz⟩:=aS;obtain⟨z,Nr,uv⟩:=KY (w:=w) (fo:=fo) (m:=m) hz;simp only[akC,apM]at h;obtain⟨rfl,_⟩:=h;refine⟨_,?_,bM z _ false uv⟩;cases d with
     | interface ms=>exact(Xv ms rfl).elim
     | _=>simp[Instr.typeAssert,hd,hta,Nr]
    ·cases h
  ·obtain rfl:=ha.cq;split at h
   ·rename_i aS;rw[apP]at aS;obtain⟨rfl,hz⟩:=aS;obtain⟨z,Nr,uv⟩:=KY (w:=w) (fo:=fo) (m:=m) hz;simp only[akC,apM]at h;obtain⟨rfl,_⟩:=h;refine⟨_,?_,bM z _ false uv⟩;cases d with
    | interface ms=>exact(Xv ms rfl).elim
    | _=>simp[Instr.typeAssert,hd,Nr]
   ·cases h
  ·cases h
 ·cases h
theorem uD{dm o x c}(h:q2 P dm L o=some (x,c))(hc:c):Xi P o dm L x:=by
 unfold q2 at h;split at h
 ·rename_i r h';simp only[akC]at h;subst h;have h:=h';unfold Up at h;split at h
  ·rename_i t ps aP;intro fo m ρ w hi hr;obtain⟨v,h1,h2⟩:=NA (w:=w) (m:=m) (O:=OO fo m) (ps:=ps.map λp=>(p.1,ρ p.2)) (by simp) (by
    intro j p q hp hq;rw[aqn,Array.getElem?_map]at hp;obtain⟨y,hy,rfl⟩:=apN.1 hp;rw[apS,aqn,hy]at hq;simp only[aqe,akC]at hq;subst hq;refine⟨rfl,hr _ ?_⟩;rw[aP];simp only[Op.operands,asg,apV];grind) h hc
   simp_all[execOp]
  ·rename_i op t xo yo ty aP;intro fo m ρ w hi hr;have key:∃v,(do eqGuard op t xo yo (ρ xo) (ρ yo);binOp op t (ρ xo) (ρ yo):Sem Value).run P w= .ok v w/\az w (OO fo m) m v x:=by
    split at h
    ·rename_i r tz;simp only[akC]at h;subst h;exact NK (w:=w) (fo:=fo) (m:=m) (xo:=xo) (yo:=yo) tz hc (hr xo (by simp_all[Op.operands])) (hr yo (by simp_all[Op.operands]))
    ·split at h
     ·rename_i r tz;simp only[akC]at h;subst h;exact NN (w:=w) (fo:=fo) (m:=m) (xo:=xo) (yo:=yo) tz (hr xo (by simp_all[Op.operands])) (hr yo (by simp_all[Op.operands]))
     ·exact MJ (w:=w) (fo:=fo) (m:=m) (xo:=xo) (yo:=yo) h (hr xo (by simp_all[Op.operands])) (hr yo (by simp_all[Op.operands]))
   obtain⟨v,h1,h2⟩:=key;refine⟨v,?_,h2⟩;rw[Sem.run_bind]at h1;simp only[execOp,aP,Sem.run_bind];simp_all
  ·rename_i cl aP;intro fo m ρ w hi hr;obtain⟨callee,args,argTypes⟩:=cl;unfold JJ at h;split at h
   ·rename_i xo yo qc ow;simp only at qc ow;obtain rfl:args= #[xo,yo]:=by grind
    subst qc;have e1:=hr xo (by simp_all[Op.operands,Call.operands]);have e2:=hr yo (by simp_all[Op.operands,Call.operands]);split at h
    ·rename_i k a k' b ha hb;simp only[akC,apM]at h;obtain⟨rfl,rfl⟩:=h;rw[ha]at e1;rw[hb]at e2;exact⟨_,by simp[execOp,aP,resolve,invoke,builtin,e1.cq,e2.cq,run_max_int2,run_min_int2],lh _ _⟩
    grind
   ·rename_i xo yo qc ow;simp only at qc ow;obtain rfl:args= #[xo,yo]:=by grind
    subst qc;have e1:=hr xo (by simp_all[Op.operands,Call.operands]);have e2:=hr yo (by simp_all[Op.operands,Call.operands]);split at h
    ·rename_i k a k' b ha hb;simp only[akC,apM]at h;obtain⟨rfl,rfl⟩:=h;rw[ha]at e1;rw[hb]at e2;exact⟨_,by simp[execOp,aP,resolve,invoke,builtin,e1.cq,e2.cq,run_max_int2,run_min_int2],lh _ _⟩
    grind
   grind
  ·rename_i t xo lo hi aP;intro fo m ρ w ck hr;obtain⟨v,h1,h2⟩:=NM (w:=w) (fo:=fo) (m:=m) (ρ:=ρ) h hc (hr xo (by simp_all[Op.operands])) (λy hy=>hr y (by simp_all[Op.operands])) (λy hy=>hr y (by simp_all[Op.operands]));simp_all[execOp]
  ·rename_i t xo aP;intro fo m ρ w hi hr;obtain⟨v,h1,h2⟩:=Uq (w:=w) (fo:=fo) (m:=m) h (hr xo (by simp_all[Op.operands]));simp_all[execOp]
  ·rename_i xo xt a ok aP;intro fo m ρ w hi hr;obtain⟨v,h1,h2⟩:=QP (w:=w) (fo:=fo) (m:=m) (xt:=xt) h (hr xo (by simp_all[Op.operands]));simp_all[execOp]
  grind
 grind[aaz]
def E0(P:Program)(s:St)(t:TypeId)(ao xo:Operand):Option (V×St×Prop):=
 match gz P t,(s.ev xo).cl with
 | some (_,k),some cs=>
   match s.ev ao with
   | .bp h off=>match s.L.lookup h with
     | some (.box b KV dU)=>some (.any,{s with L:=aH.jK s.L h (.box b KV (putAt off cs dU))},cs.length=k/\off+k<=dU.length)
     | _=>none
   | .ep h k' i j=>match s.L.lookup h with
     | some (.row e HN xs)=>some (.any,{s with L:=aH.jK s.L h (.row e HN (xs.set i (if j=0/\k=HN then cs else putAt j cs (xs[i]?.getD []))))},(cs.length=k/\i<xs.length)/\j+k<=HN/\k'=HN)
     | _=>none
   | _=>none
 | _,_=>none
def H0(P:Program)(s:St)(h:Nat)(t:TypeId)(lo co:Operand):Option (V×St×Prop):=
 match kQ P t,s.ev lo,s.ev co with
 | some (e,k,by_,z),.d (.v (.int _ l)),.d (.v (.int _ c))=>
   some (.rv h,{s with L:=(h,.row e k (List.replicate l.toNat (z.map λx=> .d (.v x))))::s.L},(0<k/\h∉keys s.L)/\(0<=l/\l<=c)/\(c<=maxLen/\by_ *c.toNat<=140737488355328))
 | _,_,_=>none
def qQ(s:St):List (Nat×Operand)->Nat->Option (List (List V))
 | [],_=>some []
 | (i,x)::l,j=>if i=j then match(s.ev x).cl,qQ s l (j+1)with
   | some cs,some r=>some (cs::r)
   | _,_=>none
   else none
def Bk(P:Program)(s:St)(h0:Nat)(c:Call):Option (V×St×Prop):=
 match c.callee,c.args.toList,c.argTypes.toList with
 | .builtin .append,[so,xo],[t,t2]=>
   match kQ P t,GJ s.L (s.ev xo)with
   | some (e,k,by_,_),some ys=>
     if se P t2 then
      match s.ev so with
      | .rv h=>match s.L.lookup h with
        | some (.row e' k' xs)=>some (.rv h,⟨(s.kill h).fr,aH.jK (s.kill h).L h (.row e k ((xs++ys).map (V.dR h)))⟩,((e'=e/\k'=k)/\0<k/\0<by_)/\(∀y∈ys,y.length=k)/\(xs.length+ys.length) *by_<=140737488355328)
        | _=>none
      | .d (.v (.slice none 0 0))=>some (.rv h0,{s with L:=(h0,.row e k ys)::s.L},(0<k/\0<by_/\h0∉keys s.L)/\(∀y∈ys,y.length=k)/\ys.length *by_<=140737488355328)
      | _=>none
     else none
   | _,_=>none
 | _,_,_=>none
end
section
variable {P : Program} {w w' : World} {fo : FO} {m m' : Nat -> Option Value} {L : aH} {n : Nat} {s : St} {a : Act}
theorem hZ.refl w:hZ w w:=⟨rfl,rfl,rfl,apU _,λ_ _=>rfl⟩
theorem Ur{dst}{t t2}{so xo}{ty}{pos}{after}{guard}{h k by_}{e}{z}{ys}
  (ht:kQ P t=some (e,k,by_,z)) (rO:se P t2=true) (hs:s.ev so= .d (.v (.slice none 0 0))) (hn:h∉keys s.L) (hx:GJ s.L (s.ev xo)=some ys) (hk:0<k/\0<by_) (vt:∀y∈ys,y.length=k)
  (hb:ys.length *by_<=140737488355328):
  rq P n ⟨dst,.call {callee:= .builtin .append,args:= #[so,xo],argTypes:= #[t,t2]},ty,pos,after,guard⟩ s
   (λx s'=>x= .rv h/\s'={s with L:=(h,.row e k ys)::s.L}):=by
 intro fo m a w g;obtain⟨i,zv,hu,hi,hz,lj,vq,og,wo,kP⟩:=oe ht;obtain⟨d2,nM,kB⟩:=Bj rO;have lQ:=cj g so;rw [hs]at lQ;have xR:=lQ.cq;have wq:=cj g xo;obtain⟨news,src,FM⟩:=Bi (P:=P) g.inv wq hx hk.1 vt;have FK:ys.length≤maxLen:=Da hk.2 hb;have jG:∀{v':Value} {w':World},(Builtin.append_ #[t,t2] ty #[a.eval so,a.eval xo]).run P w= .ok v' w'→
   (execOp a.eval ⟨dst,.call {callee:= .builtin .append,args:= #[so,xo],argTypes:= #[t,t2]},ty,pos,after,guard⟩).run P w= .ok (.value v') w':=by
  simp_all[execOp,resolve,invoke,builtin]
 by_cases ry:ys=[]
 ·subst ry;have As:news=[]:=aqH (by simpa using src.len);subst As;have bq:(Builtin.append_ #[t,t2] ty #[a.eval so,a.eval xo]).run P w= .ok (.slice none 0 0) w:=by
   obtain⟨q1,q2⟩:=src.run w rfl;simp only[aqj]at q1 q2;rw[xR];rcases kB with⟨e2,rfl⟩|rfl<;>simp[Builtin.append_,run_underlying hu,run_underlying nM,sizeOf,typeInfo,hi,lj,q1,q2]
  obtain⟨g',st⟩:=g.new (hZ.refl w) hn (x:= .slice none 0 0) (r:= .row e k []) (by simp[df,jU]) (.inl ⟨rfl,rfl⟩);exact⟨_,_,_,_,_,_,jG bq,.inl rfl,⟨rfl,rfl⟩,.rv h _ (cn _ _) rfl,g',st⟩
 ·have iX:=aqz.2 ry;have bq:=su (P:=P) (ty:=ty) (ao:=none) (sLen:=0) (sCap:=0) (olds:=[]) hu nM kB hi lj hz src Src.Um (by omega) (by grind[maxLen]) (by simp_all[growslice_fits]);have bR:=grownCap_ge w (0+ys.length) 0 e;have vr:=grownCap_le_maxLen w (0+ys.length) 0 e (by omega);have yV:∀b,df (.slice (some ⟨w.heap.size,0,none⟩) (0+ys.length) (grownCap w (0+ys.length) 0 e)) b->w.heap.size<=b:=by
   simp[df,jU]
  have rN:hZ w (w.drew.alloc (.cells (#[]++news.toArray++Builtin.zeroCells zv.cells (grownCap w (0+ys.length) 0 e-(0+ys.length))) e)):=by
   have:=hZ.alloc w.drew (.cells (#[]++news.toArray++Builtin.zeroCells zv.cells (grownCap w (0+ys.length) 0 e-(0+ys.length))) e);exact⟨this.os,this.tape,this.output,this.size,this.block⟩
  obtain⟨g',st⟩:=g.new rN hn (x:= .slice (some ⟨w.heap.size,0,none⟩) (0+ys.length) (grownCap w (0+ys.length) 0 e)) (r:= .row e k ys) yV (by
   have:=zQ (w:=w) (O:=OO fo m) (m:=m) (e:=e) (k:=k) (zv:=zv) (z:=z) (olds:=[]) (news:=news) (xs:=[]) (ys:=ys) (cap:=grownCap w (0+ys.length) 0 e) og wo kP hk.1 (by simp) src.len (by simp) src.one (by simp) vt
    (by simp) FM (by omega) vr (w0:=w) (fr:=w.drew.alloc (.cells (#[]++news.toArray++Builtin.zeroCells zv.cells (grownCap w (0+ys.length) 0 e-(0+ys.length))) e))
    (heap_alloc_new w.drew (.cells (#[]++news.toArray++Builtin.zeroCells zv.cells (grownCap w (0+ys.length) 0 e-(0+ys.length))) e))
    (O':=OO fo (eZ m h (.slice (some ⟨w.heap.size,0,none⟩) (0+ys.length) (grownCap w (0+ys.length) 0 e)))) (m':=eZ m h (.slice (some ⟨w.heap.size,0,none⟩) (0+ys.length) (grownCap w (0+ys.length) 0 e)))
    (λu c hu=>az.mono (w:=w) (O:=OO fo m) ⟨rN.size,λb hb _=>rN.block b hb⟩ (C5 g.inv yV) (ss g.inv hn _) hu)
   grind)
  rw[<-xR]at bq;exact⟨_,_,_,_,_,_,jG bq,.inl rfl,⟨rfl,rfl⟩,.rv h _ (cn _ _) rfl,g',st⟩
def oW(xs:List (List V))(l h:Nat):List (List V):=(xs.take h).drop l
theorem aaE{dst}{t}{xo}{lo hi}{ty}{pos}{after}{guard}{h k}{e e'}{xs}{l u:Nat}{kl ku}
  (ht:nJ P t=some (e,k)) (hs:s.ev xo= .rv h) (hl:s.L.lookup h=some (.row e' k xs))
  (jz:(lo=none/\l=0)\/∃z,lo=some z/\s.ev z= .d (.v (.int kl l))) (KX:(hi=none/\u=xs.length)\/∃z,hi=some z/\s.ev z= .d (.v (.int ku u))) (Xt:l<=u) (hux:u<=xs.length):
  rq P n ⟨dst,.slice t xo lo hi none,ty,pos,after,guard⟩ s
   (λx s'=>x= .rv h/\s'=⟨(s.kill h).fr,aH.jK (s.kill h).L h (.row e' k ((oW xs l u).map (V.dR h)))⟩):=by
 intro fo m a w g;have NF:=cj g xo;rw[hs]at NF;have Db:=C3 NF;obtain⟨sx,Sf,NG⟩:=g.inv.holds h _ (dD hl);rw[Db]at Sf;obtain rfl:=apO Sf;obtain⟨HY,rO⟩:=ou ht w;have sU:∀{C:Nat},u<=C->(Instr.sliceBounds true xs.length C (lo.map a.eval) (hi.map a.eval) none).run P w= .ok (l,u,C) w:=by
  intro C huC;have h1:∀z,s.ev z= .d (.v (.int kl l))->a.eval z= .int kl l:=λz hz=>by have:=cj g z;rw[hz]at this;exact this.cq
  have h2:∀z,s.ev z= .d (.v (.int ku u))->a.eval z= .int ku u:=λz hz=>by have:=cj g z;rw[hz]at this;exact this.cq
  rcases jz with⟨rfl,rfl⟩|⟨z,rfl,hz⟩<;>rcases KX with⟨rfl,rfl⟩|⟨z',rfl,Aw⟩
  ·rfl
  ·simp_all[Instr.sliceBounds,Instr.sliceBound,asIntOf]
  ·simp_all[Instr.sliceBounds,Instr.sliceBound,asIntOf]
  simp_all[Instr.sliceBounds,Instr.sliceBound,asIntOf]
 have ac6:∀{ao:Option Addr} {C:Nat},a.eval xo= .slice ao xs.length C→u≤C→
   (execOp a.eval ⟨dst,.slice t xo lo hi none,ty,pos,after,guard⟩).run P w= .ok (.value (.slice (if C=l then ao else ao.map (·.add (l *k))) (u-l) (C-l))) w:=by
  simp_all[execOp,Instr.sliceAt,Instr.slice,Sem.run_bind,Result.andThen_ok,arW]
 have oU:(oW xs l u).length=u-l:=by grind[oW]
 have hcg:∀(i:Nat) (x:List V),(oW xs l u)[i]?=some x->i<u-l/\xs[l+i]?=some x:=by
  grind[oW]
 rcases NG with⟨xR,rfl⟩|⟨b,off,cap,cur,lQ,mM,lN,pA,dW,hlen,h1,fC⟩
 ·have NO:u=0:=by grind
  subst NO;have NB:l=0:=by omega
  subst NB;have bq:=ac6 (ao:=none) (C:=0) (by omega) (by omega);obtain⟨g',st⟩:=g.change (w':=w) Db rfl rfl rfl (apU _) (λ_ _ _=>rfl) (v':= .slice none 0 0) (by grind) (r':= .row e' k []) (.inl ⟨rfl,rfl⟩);refine⟨_,_,_,_,_,_,bq,.inl rfl,⟨rfl,by rfl⟩,?_,g',st⟩;exact .rv h _ (by simp[cn]) rfl
 ·have bq:=ac6 lQ (by omega);have hv':(if cap=l then(some (⟨b,off,none⟩:Addr))else(some (⟨b,off,none⟩:Addr)).map (·.add (l *k)))=some ⟨b,if cap=l then off else off+l *k,none⟩:=by
   grind[Addr.add_lit]
  rw[hv']at bq;have yV:∀b',df (.slice (some ⟨b,if cap=l then off else off+l *k,none⟩) (u-l) (cap-l)) b'->df (a.eval xo) b'\/w.heap.size<=b':=by
   intro b' de;left;rw[lQ];exact de
  have iY:(cap-l) *k+l *k=cap *k:=by rw[<-aqV];grind
  have hh:(aV.row e' k ((oW xs l u).map (V.dR h))).Holds w (OO fo (eZ m h (.slice (some ⟨b,if cap=l then off else off+l *k,none⟩) (u-l) (cap-l)))) (eZ m h (.slice (some ⟨b,if cap=l then off else off+l *k,none⟩) (u-l) (cap-l)))
    (.slice (some ⟨b,if cap=l then off else off+l *k,none⟩) (u-l) (cap-l)):=by
   refine .inr ⟨b,if cap=l then off else off+l *k,cap-l,cur,by grind,mM,by grind,by omega,?_,?_,h1,?_⟩
   ·grind
   ·intro i x hx;rw[apS]at hx;obtain⟨x0,rz,rfl⟩:=apN.1 hx;grind[iF,List.length_map]
   ·intro i j x y v hx hy hv;rw[apS]at hx;obtain⟨x0,rz,rfl⟩:=apN.1 hx;rw[iF,apS]at hy;obtain⟨y0,ry,rfl⟩:=apN.1 hy;obtain⟨ck,iZ⟩:=hcg i x0 rz;have bU:¬cap=l:=by omega
    rw[if_neg bU]at hv⊢;have:=fC (l+i) j x0 y0 v iZ ry (by grind);refine az.mono (w:=w) (O:=OO fo m) (bK.refl w _) ?_ (λ_ _ e=>e) (az.kill (m:=m) (λi x hi hx=>by simp_all[et]) this);rintro c hc (⟨p,y,hy,kW⟩|hf)
    ·by_cases FN:p=h
     ·subst FN;rw[cn]at hy;obtain rfl:=apO hy;exact .inl ⟨p,_,Db,by grind⟩
     ·rw[et _ FN]at hy;exact .inl ⟨p,y,hy,kW⟩
    ·exact .inr hf
  obtain⟨g',st⟩:=g.change (w':=w) Db rfl rfl rfl (apU _) (λ_ _ _=>rfl) yV hh;exact⟨_,_,_,_,_,_,bq,.inl rfl,⟨rfl,rfl⟩,.rv h _ (cn _ _) rfl,g',st⟩
end
section
variable {P : Program} {w w' : World} {fo : FO} {m m' : Nat -> Option Value} {L : aH} {n : Nat} {s : St} {a : Act}
def Us:V->Option (Bool×List D)
 | .agg cs=>(GO cs).map λl=>(true,l)
 | .d x=>some (false,[x])
 | _=>none
def Dl(es:List ME)(k:Value)(g:Bool)(cs:List D):List ME:=
 if es.any (λe=>sd e.1 k)then es.map (λe=>if sd e.1 k then(k,g,cs)else e)else es++ [(k,g,cs)]
theorem aaF{O v x k g cs}(hr:az w O m v x)(h:Us x=some (g,cs)):az w O (λ_=>none) v (ME.val (k,g,cs)):=by
 unfold Us at h;split at h
 ·obtain⟨l,hl,he⟩:=apN.1 h;cases he;rw[JK hl]at hr;cases hr with
  | agg vs _ hs h1 hh=>
    refine .agg vs _ hs h1 (λj x y hx hy=>?_);have:=hh j x y hx hy;rw[apS]at hy;obtain⟨z,_,rfl⟩:=apN.1 hy;exact .d _ _ this.lg
 ·cases h;exact .d _ _ hr.lg
 grind
def sw(P:Program)(s:St)(t:TypeId)(mo ko vo:Operand):Option (V×St×Prop):=
 match tyM P t,s.ev mo,s.ev ko,Us (s.ev vo)with
 | some (d,_),.rv h,.d (.v k),some (g,cs)=>match s.L.lookup h with
   | some (.mp es)=>some (.any,{s with L:=aH.jK s.L h (.mp (Dl es k g cs))},mH d k=true/\JG d es=true)
   | _=>none
 | _,_,_,_=>none
theorem aaG{dst}{t ty}{pos}{after}{guard}{h}(hn:h∉keys s.L):
  rq P n ⟨dst,.makeMap t none,ty,pos,after,guard⟩ s (λx s'=>x= .rv h/\s'={s with L:=(h,.mp [])::s.L}):=by
 intro fo m a w g;have hx:∀b,df (.map (some w.heap.size)) b->w.heap.size<=b:=by simp[df,jU]
 obtain⟨g',st⟩:=g.new (hZ.alloc w (.map #[] 0)) hn (r:= .mp []) hx ⟨w.heap.size,#[],0,rfl,(MapKept.heap_alloc w _).1,rfl,by simp,by simp⟩;refine⟨_,_,_,_,_,_,?_,.inl rfl,⟨rfl,rfl⟩,.rv h _ (cn _ _) rfl,g',st⟩;rfl
theorem MK{t}{mo ko vo}(a:Act) dst ty pos after guard op(aP:op= .mapUpdate t mo ko vo∨op= .insert t mo ko vo)(h:(Instr.mapUpdate t (a.eval mo) (a.eval ko) (a.eval vo)).run P w= .ok () w'):
  (execOp a.eval ⟨dst,op,ty,pos,after,guard⟩).run P w= .ok .skip w':=by
 rcases aP with rfl|rfl<;>simp[execOp,h]
theorem Sj{dst}{t ty}{pos}{after}{guard}{op}{mo ko vo}(aP:op= .mapUpdate t mo ko vo∨op= .insert t mo ko vo){x}{s1}{c}(h:sw P s t mo ko vo=some (x,s1,c))(hc:c):
  rq P n ⟨dst,op,ty,pos,after,guard⟩ s (λx' s'=>x'=x/\s'=s1):=by
 intro fo m a w gG;unfold sw at h;split at h
 ·rename_i d e hh k g cs htm hm hk hv;split at h
  ·rename_i es hl;simp only[akC,apM]at h;obtain⟨rfl,rfl,rfl⟩:=h;have r1:=cj gG mo;have r2:=cj gG ko;have r3:=cj gG vo;rw[hm]at r1;rw[hk]at r2;have ek:=r2.cq;obtain⟨u,hu,r,arr,clock,rfl,hb,hs,kg,GF⟩:=gG.inv.holds hh _ (dD hl);have em:a.eval mo= .map (some r):=by
    generalize a.eval mo=vm at r1;cases r1 with
    | rv _ _ e _=>grind
   obtain⟨kt,nu,tF⟩:=Nq htm w;have KS:=MapKept.run_checkKey (P:=P) (w:=w) tF (tE hc.1) false 9999;have hkt:=MapKept.run_keyThatStays (P:=P) (w:=w) (tE hc.1);have JM:=aaF (k:=k) r3 hv;have ay:r<w.heap.size:=(ap6.1 hb).1;have wrote:∀o,EY w r {w with heap:=w.heap.setIfInBounds r o}:=λo=>⟨rfl,rfl,rfl,by simp,λc _ bU=>by grind⟩
   have rH:∀o,bK w (OO fo m) {w with heap:=w.heap.setIfInBounds r o}:=λo=>⟨by simp,λb _ de=>by
    have:b≠r:=λe=>de (.inl ⟨hh,_,hu,e.symm⟩)
    grind⟩
   have fin:∀o:Obj,(Instr.mapUpdate t (a.eval mo) (a.eval ko) (a.eval vo)).run P w= .ok () {w with heap:=w.heap.setIfInBounds r o}→Nh (Dl es k g cs) {w with heap:=w.heap.setIfInBounds r o} (OO fo m) (.map (some r))→
     ∃nx v w' m' x s',(execOp a.eval ⟨dst,op,ty,pos,after,guard⟩).run P w= .ok nx w'/\(nx= .value v\/(nx= .skip/\v=undef))/\(x= .any/\s'={s with L:=aH.jK s.L hh (.mp (Dl es k g cs))})/\
     az w' (OO fo m') m' v x/\G fo n m' s' a w'/\Step w (own m) w' (own m'):=by
    intro o h1 h2;obtain⟨g',st⟩:=gG.jK hu (b:=r) rfl (wrote o) (r:= .mp (Dl es k g cs)) h2;exact⟨.skip,undef,_,m,.any,_,MK a dst ty pos after guard op aP h1,.inr ⟨rfl,rfl⟩,⟨rfl,rfl⟩,.any _,g',st⟩
   rw[em,ek]at fin;rcases Bg (w:=w) (O:=OO fo m) hc.1 es arr.toList (by omega) hc.2 (λi a e ha he=>GF i a e (by grind) he) 0 with⟨q1,q2,q3⟩|⟨j,v,y,a',e',q1,q2,q3,q4,q5,q6,q7⟩
   ·have hf:=MapKept.run_findKey (P:=P) (w:=w) tF q1;have Xy:Dl es k g cs=es++ [(k,g,cs)]:=by
     unfold Dl;grind
    refine fin (.map (arr.push {key:=k,val:=a.eval vo,born:=clock}) (clock+1)) ?_ ?_
    ·simp[Instr.mapUpdate,nu,MapKept.run_getObj_map hb,KS,hf,MapKept.run_setObj_map _ hb,Result.andThen,Sem.run_bind]
    ·rw[Xy];refine⟨r,(arr.push {key:=k,val:=a.eval vo,born:=clock}),(clock+1),rfl,by grind,by grind,?_,?_⟩
     ·rw[aqM,ary];refine⟨kg,by simp,?_⟩;rintro x hx y hy rfl;simp only[aqd,ar3,aq5]at hy;subst hy;obtain⟨e,he,rfl⟩:=apV.1 hx;have h1:=q3 e he;have h2:=(p9 (apR.1 hc.2 e he) hc.1).2 rfl;grind
     ·intro i a e ha he;rw[Array.getElem?_push]at ha;rw[aq8]at he;split at ha
      ·rename_i hi;rw[if_neg (by omega),show i-es.length=0 by omega]at he;simp only[aqk,akC]at ha he;subst ha;subst he;exact⟨rfl,JM.mono (rH _) (λ_ _ h=>h) (λ_ _ e=>e)⟩
      ·rename_i hi;have ck:i<arr.size:=(ap6.1 ha).1;rw[if_pos (by omega)]at he;obtain⟨p1,p2⟩:=GF i a e ha he;exact⟨p1,p2.mono (rH _) (λ_ _ h=>h) (λ_ _ e=>e)⟩
   ·have hf:=MapKept.run_findKey (P:=P) (w:=w) tF q1;have Sk:arr[j]?=some a':=by grind
    have Xy:Dl es k g cs=es.map (λe=>if sd e.1 k then(k,g,cs)else e):=by
     unfold Dl;rw[if_pos];grind[List.any_eq_true,List.mem_of_getElem?,p9,List.all_eq_true]
    have pK:(es.map (λe=>if sd e.1 k then((k,g,cs):ME)else e)).map (·.1)=es.map (·.1):=by
     rw[arc];apply List.map_congr_left;intro e he;simp only[Function.comp_apply];split
     ·rename_i h;exact((p9 (apR.1 hc.2 e he) hc.1).1 h).symm
     ·rfl
    refine fin (.map (arr.modify j λe=>{e with key:=k,val:=a.eval vo}) clock) ?_ ?_
    ·simp[Instr.mapUpdate,nu,MapKept.run_getObj_map hb,KS,hf,Sk,q6,hkt,MapKept.run_setObj_map _ hb,Result.andThen,Sem.run_bind]
    ·rw[Xy];refine⟨r,(arr.modify j λe=>{e with key:=k,val:=a.eval vo}),clock,rfl,by grind,by grind,by grind,?_⟩;intro i a e ha he;rw[apS]at he;obtain⟨e0,vp,rfl⟩:=apN.1 he;rw[Array.getElem?_modify]at ha;by_cases NP:j=i
     ·subst NP;rw[if_pos rfl,Sk]at ha;simp only[aqe,akC]at ha;rw[q5]at vp;obtain rfl:=apO vp;subst ha;rw[if_pos ((p9 (apR.1 hc.2 e' (apT q5)) hc.1).2 q7)];exact⟨rfl,JM.mono (rH _) (λ_ _ h=>h) (λ_ _ e=>e)⟩
     ·rw[if_neg NP]at ha;have bU:sd e0.1 k=false:=by
       cases hq:sd e0.1 k with
       | false=>rfl
       | true=>
         have h1:=(p9 (apR.1 hc.2 e0 (apT vp)) hc.1).1 hq;have h2:(es.map (·.1))[i]?=some k:=by grind
         have h3:(es.map (·.1))[j]?=some k:=by grind
         grind[List.getElem?_eq_some_iff,List.getElem?_inj]
      rw[bU];obtain⟨p1,p2⟩:=GF i a e0 ha vp;exact⟨p1,p2.mono (rH _) (λ_ _ h=>h) (λ_ _ e=>e)⟩
  grind
 grind
end
end Go.Ab

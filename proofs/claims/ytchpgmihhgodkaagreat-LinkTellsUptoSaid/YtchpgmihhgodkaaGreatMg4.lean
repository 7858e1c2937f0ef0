/-
 The texts Bfits3 Bfits4 Bfits5 Bnum Nest Btop Btop2 Btop3 Wfit Wtop Fb Wthings Wline Wfits Wfits2 Gfew Gbound Gref Gexpr Gwrite Gwexpr Gwlog Gwx Gex Glook Glaw1 Gsfew Gsfew2 Gst Gst2 Gst3 Btree Btree2,one behind the other.
-/
import Derived.Test.YtchpgmihhgodkaaGreatMg3
set_option linter.unusedSimpArgs false
set_option linter.unusedVariables false
namespace Go.Ab
open Go.Proofs Go.Proofs.Tryz
def thingOk(t:GTables) (x:GThing):Bool:=
 textB t x.Title false && textB t x.Text true && fromB x.Flags 0 (bitsM t.Flags-1) && decide (x.Props.length=t.Props.length) && allB int16 x.Props && wordsB x.Words 8 && wordsB x.Adjs 8 &&
 (decide (x.Parent=0) || thingB t x.Parent) && (!x.Room || decide (x.Parent=0)) && (x.Room || decide (x.Ways.length=0)) && waysB t x.Ways
def thingsB(t:GTables):Bool:=
 fromB t.Things.length 3 128 && nothingB t (thingAt t 0) &&!(thingAt t 1).Room && allB (thingOk t) (t.Things.drop 1) && allB (fun(i:Nat)=>endsB t ((i:Int)+1)) (List.range (t.Things.length-1)) && inRoomB t 1
theorem bitsM_le(n:Int):1≤bitsM n∧bitsM n≤65536:=by
 unfold bitsM
 generalize hm:min n.toNat 16=i
 have h16:i≤16:=by omega
 have e:(2:Int) ^ i=((2 ^ i:Nat):Int):=by simp
 have:=Nat.pow_le_pow_right (n:=2) (by decide) h16
 have:=Nat.pow_pos (a:=2) (n:=i) (by decide)
 rw [e];omega
set_option maxRecDepth 20000 in
theorem refThings_ok(t:GTables) (ht:t.wf):Pure prog 81 [.agg (t.enc.map .d)] (oD (thingsB t)):=by
 have hlen:t.Things.length≤2000000000000:=by have:=ht;simp [GTables.wf]at this;omega
 have hwf:=GTables.wf_Things ht
 unfold thingsB
 refine rn func81 ?_;simp [f81]
 try intro(_:Nat→Nat)
 refine AWP.regionD [oD (fromB t.Things.length 3 128),oD (nothingB t (thingAt t 0))] tmix (by kernel_rfl) (by rfl) ?_
 have h0:thingAt t 0=t.Things[0]?.getD GThing.zero:=rfl
 have hz:(thingAt t 0).wf:=by
  rw [h0]
  cases h:t.Things[0]? with
  | none=>simp [GThing.wf,GThing.zero,inR_i64]
  | some x=>exact hwf x (List.mem_of_getElem? h)
 simp [-cB,(refFrom_ok _ _ _).ok,←h0,(refNothing_ok t ht _ hz).ok]
 have hN:fromB t.Things.length 3 128=true→3≤t.Things.length∧t.Things.length≤128:=by rw [fromB_iff];omega
 generalize fromB t.Things.length 3 128=p1 at *
 cases p1 <;> simp [-cB,hN]
 obtain⟨hN1,hN2⟩:=hN rfl
 clear hN
 have hR1:nothingB t (thingAt t 0)=true→(thingAt t 0).Parent=0:=by
  intro h;simp [nothingB]at h;exact h.1.1.1.1.1.2
 generalize nothingB t (thingAt t 0)=p2 at *
 cases p2 <;> simp [-cB,show 0 < t.Things.length by omega,show 1 < t.Things.length by omega]
 have h1:thingAt t 1=t.Things[1]?.getD GThing.zero:=rfl
 have h1':t.Things[1]'(by omega)=thingAt t 1:=by rw [h1,List.getElem?_eq_getElem (by omega)];simp
 rw [h1']
 generalize (thingAt t 1).Room=p3 at *
 cases p3 <;> simp [-cB]
 generalize hl:t.Things.tail=l at *
 have hll:l.length+1=t.Things.length:=by rw [←hl];simp;omega
 have hlg:∀(k:Nat) (h:k < l.length),t.Things[k+1]'(by omega)=l[k]:=by intro k h;subst hl;simp
 refine AWP.loopL [1,3] l (fun pre=> [(3,iD ((pre.length:Int)+1))]) (fun _=> []) (fun pre=>allB (thingOk t) pre=true) (by rfl) (by omega) (by simp [allB_nil]) ?_ ?_
 ·rintro pre x post hsp hH hlt hge a4
  have hall:=allB_split hsp hH
  have hsn:allB (thingOk t) (pre++ [x])=thingOk t x:=by simp [allB_snoc,hH]
  have hge':=hlg _ hlt
  rw [hge]at hge'
  have hxw:x.wf:=hwf x (by rw [←hge'];exact List.getElem_mem _)
  have c1:(pre.length:Int)+1 < t.Things.length:=by omega
  have c2:pre.length+1 < t.Things.length:=by omega
  have hbl:=bitsM_le t.Flags
  have hok:thingOk t x=(textB t x.Title false && textB t x.Text true && fromB x.Flags 0 (bitsM t.Flags-1) && decide (x.Props.length=t.Props.length) && allB int16 x.Props && wordsB x.Words 8 && wordsB x.Adjs 8 &&
   (decide (x.Parent=0) || thingB t x.Parent) && (!x.Room || decide (x.Parent=0)) && (x.Room || decide (x.Ways.length=0)) && waysB t x.Ways):=rfl
  clear hwf hsp hlg hge hN1 hN2 h0 h1 h1' hz
  have c0:0≤(pre.length:Int)+1:=by omega
  simp [-cB,c0,c1,c2,hge',hall]
  try intro(_:Nat→Nat)
  refine AWP.regionD [oD (textB t x.Title false),oD (textB t x.Text true),iD (bitsM t.Flags),oD (fromB x.Flags 0 (bitsM t.Flags-1)),oD (allB int16 x.Props),oD (wordsB x.Words 8),oD (wordsB x.Adjs 8)] tmix (by kernel_rfl) (by rfl) ?_
  simp [-cB,(refText_ok t ht _ _).ok,(refBits_ok _).ok,(refFrom_ok _ _ _).ok,(refValues_ok x.Props (by have:=GThing.wl_Props hxw;omega)).ok,(refWords_ok x.Words (by have:=GThing.wl_Words hxw;omega) (fun y hy=>by have:=GThing.wf_Words hxw y hy;omega) _).ok,(refWords_ok x.Adjs (by have:=GThing.wl_Adjs hxw;omega) (fun y hy=>by have:=GThing.wf_Adjs hxw y hy;omega) _).ok]
  refine⟨fun h h'=>⟨iW,h,h'⟩,?_⟩
  refine condC_split (fun h=>?_) (fun h=>?_)
  ·simp [-cB]
   simp at h
   all_goals (first | assumption | omega | (rw [inR_i64];omega) | (simp_all;done) | grind | skip)
  ·simp [-cB]
   simp at h
   repeat' (first
    | (with_reducible refine And.intro ?_ ?_)
    | ((first | (refine condC_split (fun h=>?_) (fun h=>?_) <;> (try simp at h)) | refine pC (refThing_ok t ht _) ?_ | refine AOps.pureC rfl (refWays_ok t ht x.Ways (by have:=GThing.wl_Ways hxw;omega) (GThing.wf_Ways hxw)) rfl rfl (by simp) rfl ?_ | refine lC (refThing_ok t ht _) ?_ | refine AOps.lendC rfl (refWays_ok t ht x.Ways (by have:=GThing.wl_Ways hxw;omega) (GThing.wf_Ways hxw)) rfl (by simp) rfl rfl (by simp) rfl ?_ | refine pG (refThing_ok t ht _) ?_ | refine AOps.pureG rfl (fun h=>refWays_ok t ht x.Ways (by have:=GThing.wl_Ways hxw;omega) (GThing.wf_Ways hxw)) rfl (by first | rfl | (simp;rfl)) (by simp) (by simp) rfl ?_) <;> (try simp [-cB, *]))
    | (with_reducible intro _))
   all_goals (first | assumption | omega | (rw [inR_i64];omega) | (simp_all;done) | grind | skip)
 ·intro hH
  have hpar:parentsB t:=by
   intro x hx
   obtain⟨k,hk,rfl⟩:=List.getElem_of_mem hx
   cases k with
   | zero=>
     have:=hR1 rfl
     rw [h0,List.getElem?_eq_getElem hk]at this
     simp only [Option.getD_some]at this
     rw [this];omega
   | succ k=>
     rw [hlg k (by omega)]
     have:=allB_iff.1 hH l[k] (List.getElem_mem _)
     simp [thingOk,thingB,fromB]at this
     omega
  clear hwf h0 hz hR1 h1 h1' hlg
  have c9:¬((l.length:Int)+1 < t.Things.length):=by omega
  simp [-cB,c9,hH]
  refine AWP.loopL [1,5] (List.range (t.Things.length-1)) (fun pre=> [(5,iD ((pre.length:Int)+1))]) (fun _=> []) (fun pre=>allB (fun(i:Nat)=>endsB t ((i:Int)+1)) pre=true) (by rfl) (by simp;omega) (by simp [allB_nil]) ?_ ?_
  ·rintro pre x post hsp hH2 hlt hge a4
   have hall:=allB_split hsp hH2
   have hx:pre.length=x:=by simpa using hge
   have hsn:allB (fun(i:Nat)=>endsB t ((i:Int)+1)) (pre++ [x])=endsB t ((x:Int)+1):=by simp [allB_snoc,hH2]
   simp at hlt
   subst hx
   have c1:(pre.length:Int)+1 < t.Things.length:=by omega
   have hE:=refEnds_ok t ht hpar ((pre.length:Int)+1) (by omega)
   clear hsp hge
   simp [-cB,c1,hall]
   repeat' (first
    | (with_reducible refine And.intro ?_ ?_)
    | ((first | (refine condC_split (fun h=>?_) (fun h=>?_) <;> (try simp at h)) | refine pC hE ?_ | refine lC hE ?_ | refine pG hE ?_) <;> (try simp [-cB, *]))
    | (with_reducible intro _))
   all_goals (first | assumption | omega | (rw [inR_i64];omega) | (simp_all;done) | grind | skip)
  ·intro hH2
   have c1:¬(((t.Things.length-1:Nat):Int)+1 < t.Things.length):=by omega
   simp [-cB,c1,hH2]
   repeat' (first
    | (with_reducible refine And.intro ?_ ?_)
    | ((first | (refine condC_split (fun h=>?_) (fun h=>?_) <;> (try simp at h)) | refine pC (refRoom_ok t ht 1) ?_ | refine lC (refRoom_ok t ht 1) ?_ | refine pG (refRoom_ok t ht 1) ?_) <;> (try simp [-cB, *]))
    | (with_reducible intro _))
end Go.Ab
namespace Go.Ab
open Go.Proofs Go.Proofs.Tryz
def paramB(t:GTables) (i:Nat):Bool:=fromB (t.Params[i]?.getD 0) 0 8 && fromB (t.Locals[i]?.getD 0) (t.Params[i]?.getD 0) 24
def headB(t:GTables):Bool:=
 decide (t.Texts.length≤4096) && textB t t.Title false && textB t t.By false && fromB t.Release 0 32767 && fromB t.Max 0 32767 && fromB t.Flags 4 16 &&
 (decide (t.Props.length≤16) && decide (t.Globals.length≤64) && allB int16 t.Props && allB int16 t.Globals && decide (t.Params.length=t.Locals.length) && decide (t.Params.length≤2048)) &&
 allB isTextB t.Texts && allB (paramB t) (List.range t.Params.length)
set_option maxRecDepth 20000 in
theorem refHead_ok(t:GTables) (ht:t.wf):Pure prog 80 [.agg (t.enc.map .d)] (oD (headB t)):=by
 have hx1:=GTables.wl_Texts ht
 have hx2:=GTables.wl_Props ht
 have hx3:=GTables.wl_Globals ht
 have hx4:=GTables.wl_Params ht
 have hx5:=GTables.wl_Locals ht
 have hx6:=GTables.wf_Texts ht
 unfold headB
 refine rn func80 ?_;simp [-cB,f80]
 repeat' (first
  | (with_reducible refine And.intro ?_ ?_)
  | ((first | (refine condC_split (fun h=>?_) (fun h=>?_) <;> (try simp at h)) | refine pC (refText_ok t ht _ _) ?_ | refine pC (refFrom_ok _ _ _) ?_ | refine AOps.pureC rfl (refValues_ok t.Props (by omega)) rfl rfl (by simp) rfl ?_ | refine AOps.pureC rfl (refValues_ok t.Globals (by omega)) rfl rfl (by simp) rfl ?_ | refine lC (refText_ok t ht _ _) ?_ | refine lC (refFrom_ok _ _ _) ?_ | refine AOps.lendC rfl (refValues_ok t.Props (by omega)) rfl (by simp) rfl rfl (by simp) rfl ?_ | refine AOps.lendC rfl (refValues_ok t.Globals (by omega)) rfl (by simp) rfl rfl (by simp) rfl ?_ | refine pG (refText_ok t ht _ _) ?_ | refine pG (refFrom_ok _ _ _) ?_ | refine AOps.pureG rfl (fun h=>refValues_ok t.Props (by omega)) rfl (by first | rfl | (simp;rfl)) (by simp) (by simp) rfl ?_ | refine AOps.pureG rfl (fun h=>refValues_ok t.Globals (by omega)) rfl (by first | rfl | (simp;rfl)) (by simp) (by simp) rfl ?_) <;> (try simp [-cB, *]))
  | (with_reducible intro _))
 all_goals (first | assumption | omega | (rw [inR_i64];omega) | (simp_all;done) | grind | skip)
 have e1:t.Texts.length≤4096:=by omega
 have e2:t.Props.length≤16:=by omega
 have e3:t.Globals.length≤64:=by omega
 have e4:t.Params.length=t.Locals.length:=by omega
 have e5:t.Params.length≤2048:=by omega
 refine AWP.loopL [1,3] t.Texts (fun pre=> [(3,iD pre.length)]) (fun _=> []) (fun pre=>allB isTextB pre=true) (by rfl) (by omega) (by simp [allB_nil]) ?_ ?_
 ·rintro pre x post hsp hH hlt hge a4
  have hall:=allB_split hsp hH
  have hsn:allB isTextB (pre++ [x])=isTextB x:=by simp [allB_snoc,hH]
  have hT:=refIsText_ok x (by have:=hx6 x (by rw [hsp];simp);omega)
  clear hsp hx6
  simp [-cB,hlt,hge,hall,a4]
  repeat' (first
   | (with_reducible refine And.intro ?_ ?_)
   | ((first | (refine condC_split (fun h=>?_) (fun h=>?_) <;> (try simp at h)) | refine pC hT ?_ | refine lC hT ?_ | refine pG hT ?_) <;> (try simp [-cB, *]))
   | (with_reducible intro _))
  all_goals (first | assumption | omega | (rw [inR_i64];omega) | (simp_all;done) | grind | skip)
 ·intro hH
  simp [-cB,hH]
  refine AWP.loopL [1,4] (List.range t.Params.length) (fun pre=> [(4,iD pre.length)]) (fun _=> []) (fun pre=>allB (paramB t) pre=true) (by rfl) (by simp;omega) (by simp [allB_nil]) ?_ ?_
  ·rintro pre x post hsp hH2 hlt hge a4
   have hall:=allB_split hsp hH2
   have hx:pre.length=x:=by simpa using hge
   simp at hlt
   subst hx
   have hsn:allB (paramB t) (pre++ [pre.length])=paramB t pre.length:=by rw [allB_snoc,hH2];simp
   have hlt2:pre.length < t.Locals.length:=by omega
   have hpx:paramB t pre.length=(fromB t.Params[pre.length] 0 8 && fromB t.Locals[pre.length] t.Params[pre.length] 24):=by simp [paramB,hlt,hlt2]
   clear hsp hge
   simp [-cB,hlt,hlt2,hall]
   refine AWP.regionD [oD (fromB (t.Params[pre.length]?.getD 0) 0 8),oD (fromB (t.Locals[pre.length]?.getD 0) (t.Params[pre.length]?.getD 0) 24)] tmix (by kernel_rfl) (by rfl) ?_
   simp [-cB,hlt,hlt2,(refFrom_ok _ _ _).ok]
   refine condC_split (fun h=>?_) (fun h=>?_)
   ·simp [-cB]
    simp at h
    all_goals (first | assumption | omega | (rw [inR_i64];omega) | (simp_all;done) | grind | skip)
   ·simp [-cB]
    simp at h
    all_goals (first | assumption | omega | (rw [inR_i64];omega) | (simp_all;done) | grind | skip)
  ·intro hH2
   simp [-cB,hH2]
   all_goals (first | assumption | omega | (rw [inR_i64];omega) | (simp_all;done) | grind | skip)
def slotB(s:GSlot):Bool:=fromB s.Kind 1 5 &&!(decide (s.Kind=1) && decide (s.Words.length=0)) &&!(decide (s.Kind≠1) && decide (0 < s.Words.length)) && wordsB s.Words 4
def nounB(s:GSlot):Bool:=decide (s.Kind=2) || decide (s.Kind=3)
def lineB(l:List GSlot):Bool:=
 allB slotB l && (fromB l.length 1 8 && (decide ((l[0]?.getD GSlot.zero).Kind=1) || decide ((l[0]?.getD GSlot.zero).Kind=5)) && decide ((l.countP nounB:Int)≤2) && decide ((l.countP (fun s=>decide (s.Kind=4)):Int)≤1) && decide ((l.countP (fun s=>decide (s.Kind=5)):Int)≤1))
set_option maxRecDepth 20000 in
theorem refLine_ok(l:List GSlot) (hl:l.length≤1000000000000000) (hw:∀x∈l,x.wf):Pure prog 129 [.d (.sl (l.map GSlot.enc))] (oD (lineB l)):=by
 unfold lineB
 refine rn func129 ?_;simp [-cB,f129]
 refine AWP.loopL [0,3,4,5,6] l (fun pre=> [(3,iD (pre.countP nounB)),(4,iD (pre.countP (fun s=>decide (s.Kind=4)))),(5,iD (pre.countP (fun s=>decide (s.Kind=5)))),(6,iD pre.length)]) (fun _=> []) (fun pre=>allB slotB pre=true) (by rfl) (by omega) (by simp [allB_nil]) ?_ ?_
 ·rintro pre x post hsp hH hlt hge a4
  have hall:=allB_split hsp hH
  have hsn:allB slotB (pre++ [x])=slotB x:=by simp [allB_snoc,hH]
  have hxw:=hw x (by rw [hsp];simp)
  have c1:=List.countP_le_length (p:=nounB) (l:=pre)
  have c2:=List.countP_le_length (p:=fun s:GSlot=>decide (s.Kind=4)) (l:=pre)
  have c3:=List.countP_le_length (p:=fun s:GSlot=>decide (s.Kind=5)) (l:=pre)
  have hn1:(pre++ [x]).countP nounB=pre.countP nounB+(if nounB x then 1 else 0):=by rw [List.countP_append];simp [List.countP_cons]
  have hn2:(pre++ [x]).countP (fun s:GSlot=>decide (s.Kind=4))=pre.countP (fun s:GSlot=>decide (s.Kind=4))+(if x.Kind=4 then 1 else 0):=by rw [List.countP_append];simp [List.countP_cons]
  have hn3:(pre++ [x]).countP (fun s:GSlot=>decide (s.Kind=5))=pre.countP (fun s:GSlot=>decide (s.Kind=5))+(if x.Kind=5 then 1 else 0):=by rw [List.countP_append];simp [List.countP_cons]
  have hW:=refWords_ok x.Words (by have:=GSlot.wl_Words hxw;omega) (fun y hy=>by have:=GSlot.wf_Words hxw y hy;omega) 4
  have hsx:slotB x=(fromB x.Kind 1 5 &&!(decide (x.Kind=1) && decide (x.Words.length=0)) &&!(decide (x.Kind≠1) && decide (0 < x.Words.length)) && wordsB x.Words 4):=rfl
  have hnx:nounB x=(decide (x.Kind=2) || decide (x.Kind=3)):=rfl
  generalize hk1:pre.countP nounB=k1 at *
  generalize hk2:pre.countP (fun s:GSlot=>decide (s.Kind=4))=k2 at *
  generalize hk3:pre.countP (fun s:GSlot=>decide (s.Kind=5))=k3 at *
  clear hsp hw hk1 hk2 hk3
  simp [-cB,hlt,hge,hall,a4]
  repeat' (first
   | (with_reducible refine And.intro ?_ ?_)
   | ((first | (refine condC_split (fun h=>?_) (fun h=>?_) <;> (try simp at h)) | refine pC (refFrom_ok _ _ _) ?_ | refine pC hW ?_ | refine lC (refFrom_ok _ _ _) ?_ | refine lC hW ?_ | refine pG (refFrom_ok _ _ _) ?_ | refine pG hW ?_) <;> (try simp [-cB, *]))
   | (with_reducible intro _))
  all_goals (first | assumption | omega | (rw [inR_i64];omega) | (simp_all;done) | grind | skip)
 ·intro hH
  have hF:fromB l.length 1 8=true→0 < l.length:=by rw [fromB_iff];omega
  simp [-cB,hH]
  repeat' (first
   | (with_reducible refine And.intro ?_ ?_)
   | ((first | (refine condC_split (fun h=>?_) (fun h=>?_) <;> (try simp at h)) | refine pC (refFrom_ok _ _ _) ?_ | refine lC (refFrom_ok _ _ _) ?_ | refine pG (refFrom_ok _ _ _) ?_) <;> (try simp [-cB, *]))
   | (with_reducible intro _))
  all_goals first | assumption | exact hF (by assumption)
end Go.Ab
namespace Go.Ab
open Go.Proofs Go.Proofs.Tryz
def actB(a:GAct):Bool:=fromB a.Lines.length 1 8 && allB lineB a.Lines
def deedB(t:GTables) (d:GDeed):Bool:=
 fromB d.Verb 0 (t.Acts.length-1) && fromB d.Phase 1 3 && (decide (d.Noun= -1) || thingB t d.Noun) && (decide (d.Second= -1) || thingB t d.Second) && routB t d.When true && routB t d.Body false
def rulesB(t:GTables):Bool:=
 (decide (t.Acts.length≤64) && decide (t.Deeds.length≤512) && decide (t.Funcs.length≤64) && decide (t.Daemons.length≤16)) &&
 (allB actB t.Acts && (allB (deedB t) t.Deeds && (allB (fun n=>fromB n 0 (t.Params.length-1)) t.Funcs && allB (fun n=>routB t n false) t.Daemons)))
set_option maxHeartbeats 1000000 in
set_option maxRecDepth 20000 in
theorem refRules_ok(t:GTables) (ht:t.wf):Pure prog 82 [.agg (t.enc.map .d)] (oD (rulesB t)):=by
 have hx1:=GTables.wl_Acts ht
 have hx2:=GTables.wl_Deeds ht
 have hx3:=GTables.wl_Funcs ht
 have hx4:=GTables.wl_Daemons ht
 have hx5:=GTables.wl_Params ht
 have hx6:=GTables.wf_Acts ht
 have hx7:=GTables.wf_Deeds ht
 unfold rulesB
 refine rn func82 ?_;simp [-cB,f82]
 repeat' (first
  | (with_reducible refine And.intro ?_ ?_)
  | ((first | (refine condC_split (fun h=>?_) (fun h=>?_) <;> (try simp at h)) | refine pC (refText_ok t ht _ _) ?_ | refine lC (refText_ok t ht _ _) ?_ | refine pG (refText_ok t ht _ _) ?_) <;> (try simp [-cB, *]))
  | (with_reducible intro _))
 all_goals (first | assumption | omega | (rw [inR_i64];omega) | (simp_all;done) | grind | skip)
 have e1:t.Acts.length≤64:=by omega
 have e2:t.Deeds.length≤512:=by omega
 have e3:t.Funcs.length≤64:=by omega
 have e4:t.Daemons.length≤16:=by omega
 refine AWP.loopL [1,3] t.Acts (fun pre=> [(3,iD pre.length)]) (fun _=> []) (fun pre=>allB actB pre=true) (by rfl) (by omega) (by simp [allB_nil]) ?_ ?_
 ·rintro pre x post hsp hH hlt hge a4
  have hall:=allB_split hsp hH
  have hsn:allB actB (pre++ [x])=actB x:=by simp [allB_snoc,hH]
  have hxw:=hx6 x (by rw [hsp];simp)
  have hax:actB x=(fromB x.Lines.length 1 8 && allB lineB x.Lines):=rfl
  clear hsp hx6 hx7
  simp [-cB,hlt,hge,hall,a4]
  repeat' (first
   | (with_reducible refine And.intro ?_ ?_)
   | ((first | (refine condC_split (fun h=>?_) (fun h=>?_) <;> (try simp at h)) | refine pC (refFrom_ok _ _ _) ?_ | refine lC (refFrom_ok _ _ _) ?_ | refine pG (refFrom_ok _ _ _) ?_) <;> (try simp [-cB, *]))
   | (with_reducible intro _))
  all_goals (first | assumption | omega | (rw [inR_i64];omega) | (simp_all;done) | grind | skip)
  refine AWP.loopL [1,3,4] x.Lines (fun pre=> [(4,iD pre.length)]) (fun _=> []) (fun pre=>allB lineB pre=true) (by rfl) (by have:=GAct.wl_Lines hxw;omega) (by simp [allB_nil]) ?_ ?_
  ·rintro pre2 y post2 hsp hH2 hlt2 hge2 a5
   have hall2:=allB_split hsp hH2
   have hsn2:allB lineB (pre2++ [y])=lineB y:=by simp [allB_snoc,hH2]
   have hyw:=GAct.wf_Lines hxw y (by rw [hsp];simp)
   have hL:=refLine_ok y (by omega) hyw.2
   clear hsp
   simp [-cB,hlt,hge,hlt2,hge2,hall2,a4,a5]
   repeat' (first
    | (with_reducible refine And.intro ?_ ?_)
    | ((first | (refine condC_split (fun h=>?_) (fun h=>?_) <;> (try simp at h)) | refine pC hL ?_ | refine lC hL ?_ | refine pG hL ?_) <;> (try simp [-cB, *]))
    | (with_reducible intro _))
   all_goals (first | assumption | omega | (rw [inR_i64];omega) | (simp_all;done) | grind | skip)
  ·intro hH2
   simp [-cB,hlt,hge,hH2]
   repeat' (first
    | (with_reducible refine And.intro ?_ ?_)
    | ((first | (refine condC_split (fun h=>?_) (fun h=>?_) <;> (try simp at h)) | refine pC (refFrom_ok _ _ _) ?_ | refine lC (refFrom_ok _ _ _) ?_ | refine pG (refFrom_ok _ _ _) ?_) <;> (try simp [-cB, *]))
    | (with_reducible intro _))
   all_goals (first | assumption | omega | (rw [inR_i64];omega) | (simp_all;done) | grind | skip)
 ·intro hH
  simp [-cB,hH]
  refine AWP.loopL [1,5] t.Deeds (fun pre=> [(5,iD pre.length)]) (fun _=> []) (fun pre=>allB (deedB t) pre=true) (by rfl) (by omega) (by simp [allB_nil]) ?_ ?_
  ·rintro pre x post hsp hH2 hlt hge a4
   have hall:=allB_split hsp hH2
   have hsn:allB (deedB t) (pre++ [x])=deedB t x:=by simp [allB_snoc,hH2]
   have hxw:=hx7 x (by rw [hsp];simp)
   have hdx:deedB t x=(fromB x.Verb 0 (t.Acts.length-1) && fromB x.Phase 1 3 && (decide (x.Noun= -1) || thingB t x.Noun) && (decide (x.Second= -1) || thingB t x.Second) && routB t x.When true && routB t x.Body false):=rfl
   clear hsp hx6 hx7
   simp [-cB,hlt,hge,hall,a4]
   repeat' (first
    | (with_reducible refine And.intro ?_ ?_)
    | ((first | (refine condC_split (fun h=>?_) (fun h=>?_) <;> (try simp at h)) | refine pC (refFrom_ok _ _ _) ?_ | refine pC (refThing_ok t ht _) ?_ | refine pC (refRoutine_ok t ht _ _) ?_ | refine lC (refFrom_ok _ _ _) ?_ | refine lC (refThing_ok t ht _) ?_ | refine lC (refRoutine_ok t ht _ _) ?_ | refine pG (refFrom_ok _ _ _) ?_ | refine pG (refThing_ok t ht _) ?_ | refine pG (refRoutine_ok t ht _ _) ?_) <;> (try simp [-cB, *]))
    | (with_reducible intro _))
   all_goals (first | assumption | omega | (rw [inR_i64];omega) | (simp_all;done) | grind | skip)
  ·intro hH2
   simp [-cB,hH2]
   refine AWP.loopL [1,7] t.Funcs (fun pre=> [(7,iD pre.length)]) (fun _=> []) (fun pre=>allB (fun n=>fromB n 0 (t.Params.length-1)) pre=true) (by rfl) (by omega) (by simp [allB_nil]) ?_ ?_
   ·rintro pre x post hsp hH3 hlt hge a4
    have hall:=allB_split hsp hH3
    have hsn:allB (fun n=>fromB n 0 (t.Params.length-1)) (pre++ [x])=fromB x 0 (t.Params.length-1):=by rw [allB_snoc,hH3];simp
    clear hsp hx6 hx7
    simp [-cB,hlt,hge,hall,a4]
    refine AWP.regionD [oD (fromB x 0 (t.Params.length-1))] tmix (by kernel_rfl) (by rfl) ?_
    simp [-cB,hlt,hge,(refFrom_ok _ _ _).ok]
    refine⟨iW,?_⟩
    repeat' (first
     | (with_reducible refine And.intro ?_ ?_)
     | ((first | (refine condC_split (fun h=>?_) (fun h=>?_) <;> (try simp at h)) | refine pC (refFrom_ok _ _ _) ?_ | refine lC (refFrom_ok _ _ _) ?_ | refine pG (refFrom_ok _ _ _) ?_) <;> (try simp [-cB, *]))
     | (with_reducible intro _))
    all_goals (first | assumption | omega | (rw [inR_i64];omega) | (simp_all;done) | grind | skip)
   ·intro hH3
    simp [-cB,hH3]
    refine AWP.loopL [1,8] t.Daemons (fun pre=> [(8,iD pre.length)]) (fun _=> []) (fun pre=>allB (fun n=>routB t n false) pre=true) (by rfl) (by omega) (by simp [allB_nil]) ?_ ?_
    ·rintro pre x post hsp hH4 hlt hge a4
     have hall:=allB_split hsp hH4
     have hsn:allB (fun n=>routB t n false) (pre++ [x])=routB t x false:=by rw [allB_snoc,hH4];simp
     clear hsp hx6 hx7
     simp [-cB,hlt,hge,hall,a4]
     refine AWP.regionD [oD (routB t x false)] tmix (by kernel_rfl) (by rfl) ?_
     simp [-cB,hlt,hge,(refRoutine_ok t ht _ _).ok]
     repeat' (first
      | (with_reducible refine And.intro ?_ ?_)
      | ((first | (refine condC_split (fun h=>?_) (fun h=>?_) <;> (try simp at h)) | refine pC (refFrom_ok _ _ _) ?_ | refine lC (refFrom_ok _ _ _) ?_ | refine pG (refFrom_ok _ _ _) ?_) <;> (try simp [-cB, *]))
      | (with_reducible intro _))
     all_goals (first | assumption | omega | (rw [inR_i64];omega) | (simp_all;done) | grind | skip)
    ·intro hH4
     simp [hH4,e1,e2,e3,e4]
def fitsB(t:GTables):Bool:=headB t && thingsB t && rulesB t
theorem refFits_ok(t:GTables) (ht:t.wf):Pure prog 44 [.agg (t.enc.map .d)] (oD (fitsB t)):=by
 unfold fitsB
 refine rn func44 ?_;simp [-cB,f44]
 repeat' (first
  | (with_reducible refine And.intro ?_ ?_)
  | ((first | (refine condC_split (fun h=>?_) (fun h=>?_) <;> (try simp at h)) | refine pC (refHead_ok t ht) ?_ | refine pC (refThings_ok t ht) ?_ | refine pC (refRules_ok t ht) ?_ | refine lC (refHead_ok t ht) ?_ | refine lC (refThings_ok t ht) ?_ | refine lC (refRules_ok t ht) ?_ | refine pG (refHead_ok t ht) ?_ | refine pG (refThings_ok t ht) ?_ | refine pG (refRules_ok t ht) ?_) <;> (try simp [-cB, *]))
  | (with_reducible intro _))
 all_goals (first | assumption | omega | (rw [inR_i64];omega) | (simp_all;done) | grind | skip)
end Go.Ab
namespace Go.Ab
open Go.Proofs Go.Proofs.Tryz
def wrapM(n:Int):Int:=IntKind.wrap .i16 n
theorem wrapM_eq n:wrapM n=(n+32768) % 65536-32768:=by
 grind [wrapM,IntKind.wrap,IntKind.signed,IntKind.bits]
theorem Pure.none {f:FuncId} {args:List V} {x:V} (h:False):Pure prog f args x:=h.elim
theorem wrapM_bd n: -32768≤wrapM n∧wrapM n≤32767:=by grind [wrapM_eq]
theorem wrapM_id {n} (h: -32768≤n∧n≤32767):wrapM n=n:=by grind [wrapM_eq]
theorem wrapM_wrapM n:wrapM (wrapM n)=wrapM n:=wrapM_id (wrapM_bd n)
theorem wrap64 {n} (h:inR .i64 n):IntKind.wrap .i64 n=n:=by
 grind [inR_i64,IntKind.wrap,IntKind.signed,IntKind.bits]
theorem refWrap_ok(n:Int):Pure prog 160 [iD n] (iD (wrapM n)):=by
 have h0:=wrapM_eq n
 have h1:n.tmod 65536=if 0≤n then n % 65536 else -((-n) % 65536):=by
  split
  ·rename_i h;exact Int.tmod_eq_emod_of_nonneg h
  ·rename_i h
   have:=Int.neg_tmod (a:= -n) (b:=65536)
   rw [Int.neg_neg]at this
   rw [this,Int.tmod_eq_emod_of_nonneg (by omega)]
 refine rn func160 ?_;simp [-cB,f160]
 generalize n.tmod 65536=m at *
 generalize hr:wrapM n=r at *
 repeat' (first
  | (with_reducible refine And.intro ?_ ?_)
  | ((first | (refine condC_split (fun h=>?_) (fun h=>?_) <;> (try simp at h)) | refine pC Pure.none ?_ | refine lC Pure.none ?_ | refine pG Pure.none ?_) <;> (try simp [-cB, *]))
  | (with_reducible intro _))
 all_goals (try rw [inR_i64])
 all_goals (split at h1 <;> omega)
theorem wrap_ok(n:Int):Pure prog 88 [iD n] (iD (wrapM n)):=by
 have h0:inR .i64 (wrapM n):=by have:=wrapM_bd n;rw [inR_i64];omega
 have h1:=wrap64 h0
 refine rn func88 ?_;simp [-cB,f88]
 exact h1
def addM(a b:Int):Int:=wrapM (wrapM a+wrapM b)
def subM(a b:Int):Int:=wrapM (wrapM a-wrapM b)
def mulM(a b:Int):Int:=wrapM (wrapM a *wrapM b)
def negM(a:Int):Int:=wrapM (0-wrapM a)
def divM(a b:Int):Int×Int:=if wrapM b=0 then(0,1)else(wrapM ((wrapM a).tdiv (wrapM b)),0)
def modM(a b:Int):Int×Int:=if wrapM b=0 then(0,1)else(wrapM ((wrapM a).tmod (wrapM b)),0)
theorem mul_bd {a b:Int} (ha: -32768≤a∧a≤32767) (hb: -32768≤b∧b≤32767): -1073741824≤a *b∧a *b≤1073741824:=by
 have h1:a *b≤a.natAbs *b.natAbs:=by
  have:(a *b).natAbs=a.natAbs *b.natAbs:=Int.natAbs_mul a b
  omega
 have h2: -(a.natAbs *b.natAbs:Int)≤a *b:=by
  have:(a *b).natAbs=a.natAbs *b.natAbs:=Int.natAbs_mul a b
  omega
 have h3:a.natAbs *b.natAbs≤32768 *32768:=Nat.mul_le_mul (by omega) (by omega)
 omega
def pr2(p:Int×Int):V:= .tup [iD p.1,iD p.2]
theorem refAdd_ok(a b:Int):Pure prog 234 [iD a,iD b] (iD (addM a b)):=by
 have ha:=wrapM_bd a
 have hb:=wrapM_bd b
 have h:inR .i64 (wrapM a+wrapM b):=iW
 refine rn func234 ?_;simp [-cB,f234]
 try intro(_:Nat→Nat)
 repeat' (first
  | (with_reducible refine And.intro ?_ ?_)
  | ((first | (refine condC_split (fun h=>?_) (fun h=>?_) <;> (try simp at h)) | refine pC (refWrap_ok _) ?_ | refine lC (refWrap_ok _) ?_ | refine pG (refWrap_ok _) ?_) <;> (try simp [-cB, *]))
  | (with_reducible intro _))
 rfl
theorem refSub_ok(a b:Int):Pure prog 235 [iD a,iD b] (iD (subM a b)):=by
 have ha:=wrapM_bd a
 have hb:=wrapM_bd b
 have h:inR .i64 (wrapM a-wrapM b):=iW
 refine rn func235 ?_;simp [-cB,f235]
 try intro(_:Nat→Nat)
 repeat' (first
  | (with_reducible refine And.intro ?_ ?_)
  | ((first | (refine condC_split (fun h=>?_) (fun h=>?_) <;> (try simp at h)) | refine pC (refWrap_ok _) ?_ | refine lC (refWrap_ok _) ?_ | refine pG (refWrap_ok _) ?_) <;> (try simp [-cB, *]))
  | (with_reducible intro _))
 rfl
theorem refMul_ok(a b:Int):Pure prog 236 [iD a,iD b] (iD (mulM a b)):=by
 have h:inR .i64 (wrapM a *wrapM b):=by have:=mul_bd (wrapM_bd a) (wrapM_bd b);rw [inR_i64];omega
 refine rn func236 ?_;simp [-cB,f236]
 try intro(_:Nat→Nat)
 repeat' (first
  | (with_reducible refine And.intro ?_ ?_)
  | ((first | (refine condC_split (fun h=>?_) (fun h=>?_) <;> (try simp at h)) | refine pC (refWrap_ok _) ?_ | refine lC (refWrap_ok _) ?_ | refine pG (refWrap_ok _) ?_) <;> (try simp [-cB, *]))
  | (with_reducible intro _))
 rfl
theorem refNeg_ok(a:Int):Pure prog 218 [iD a] (iD (negM a)):=by
 have h:inR .i64 (0-wrapM a):=by have:=wrapM_bd a;rw [inR_i64];omega
 rw [negM]
 generalize hx:0-wrapM a=x at *
 refine rn func218 ?_;simp [-cB,f218]
 try intro(_:Nat→Nat)
 repeat' (first
  | (with_reducible refine And.intro ?_ ?_)
  | ((first | (refine condC_split (fun h=>?_) (fun h=>?_) <;> (try simp at h)) | refine pC (refWrap_ok _) ?_ | refine lC (refWrap_ok _) ?_ | refine pG (refWrap_ok _) ?_) <;> (try simp [-cB, *,hx]))
  | (with_reducible intro _))
theorem add_ok(a b:Int):Pure prog 209 [iD a,iD b] (iD (addM a b)):=by
 have ha:=wrapM_bd a
 have hb:=wrapM_bd b
 have h:inR .i64 (wrapM a+wrapM b):=iW
 refine rn func209 ?_;simp [-cB,f209]
 try intro(_:Nat→Nat)
 repeat' (first
  | (with_reducible refine And.intro ?_ ?_)
  | ((first | (refine condC_split (fun h=>?_) (fun h=>?_) <;> (try simp at h)) | refine pC (wrap_ok _) ?_ | refine lC (wrap_ok _) ?_ | refine pG (wrap_ok _) ?_) <;> (try simp [-cB, *]))
  | (with_reducible intro _))
 rfl
theorem sub_ok(a b:Int):Pure prog 210 [iD a,iD b] (iD (subM a b)):=by
 have ha:=wrapM_bd a
 have hb:=wrapM_bd b
 have h:inR .i64 (wrapM a-wrapM b):=iW
 refine rn func210 ?_;simp [-cB,f210]
 try intro(_:Nat→Nat)
 repeat' (first
  | (with_reducible refine And.intro ?_ ?_)
  | ((first | (refine condC_split (fun h=>?_) (fun h=>?_) <;> (try simp at h)) | refine pC (wrap_ok _) ?_ | refine lC (wrap_ok _) ?_ | refine pG (wrap_ok _) ?_) <;> (try simp [-cB, *]))
  | (with_reducible intro _))
 rfl
theorem mul_ok(a b:Int):Pure prog 211 [iD a,iD b] (iD (mulM a b)):=by
 have h:inR .i64 (wrapM a *wrapM b):=by have:=mul_bd (wrapM_bd a) (wrapM_bd b);rw [inR_i64];omega
 refine rn func211 ?_;simp [-cB,f211]
 try intro(_:Nat→Nat)
 repeat' (first
  | (with_reducible refine And.intro ?_ ?_)
  | ((first | (refine condC_split (fun h=>?_) (fun h=>?_) <;> (try simp at h)) | refine pC (wrap_ok _) ?_ | refine lC (wrap_ok _) ?_ | refine pG (wrap_ok _) ?_) <;> (try simp [-cB, *]))
  | (with_reducible intro _))
 rfl
theorem tdiv_bd {a b:Int} (ha: -32768≤a∧a≤32767): -32768≤a.tdiv b∧a.tdiv b≤32768:=by
 have:(a.tdiv b).natAbs≤a.natAbs:=by rw [Int.natAbs_tdiv];exact Nat.div_le_self _ _
 omega
theorem i64_tdiv {a b:Int} (ha: -32768≤a∧a≤32767):IntKind.wrap .i64 (a.tdiv b)=a.tdiv b:=wrap64 (by have:=tdiv_bd (b:=b) ha;rw [inR_i64];omega)
theorem tmod_bd {a b:Int} (ha: -32768≤a∧a≤32767): -32768≤a.tmod b∧a.tmod b≤32767:=by
 have h1:(a.tmod b).natAbs=a.natAbs % b.natAbs:=Int.natAbs_tmod a b
 have h2:a.natAbs % b.natAbs≤a.natAbs:=Nat.mod_le _ _
 have h3:0≤a→0≤a.tmod b:=fun h=>Int.tmod_nonneg _ h
 have h4:a < 0→a.tmod b≤0:=fun h=>by
  have:=Int.tmod_nonneg b (a:= -a) (by omega)
  rw [Int.neg_tmod]at this
  omega
 generalize a.natAbs % b.natAbs=q at *
 omega
theorem refDiv_ok(a b:Int):Pure prog 237 [iD a,iD b] (pr2 (divM a b)):=by
 have h:=i64_tdiv (b:=wrapM b) (wrapM_bd a)
 unfold pr2 divM
 refine rn func237 ?_;simp [-cB,f237]
 try intro(_:Nat→Nat)
 repeat' (first
  | (with_reducible refine And.intro ?_ ?_)
  | ((first | (refine condC_split (fun h=>?_) (fun h=>?_) <;> (try simp at h)) | refine pC (refWrap_ok _) ?_ | refine lC (refWrap_ok _) ?_ | refine pG (refWrap_ok _) ?_) <;> (try simp [-cB, *]))
  | (with_reducible intro _))
theorem div_ok(a b:Int):Pure prog 212 [iD a,iD b] (pr2 (divM a b)):=by
 have h:=i64_tdiv (b:=wrapM b) (wrapM_bd a)
 unfold pr2 divM
 refine rn func212 ?_;simp [-cB,f212]
 try intro(_:Nat→Nat)
 repeat' (first
  | (with_reducible refine And.intro ?_ ?_)
  | ((first | (refine condC_split (fun h=>?_) (fun h=>?_) <;> (try simp at h)) | refine pC (wrap_ok _) ?_ | refine lC (wrap_ok _) ?_ | refine pG (wrap_ok _) ?_) <;> (try simp [-cB, *]))
  | (with_reducible intro _))
theorem refMod_ok(a b:Int):Pure prog 238 [iD a,iD b] (pr2 (modM a b)):=by
 have h:=i64_tdiv (b:=wrapM b) (wrapM_bd a)
 have hd:=tdiv_bd (b:=wrapM b) (wrapM_bd a)
 unfold pr2 modM
 refine rn func238 ?_;simp [-cB,f238]
 try intro(_:Nat→Nat)
 repeat' (first
  | (with_reducible refine And.intro ?_ ?_)
  | ((first | (refine condC_split (fun h=>?_) (fun h=>?_) <;> (try simp at h)) | refine pC (refWrap_ok _) ?_ | refine lC (refWrap_ok _) ?_ | refine pG (refWrap_ok _) ?_) <;> (try simp [-cB, *]))
  | (with_reducible intro _))
 all_goals (have hm:=tmod_bd (b:=wrapM b) (wrapM_bd a))
 all_goals (have he:=Int.tmod_def (wrapM a) (wrapM b))
 all_goals (rw [Int.mul_comm]at he)
 all_goals (have ha:=wrapM_bd a)
 ·rw [inR_i64];omega
 ·rw [inR_i64];omega
 ·rw [wrapM_id hm];omega
theorem mod_ok(a b:Int):Pure prog 213 [iD a,iD b] (pr2 (modM a b)):=by
 unfold pr2 modM
 refine rn func213 ?_;simp [-cB,f213]
 try intro(_:Nat→Nat)
 repeat' (first
  | (with_reducible refine And.intro ?_ ?_)
  | ((first | (refine condC_split (fun h=>?_) (fun h=>?_) <;> (try simp at h)) | refine pC (wrap_ok _) ?_ | refine lC (wrap_ok _) ?_ | refine pG (wrap_ok _) ?_) <;> (try simp [-cB, *]))
  | (with_reducible intro _))
end Go.Ab
namespace Go.Ab
def atI(l:List Int) (i:Int):Int:=if i < 0 then 0 else l[i.toNat]?.getD 0
def isT(n:Nat) (x:Int):Bool:=decide (1≤x∧x < n)
theorem isT_iff {n:Nat} {x:Int}:isT n x=true↔1≤x∧x < n:=by simp [isT]
def chainM(nx:List Int) (n:Nat):Nat→Int→List Int
 | 0,_=> []
 | k+1,c=>if isT n c then c::chainM nx n k (atI nx c)else []
inductive Ch(nx:List Int) (n:Nat):Int→List Int→Prop
 | nil:Ch nx n 0 []
 | cons {c:Int} {l:List Int} (h:1≤c∧c < n) (t:Ch nx n (atI nx c) l):Ch nx n c (c::l)
theorem nodup_lt {n:Nat} {l:List Int} (h:l.Nodup) (hm:∀x∈l,1≤x∧x < n):l.length < n∨l=[]:=by
 have key:∀(n:Nat) (l:List Int),l.Nodup→(∀x∈l,1≤x∧x < n)→l.length≤n-1:=by
  intro n
  induction n with
  | zero=>
    intro l _ hm
    cases l with
    | nil=>simp
    | cons x l=>have:=hm x List.mem_cons_self;omega
  | succ n ih=>
    intro l hd hm
    by_cases hn:(n:Int)∈l
    ·have h1:=ih (l.erase n) (hd.erase _) (fun x hx=>by
      have h2:=hm x (List.mem_of_mem_erase hx)
      have h3:x≠n:=fun e=>by subst e;exact(hd.not_mem_erase hx)
      omega)
     rw [List.length_erase_of_mem hn]at h1
     have:=List.length_pos_of_mem hn
     have h4:=hm n hn
     omega
    ·have:=ih l hd (fun x hx=>by
      have h2:=hm x hx
      have h3:x≠n:=fun e=>hn (e ▸ hx)
      omega)
     omega
 cases l with
 | nil=>exact .inr rfl
 | cons x l=>
   have:=key n _ h hm
   have h2:=hm x List.mem_cons_self
   left
   simp at this ⊢
   omega
structure Tree where
 Par:List Int
 Chi:List Int
 Nxt:List Int
structure Nest(t:Tree) (n:Nat) (ls:Int→List Int):Prop where
 pos:0 < n
 lp:t.Par.length=n
 lc:t.Chi.length=n
 ln:t.Nxt.length=n
 p0:atI t.Par 0=0
 c0:atI t.Chi 0=0
 n0:atI t.Nxt 0=0
 ch:∀x:Int,1≤x→x < n→Ch t.Nxt n (atI t.Chi x) (ls x)
 par:∀x:Int,1≤x→x < n→∀y∈ls x,atI t.Par y=x
 up:∀x:Int,1≤x→x < n→atI t.Par x=0∧atI t.Nxt x=0∨(1≤atI t.Par x∧atI t.Par x < n)∧x∈ls (atI t.Par x)
 ends:∀x:Int,1≤x→x < n→∃l,Ch t.Par n x l
def kidsM(t:Tree) (x:Int):List Int:=if isT t.Par.length x then chainM t.Nxt t.Par.length t.Par.length (atI t.Chi x)else []
def upsM(t:Tree) (x:Int):List Int:=chainM t.Par t.Par.length t.Par.length x
def topM(t:Tree) (x:Int):Int:=(upsM t x).getLastD 0
def listedB(t:Tree) (x:Int):Bool:=
 (kidsM t x).all (fun y=>decide (atI t.Par y=x) && decide ((kidsM t x).count y=1)) &&
  decide ((match(kidsM t x).getLast? with | some y=>atI t.Nxt y | none=>atI t.Chi x)=0)
end Go.Ab
namespace Go.Ab
open Go.Proofs Go.Proofs.Tryz
def topP(t:GTables):Nat→Int→Int
 | 0,_=>0
 | k+1,x=>if(thingAt t x).Parent=0 then x else topP t k (thingAt t x).Parent
theorem topP_ne(t:GTables):∀(k:Nat) (x:Int),x≠0→(topP t k x≠0↔∃j,j < k∧upN t (j+1) x=0)
 | 0,x,_=>⟨fun h=>(h rfl).elim,fun⟨j,hj,_⟩=>by omega⟩
 | k+1,x,hx=>by
   rw [topP]
   split
   ·rename_i h0
    exact⟨fun _=>⟨0,by omega,h0⟩,fun _=>hx⟩
   ·rename_i h0
    rw [topP_ne t k _ h0]
    constructor
    ·rintro⟨j,h1,h2⟩
     exact⟨j+1,by omega,h2⟩
    ·rintro⟨j,h1,h2⟩
     cases j with
     | zero=>exact(h0 h2).elim
     | succ j=>exact⟨j,by omega,h2⟩
theorem endsM_ne(t:GTables):∀(k:Nat) (x:Int),(endsM t k x=true↔∃j,j < k∧upN t j x=0)
 | 0,x=>⟨fun h=>by simp [endsM]at h,fun⟨j,hj,_⟩=>by omega⟩
 | k+1,x=>by
   rw [endsM]
   split
   ·rename_i h0
    exact⟨fun _=>⟨0,by omega,h0⟩,fun _=>rfl⟩
   ·rename_i h0
    rw [endsM_ne t k]
    constructor
    ·rintro⟨j,h1,h2⟩
     exact⟨j+1,by omega,h2⟩
    ·rintro⟨j,h1,h2⟩
     cases j with
     | zero=>exact(h0 h2).elim
     | succ j=>exact⟨j,by omega,h2⟩
theorem upN_add(t:GTables):∀(a b:Nat) (x:Int),upN t (a+b) x=upN t b (upN t a x)
 | 0,b,x=>by rw [Nat.zero_add];rfl
 | a+1,b,x=>by rw [show a+1+b=(a+b)+1 by omega,upN,upN,upN_add t a b]
theorem up_soon {t:GTables} (hp:parentsB t) {x:Int} (hx:0≤x∧x < t.Things.length) {k:Nat} (h:upN t k x=0):∃j,j < t.Things.length∧upN t j x=0:=by
 induction k using Nat.strongRecOn with
 | ind k ih=>
   by_cases hk:k < t.Things.length
   ·exact⟨k,hk,h⟩
   by_cases hz:∃j,j < k∧upN t j x=0
   ·obtain⟨j,h1,h2⟩:=hz
    exact ih j h1 h2
   have hz':∀j,j < k→upN t j x≠0:=fun j hj he=>hz ⟨j,hj,he⟩
   have hl:¬((List.range t.Things.length).map fun j=>upN t j x).Nodup:=by
    intro hn
    rcases nodup_lt (n:=t.Things.length) hn (by
     intro y hy
     obtain⟨j,hj,rfl⟩:=List.mem_map.1 hy
     have hj:=List.mem_range.1 hj
     have h1:=upN_in hp j x hx
     have h2:=hz' j (by omega)
     omega)with h1 | h1
    ·simp at h1
    ·rw [List.map_eq_nil_iff,List.range_eq_nil]at h1;omega
   have:∃a b,a < b∧b < t.Things.length∧upN t a x=upN t b x:=by
    refine Classical.byContradiction fun hno=>hl ?_
    rw [List.nodup_iff_pairwise_ne,List.pairwise_map]
    refine List.Pairwise.imp_of_mem ?_ List.pairwise_lt_range
    intro a b ha hb hab he
    exact hno ⟨a,b,hab,List.mem_range.1 hb,he⟩
   obtain⟨a,b,hab,hb,he⟩:=this
   have h3:upN t (a+(k-b)) x=0:=by
    rw [upN_add,he,←upN_add,show b+(k-b)=k by omega]
    exact h
   exact absurd h3 (hz' _ (by omega))
theorem top_ends {t:GTables} (hp:parentsB t) {x:Int} (hx:0 < x∧x < t.Things.length):decide (topP t t.Things.length x≠0)=endsB t x:=by
 rw [Bool.eq_iff_iff,decide_eq_true_eq,endsB,endsM_ne,topP_ne t _ x (by omega)]
 constructor
 ·rintro⟨j,h1,h2⟩
  exact up_soon hp ⟨by omega,hx.2⟩ h2
 ·rintro⟨j,h1,h2⟩
  cases j with
  | zero=>exact absurd h2 (by show x≠0;omega)
  | succ j=>exact⟨j,by omega,h2⟩
theorem roomM_top {t:GTables} (hp:parentsB t) (hr:∀x∈t.Things,x.Room=true→x.Parent=0):∀(k:Nat) (x:Int),0 < x∧x < t.Things.length→topP t k x≠0→roomM t k x=roomB t (topP t k x)
 | 0,x,_,h=>(h rfl).elim
 | k+1,x,hx,h=>by
   have hth:thingB t x=true:=by unfold thingB fromB;simp;omega
   have hmem:=thingAt_mem (t:=t) (n:=x) ⟨by omega,hx.2⟩
   have hrb:roomB t x=(thingAt t x).Room:=rfl
   rw [roomM,if_pos hth]
   rw [topP]at h ⊢
   split at h
   ·rename_i h0
    rw [if_pos h0]
    cases hR:roomB t x with
    | true=>rfl
    | false=>
      rw [if_neg (by simp),h0]
      cases k with
      | zero=>rfl
      | succ k=>rw [roomM,if_neg (by simp [thingB,fromB])]
   ·rename_i h0
    rw [if_neg h0]
    have hR:roomB t x=false:=by
     cases hR:roomB t x with
     | false=>rfl
     | true=>exact absurd (hr _ hmem (by rw [←hrb];exact hR)) h0
    have hpx:=hp _ hmem
    rw [hR,if_neg (by simp)]
    exact roomM_top hp hr k _ ⟨by omega,hpx.2⟩ h
theorem topP_in {t:GTables} (hp:parentsB t):∀(k:Nat) (x:Int),0≤x∧x < t.Things.length→0≤topP t k x∧topP t k x < t.Things.length
 | 0,x,hx=>by rw [topP];omega
 | k+1,x,hx=>by
   rw [topP]
   split
   ·exact hx
   ·exact topP_in hp k _ (hp _ (thingAt_mem hx))
def freeP(t:GTables) (n:Int):Bool:=fromB n 0 (t.Params.length-1) && decide (t.Params[n.toNat]?.getD 0=0)
def wayP(t:GTables) (last:Int) (w:GWay):Bool:=
 decide (last < w.Dir) && decide (w.Dir≤12) && (thingB t w.To && roomB t w.To) && (decide (w.When= -1) || freeP t w.When) && (decide (w.Else= -1) || fromB w.Else 0 (t.Texts.length-1))
def waysP(t:GTables):Int→List GWay→Bool
 | _,[]=>true
 | p,w::l=>wayP t p w && waysP t w.Dir l
theorem waysP_eq(t:GTables):∀(l:List GWay) (p:Option GWay),(∀q,p=some q→1≤q.Dir)→waysP t ((p.map (·.Dir)).getD 0) l=waysM t p l
 | [],_,_=>rfl
 | w::l,p,hp=>by
   rw [waysP,waysM]
   by_cases h1:1≤w.Dir
   ·rw [←waysP_eq t l (some w) (by intro q hq;cases hq;exact h1)]
    congr 1
    unfold wayP wayB routB textB freeP prevB fromB
    cases p with
    | none=>
      simp only [Option.map_none,Option.getD_none,Bool.true_and,Bool.and_true,show decide (0 < w.Dir)=true by simp;omega,show decide (1≤w.Dir)=true by simp;exact h1,Bool.and_assoc]
      congr 2
      rw [Bool.or_comm (decide (w.Else= -1))]
    | some q=>
      have:=hp q rfl
      simp only [Option.map_some,Option.getD_some,Bool.true_and,show decide (1≤w.Dir)=true by simp;exact h1,Bool.and_assoc]
      rw [Bool.and_comm (decide (q.Dir < w.Dir)),Bool.and_assoc]
      congr 1
      rw [Bool.and_comm _ (decide (q.Dir < w.Dir))]
      congr 3
      rw [Bool.or_comm (decide (w.Else= -1))]
   ·have e1:wayP t ((p.map (·.Dir)).getD 0) w=false:=by
     unfold wayP
     have:decide ((p.map (·.Dir)).getD 0 < w.Dir)=false:=by
      cases p with
      | none=>simp;omega
      | some q=>have:=hp q rfl;simp;omega
     rw [this];rfl
    have e2:wayB t p w=false:=by
     unfold wayB fromB
     have:decide (1≤w.Dir)=false:=by simp;omega
     rw [this];rfl
    rw [e1,e2];rfl
end Go.Ab
namespace Go.Ab
open Go.Proofs Go.Proofs.Tryz
def textI(t:GTables) (n:Int):Bool:=fromB n 0 (t.Texts.length-1)
theorem textI_eq(t:GTables) (n:Int):textI t n=textB t n false:=by unfold textI textB;simp
theorem textI_or(t:GTables) (n:Int):(decide (n= -1) || textI t n)=textB t n true:=by unfold textI textB;rw [Bool.true_and,Bool.or_comm]
theorem freeP_eq(t:GTables) (n:Int):freeP t n=routB t n false:=by unfold freeP routB;simp
theorem freeP_or(t:GTables) (n:Int):(decide (n= -1) || freeP t n)=routB t n true:=by unfold freeP routB;simp
def wordsP(l:List ByteArray) (most:Int):Bool:=decide ((l.length:Int)≤most) && allB isWordB l
theorem wordsP_eq(l:List ByteArray) (most:Int):wordsP l most=wordsB l most:=by unfold wordsP wordsB;rw [Bool.and_comm]
def nothingP(x:GThing):Bool:=
 decide (x.Title=0) && decide (x.Text= -1) && decide (x.Parent=0) && decide (x.Flags=0) &&!x.Room && allB (fun n=>decide (n=0)) x.Props && decide (x.Words.length+x.Adjs.length+x.Ways.length=0)
def aloneP(t:GTables) (x:GThing):Bool:=
 textI t x.Title && (decide (x.Text= -1) || textI t x.Text) && decide (0≤x.Flags) && decide (x.Flags < bitsM t.Flags) && allB int16 x.Props && wordsP x.Words 8 && wordsP x.Adjs 8 &&
 (if x.Room then decide (x.Parent=0) && waysP t 0 x.Ways else decide (x.Ways.length=0) && (decide (x.Parent=0) || thingB t x.Parent))
theorem alone_eq(t:GTables) (x:GThing):(decide (x.Props.length=t.Props.length) && aloneP t x)=thingOk t x:=by
 unfold aloneP thingOk
 rw [textI_eq,textI_or,wordsP_eq,wordsP_eq,show waysP t 0 x.Ways=waysB t x.Ways from waysP_eq t x.Ways none (fun _ h=>by cases h)]
 rw [show fromB x.Flags 0 (bitsM t.Flags-1)=(decide (0≤x.Flags) && decide (x.Flags < bitsM t.Flags)) by unfold fromB;congr 1;simp;omega]
 cases hR:x.Room with
 | true=>
   rw [if_pos rfl]
   simp only [Bool.not_true,Bool.false_or,Bool.true_or,Bool.and_true]
   by_cases hP:x.Parent=0
   ·simp [hP,Bool.and_assoc,Bool.and_comm,Bool.and_left_comm]
   ·simp [hP]
 | false=>
   rw [if_neg (by simp)]
   simp only [Bool.not_false,Bool.true_or,Bool.and_true,Bool.false_or]
   by_cases hW:x.Ways.length=0
   ·have:x.Ways=[]:=List.length_eq_zero_iff.1 hW
    rw [this]
    simp [waysB,waysM,Bool.and_assoc,Bool.and_comm,Bool.and_left_comm]
   ·simp [hW]
def thingsP(t:GTables):Bool:=
 fromB t.Things.length 3 128 && nothingP (thingAt t 0) && (allB (fun x:GThing=>decide (x.Props.length=t.Props.length)) t.Things && allB (aloneP t) (t.Things.drop 1)) &&
 allB (fun i:Nat=>decide (topP t t.Things.length ((i:Int)+1)≠0)) (List.range (t.Things.length-1)) && (!(thingAt t 1).Room && (thingB t (topP t t.Things.length 1) && roomB t (topP t t.Things.length 1)))
theorem thingsP_eq(t:GTables):thingsP t=thingsB t:=by
 unfold thingsP thingsB
 by_cases hA:¬fromB t.Things.length 3 128=true
 ·rw [Bool.not_eq_true]at hA
  rw [hA];rfl
 have hA:fromB t.Things.length 3 128=true:=Classical.not_not.1 hA
 have hlen:3≤t.Things.length:=by unfold fromB at hA;simp at hA;omega
 obtain⟨x0,xs,hT⟩:∃x0 xs,t.Things=x0::xs:=by
  cases h:t.Things with
  | nil=>rw [h]at hlen;simp at hlen
  | cons a l=>exact⟨a,l,rfl⟩
 have h0:thingAt t 0=x0:=by unfold thingAt;rw [hT];rfl
 have hd:t.Things.drop 1=xs:=by rw [hT];rfl
 have hb:(nothingP x0 && decide (x0.Props.length=t.Props.length))=nothingB t x0:=by
  unfold nothingP nothingB
  simp only [Bool.and_assoc,Bool.and_comm,Bool.and_left_comm]
 have hall:(allB (fun x:GThing=>decide (x.Props.length=t.Props.length)) xs && allB (aloneP t) xs)=allB (thingOk t) xs:=by
  unfold allB
  rw [Bool.eq_iff_iff,Bool.and_eq_true,List.all_eq_true,List.all_eq_true,List.all_eq_true]
  constructor
  ·rintro⟨h1,h2⟩ x hx
   rw [←alone_eq,h1 x hx,h2 x hx];rfl
  ·intro h
   have h':∀x∈xs,decide (x.Props.length=t.Props.length)=true∧aloneP t x=true:=by
    intro x hx
    have:=h x hx
    rwa [←alone_eq,Bool.and_eq_true]at this
   exact⟨fun x hx=>(h' x hx).1,fun x hx=>(h' x hx).2⟩
 rw [hA,h0,hd]
 have hsp:allB (fun x:GThing=>decide (x.Props.length=t.Props.length)) t.Things=(decide (x0.Props.length=t.Props.length) && allB (fun x:GThing=>decide (x.Props.length=t.Props.length)) xs):=by
  rw [hT];rfl
 rw [hsp]
 have e1:(true && nothingP x0 && (decide (x0.Props.length=t.Props.length) && allB (fun x:GThing=>decide (x.Props.length=t.Props.length)) xs && allB (aloneP t) xs))=(nothingB t x0 && allB (thingOk t) xs):=by
  rw [←hb,←hall]
  simp only [Bool.true_and,Bool.and_assoc]
 rw [e1]
 cases hN:nothingB t x0 with
 | false=>rfl
 | true=>
   cases hO:allB (thingOk t) xs with
   | false=>simp
   | true=>
     have hN':=hN
     unfold nothingB at hN'
     simp only [Bool.and_eq_true,decide_eq_true_eq]at hN'
     have hx0:x0.Parent=0:=hN'.1.1.1.1.1.2
     have hR0:x0.Room=false:=by simpa using hN'.1.1.1.2
     have hk:∀x∈xs,(x.Parent=0∨thingB t x.Parent=true)∧(x.Room=true→x.Parent=0):=by
      intro x hx
      have:=List.all_eq_true.1 hO x hx
      unfold thingOk at this
      simp only [Bool.and_eq_true,Bool.or_eq_true,decide_eq_true_eq,Bool.not_eq_true']at this
      refine⟨this.1.1.1.2,fun hR=>?_⟩
      rcases this.1.1.2 with h | h
      ·rw [hR]at h;cases h
      ·exact h
     have hp:parentsB t:=by
      intro x hx
      rw [hT]at hx
      rcases List.mem_cons.1 hx with rfl | hx
      ·rw [hx0];omega
      ·rcases(hk x hx).1 with h | h
       ·rw [h];omega
       ·unfold thingB fromB at h;simp at h;omega
     have hr:∀x∈t.Things,x.Room=true→x.Parent=0:=by
      intro x hx hR
      rw [hT]at hx
      rcases List.mem_cons.1 hx with rfl | hx
      ·exact hx0
      ·exact(hk x hx).2 hR
     have hE:allB (fun i:Nat=>decide (topP t t.Things.length ((i:Int)+1)≠0)) (List.range (t.Things.length-1))=allB (fun(i:Nat)=>endsB t ((i:Int)+1)) (List.range (t.Things.length-1)):=by
      unfold allB
      rw [Bool.eq_iff_iff,List.all_eq_true,List.all_eq_true]
      constructor
      ·intro h i hi
       rw [←top_ends hp (by have:=List.mem_range.1 hi;omega)]
       exact h i hi
      ·intro h i hi
       have:=h i hi
       rw [←top_ends hp (by have:=List.mem_range.1 hi;omega)]at this
       exact this
     rw [hE]
     cases hEE:allB (fun(i:Nat)=>endsB t ((i:Int)+1)) (List.range (t.Things.length-1))with
     | false=>simp
     | true=>
       have h1:endsB t 1=true:=List.all_eq_true.1 hEE 0 (List.mem_range.2 (by omega))
       rw [←top_ends hp (by omega)]at h1
       have hne:topP t t.Things.length 1≠0:=by simpa using h1
       have hin:=topP_in hp t.Things.length 1 (by omega)
       have hth:thingB t (topP t t.Things.length 1)=true:=by unfold thingB fromB;simp;omega
       have hrm:=roomM_top hp hr t.Things.length 1 (by omega) hne
       rw [hth,Bool.true_and,←hrm]
       show _=(true && true &&!(thingAt t 1).Room && true && true && inRoomB t 1)
       unfold inRoomB
       simp
end Go.Ab
namespace Go.Ab
open Go.Proofs Go.Proofs.Tryz
def numbersP(t:GTables):Bool:=
 decide (t.Texts.length≤4096) && allB isTextB t.Texts && textI t t.Title && textI t t.By && fromB t.Release 0 32767 && fromB t.Max 0 32767 && fromB t.Flags 4 16 && decide (t.Props.length≤16) && decide (t.Globals.length≤64) && allB int16 t.Props && allB int16 t.Globals
def routinesP(t:GTables):Bool:=decide (t.Params.length=t.Locals.length) && decide (t.Params.length≤2048) && allB (paramB t) (List.range t.Params.length)
theorem head_eq(t:GTables):(numbersP t && routinesP t)=headB t:=by
 unfold numbersP routinesP headB
 rw [textI_eq,textI_eq]
 simp only [Bool.and_assoc,Bool.and_comm,Bool.and_left_comm]
def slotP(first:Bool) (s:GSlot):Bool:=
 if s.Kind=1 then decide (s.Words.length≠0) && wordsP s.Words 4 else fromB s.Kind 2 5 && decide (s.Words.length=0) && (!first || decide (s.Kind=5))
def slotsP:Bool→List GSlot→Bool
 | _,[]=>true
 | b,s::l=>slotP b s && slotsP false l
theorem slotP_eq(b:Bool) (s:GSlot):slotP b s=(slotB s && (!b || (decide (s.Kind=1) || decide (s.Kind=5)))):=by
 unfold slotP slotB
 rw [wordsP_eq]
 split
 ·rename_i h
  simp [h,fromB]
 ·rename_i h
  by_cases hW:s.Words.length=0
  ·have:s.Words=[]:=List.length_eq_zero_iff.1 hW
   rw [this]
   have hf:fromB s.Kind 2 5=fromB s.Kind 1 5:=by
    unfold fromB;congr 1;simp;omega
   simp [h,hf,wordsB,allB]
  ·have hp:0 < s.Words.length:=by omega
   simp [h,hW,hp]
theorem slotsP_false:∀l:List GSlot,slotsP false l=allB slotB l
 | []=>rfl
 | s::l=>by rw [slotsP,slotsP_false l,slotP_eq];simp [allB]
def lineP(l:List GSlot):Bool:=
 slotsP true l && (fromB l.length 1 8 && decide ((l.countP nounB:Int)≤2) && decide ((l.countP (fun s=>decide (s.Kind=4)):Int)≤1) && decide ((l.countP (fun s=>decide (s.Kind=5)):Int)≤1))
theorem lineP_eq(l:List GSlot):lineP l=lineB l:=by
 cases l with
 | nil=>rfl
 | cons s l=>
   unfold lineP lineB
   rw [slotsP,slotsP_false,slotP_eq]
   have e0:((s::l)[0]?.getD GSlot.zero)=s:=rfl
   rw [e0]
   generalize decide (((s::l).countP nounB:Int)≤2)=a
   generalize decide (((s::l).countP (fun s=>decide (s.Kind=4)):Int)≤1)=b
   generalize decide (((s::l).countP (fun s=>decide (s.Kind=5)):Int)≤1)=c
   generalize fromB ((s::l).length:Nat) 1 8=d
   generalize (decide (s.Kind=1) || decide (s.Kind=5))=e
   show(slotB s && (false || e) && allB slotB l && (d && a && b && c))=(allB slotB (s::l) && (d && e && a && b && c))
   rw [show allB slotB (s::l)=(slotB s && allB slotB l)from rfl]
   simp only [Bool.false_or,Bool.and_assoc,Bool.and_comm,Bool.and_left_comm]
def nounP(t:GTables) (n:Int):Bool:=decide (n= -1) || thingB t n
def actP(a:GAct):Bool:=fromB a.Lines.length 1 8 && allB lineP a.Lines
def deedP(t:GTables) (d:GDeed):Bool:=
 fromB d.Verb 0 (t.Acts.length-1) && fromB d.Phase 1 3 && nounP t d.Noun && nounP t d.Second && (decide (d.When= -1) || freeP t d.When) && freeP t d.Body
theorem actP_eq(a:GAct):actP a=actB a:=by
 unfold actP actB
 rw [show lineP=lineB from funext lineP_eq]
theorem deedP_eq(t:GTables) (d:GDeed):deedP t d=deedB t d:=by
 unfold deedP deedB nounP
 rw [freeP_or,freeP_eq]
def fitsP(t:GTables):Bool:=
 numbersP t && routinesP t && thingsP t && decide (t.Acts.length≤64) && decide (t.Deeds.length≤512) && decide (t.Funcs.length≤64) && decide (t.Daemons.length≤16) &&
 (allB actP t.Acts && allB (deedP t) t.Deeds && (allB (fun n=>fromB n 0 (t.Params.length-1)) t.Funcs && allB (freeP t) t.Daemons))
theorem fitsP_eq(t:GTables):fitsP t=fitsB t:=by
 unfold fitsP fitsB rulesB
 rw [head_eq,thingsP_eq,show actP=actB from funext actP_eq,show deedP t=deedB t from funext (deedP_eq t),show freeP t=(fun n=>routB t n false)from funext (freeP_eq t)]
 simp only [Bool.and_assoc]
end Go.Ab
namespace Go.Ab
open Go.Proofs Go.Proofs.Tryz
set_option maxHeartbeats 4000000
set_option maxRecDepth 20000
theorem wText_ok(t:GTables) (ht:t.wf) (n:Int):Pure prog 65 [.agg (t.enc.map .d),iD n] (oD (textI t n)):=by
 have hlen:t.Texts.length≤1000000000000000:=by have:=GTables.wl_Texts ht;omega
 unfold textI
 refine rn func65 ?_;simp [-cB,f65]
 repeat' (first
  | (with_reducible refine And.intro ?_ ?_)
  | ((first | (refine condC_split (fun h=>?_) (fun h=>?_) <;> (try simp at h)) | refine pC (wAmong_ok _ _ _) ?_ | refine lC (wAmong_ok _ _ _) ?_ | refine pG (wAmong_ok _ _ _) ?_) <;> (try simp [-cB, *]))
  | (with_reducible intro _))
 all_goals (first | assumption | omega | (rw [inR_i64];omega) | (simp_all [fromB];done) | grind [fromB] | skip)
theorem wThing_ok(t:GTables) (ht:t.wf) (n:Int):Pure prog 29 [.agg (t.enc.map .d),iD n] (oD (thingB t n)):=by
 have hlen:t.Things.length≤1000000000000000:=by have:=GTables.wl_Things ht;omega
 unfold thingB
 refine rn func29 ?_;simp [-cB,f29]
 repeat' (first
  | (with_reducible refine And.intro ?_ ?_)
  | ((first | (refine condC_split (fun h=>?_) (fun h=>?_) <;> (try simp at h)) | refine pC (wAmong_ok _ _ _) ?_ | refine lC (wAmong_ok _ _ _) ?_ | refine pG (wAmong_ok _ _ _) ?_) <;> (try simp [-cB, *]))
  | (with_reducible intro _))
 all_goals (first | assumption | omega | (rw [inR_i64];omega) | (simp_all [fromB];done) | grind [fromB] | skip)
theorem wFree_ok(t:GTables) (ht:t.wf) (n:Int):Pure prog 37 [.agg (t.enc.map .d),iD n] (oD (freeP t n)):=by
 have hlen:t.Params.length≤1000000000000000:=by have:=GTables.wl_Params ht;omega
 unfold freeP
 refine rn func37 ?_;simp [-cB,f37]
 repeat' (first
  | (with_reducible refine And.intro ?_ ?_)
  | ((first | (refine condC_split (fun h=>?_) (fun h=>?_) <;> (try simp at h)) | refine pC (wAmong_ok _ _ _) ?_ | refine lC (wAmong_ok _ _ _) ?_ | refine pG (wAmong_ok _ _ _) ?_) <;> (try simp [-cB, *]))
  | (with_reducible intro _))
 all_goals (first | assumption | omega | (rw [inR_i64];omega) | (simp_all [fromB];done) | grind [fromB] | skip)
theorem wRoom_ok(t:GTables) (ht:t.wf) (n:Int):Pure prog 70 [.agg (t.enc.map .d),iD n] (oD (thingB t n && roomB t n)):=by
 have hlen:t.Things.length≤1000000000000000:=by have:=GTables.wl_Things ht;omega
 have hq:=wThing_ok t ht n
 have hin:thingB t n=true→0≤n∧n.toNat < t.Things.length:=by unfold thingB fromB;simp;omega
 unfold roomB
 generalize thingB t n=b at *
 refine rn func70 ?_;simp [-cB,f70]
 repeat' (first
  | (with_reducible refine And.intro ?_ ?_)
  | ((first | (refine condC_split (fun h=>?_) (fun h=>?_) <;> (try simp at h)) | refine pC hq ?_ | refine lC hq ?_ | refine pG hq ?_) <;> (try simp [-cB, *]))
  | (with_reducible intro _))
 all_goals (first | assumption | omega | (rw [inR_i64];omega) | (simp_all;done) | grind | skip)
theorem wWords_ok(l:List ByteArray) (hl:l.length≤1000000000000000) (hs:∀x∈l,x.size≤1000000000000000) (most:Int):Pure prog 71 [.d (.sl (encS l)),iD most] (oD (wordsP l most)):=by
 have hq:=allStr_ok l hl 109 [] rfl isWordB (fun x hx=>wIsWord_ok x (hs x hx))
 unfold wordsP
 generalize allB isWordB l=b at *
 refine rn func71 ?_;simp [-cB,f71]
 repeat' (first
  | (with_reducible refine And.intro ?_ ?_)
  | ((first | (refine condC_split (fun h=>?_) (fun h=>?_) <;> (try simp at h)) | refine pC hq ?_ | refine lC hq ?_ | refine pG hq ?_) <;> (try simp [-cB, *]))
  | (with_reducible intro _))
 all_goals (first | assumption | omega | (rw [inR_i64];omega) | (simp_all;done) | grind | skip)
theorem wNothing_ok(x:GThing) (hx:x.wf):Pure prog 66 [.agg (x.enc.map .d)] (oD (nothingP x)):=by
 have hx':=hx
 simp [GThing.wf]at hx'
 have hq:=allInt_ok x.Props (by omega) 107 [] rfl (fun n=>decide (n=0)) (fun n _=>wZero_ok n)
 unfold nothingP
 generalize allB (fun n=>decide (n=0)) x.Props=b at *
 refine rn func66 ?_;simp [-cB,f66]
 repeat' (first
  | (with_reducible refine And.intro ?_ ?_)
  | ((first | (refine condC_split (fun h=>?_) (fun h=>?_) <;> (try simp at h)) | refine pC hq ?_ | refine lC hq ?_ | refine pG hq ?_) <;> (try simp [-cB, *]))
  | (with_reducible intro _))
 all_goals (first | assumption | omega | (rw [inR_i64];omega) | (simp_all;done) | grind | skip)
 have e:decide ((x.Words.length:Int)+x.Adjs.length+x.Ways.length=0)=(decide (x.Words=[]) && decide (x.Adjs=[]) && decide (x.Ways=[])):=by
  rw [Bool.eq_iff_iff];simp only [decide_eq_true_eq,Bool.and_eq_true,←List.length_eq_zero_iff];omega
 rw [e]
theorem wNumbers_ok(t:GTables) (ht:t.wf):Pure prog 25 [.agg (t.enc.map .d)] (oD (numbersP t)):=by
 have hl1:=GTables.wl_Texts ht
 have hl2:=GTables.wl_Props ht
 have hl3:=GTables.wl_Globals ht
 have hq1:=allStr_ok t.Texts (by omega) 64 [] rfl isTextB (fun x hx=>wIsText_ok x (by have:=GTables.wf_Texts ht x hx;omega))
 have hq2:=allInt_ok t.Props (by omega) 55 [] rfl int16 (fun n _=>wIs_ok n)
 have hq3:=allInt_ok t.Globals (by omega) 55 [] rfl int16 (fun n _=>wIs_ok n)
 have hq4:=wText_ok t ht
 unfold numbersP
 generalize allB isTextB t.Texts=b1 at *
 generalize allB int16 t.Props=b2 at *
 generalize allB int16 t.Globals=b3 at *
 refine rn func25 ?_;simp [-cB,f25]
 repeat' (first
  | (with_reducible refine And.intro ?_ ?_)
  | ((first | (refine condC_split (fun h=>?_) (fun h=>?_) <;> (try simp at h)) | refine pC hq1 ?_ | refine pC hq2 ?_ | refine pC hq3 ?_ | refine pC (hq4 _) ?_ | refine pC (wAmong_ok _ _ _) ?_ | refine lC hq1 ?_ | refine lC hq2 ?_ | refine lC hq3 ?_ | refine lC (hq4 _) ?_ | refine lC (wAmong_ok _ _ _) ?_ | refine pG hq1 ?_ | refine pG hq2 ?_ | refine pG hq3 ?_ | refine pG (hq4 _) ?_ | refine pG (wAmong_ok _ _ _) ?_) <;> (try simp [-cB, *]))
  | (with_reducible intro _))
 all_goals (first | assumption | omega | (rw [inR_i64];omega) | (simp_all;done) | grind | skip)
theorem wRoutines_ok(t:GTables) (ht:t.wf):Pure prog 26 [.agg (t.enc.map .d)] (oD (routinesP t)):=by
 have hl1:=GTables.wl_Params ht
 have hl2:=GTables.wl_Locals ht
 by_cases hne:t.Params.length=t.Locals.length∧t.Params.length≤2048
 ·obtain⟨h1,h2⟩:=hne
  have e:routinesP t=allB (paramB t) (List.range t.Locals.length):=by unfold routinesP;rw [h1];simp;omega
  have h2':¬(2048:Int) < t.Locals.length:=by omega
  rw [e]
  refine rn func26 ?_;simp [-cB,f26]
  intro bs
  simp [-cB,h1,h2']
  refine AWP.loopS [1,19,20,21] t.Locals.length (fun i=> [(21,iD i)]) (fun _=> []) (fun i=>allB (paramB t) (List.range i)=true) (by rfl) (by simp [allB]) ?_
  intro i hi hH
  rcases Nat.lt_or_eq_of_le hi with hlt | heq
  ·have hp:t.Params[i]?=some t.Params[i]:=List.getElem?_eq_getElem (by omega)
   have hl:t.Locals[i]?=some t.Locals[i]:=List.getElem?_eq_getElem hlt
   have hsn:allB (paramB t) (List.range (i+1))=paramB t i:=by rw [List.range_succ,allB_snoc,hH];simp
   have hpb:paramB t i=(fromB t.Params[i] 0 8 && fromB t.Locals[i] t.Params[i] 24):=by simp [paramB,hp,hl]
   have hall:paramB t i=false→allB (paramB t) (List.range t.Locals.length)=false:=by
    intro hf
    rw [Bool.eq_false_iff]
    intro ha
    have:=List.all_eq_true.1 ha i (List.mem_range.2 hlt)
    rw [hf]at this;cases this
   have hlt':(i:Int) < t.Locals.length:=by omega
   have hlp:i < t.Params.length:=by omega
   have h64:inR .i64 ((i:Int)+1):=iW
   generalize hA:t.Params[i]=p at *
   generalize hB:t.Locals[i]=q at *
   rw [hpb]at hsn hall
   simp [-cB,hlt,hlt',hlp,hp,hl,hA,hB]
   have hq1:=wAmong_ok p 0 8
   have hq2:=wAmong_ok q p 24
   generalize fromB p 0 8=x at *
   generalize fromB q p 24=y at *
   clear hpb
   repeat' (first
    | (with_reducible refine And.intro ?_ ?_)
    | ((first | (refine condC_split (fun h=>?_) (fun h=>?_) <;> (try simp at h)) | refine pC hq1 ?_ | refine pC hq2 ?_ | refine lC hq1 ?_ | refine lC hq2 ?_ | refine pG hq1 ?_ | refine pG hq2 ?_) <;> (try simp [-cB, *]))
    | (with_reducible intro _))
   exact hall (by rcases h with h | h <;> simp [h])
  ·simp [heq]at hH ⊢
   simp [hH]
 ·have e:routinesP t=false:=by unfold routinesP;simp;omega
  rw [e]
  refine rn func26 ?_;simp [-cB,f26]
  intro bs
  repeat' (first
   | (with_reducible refine And.intro ?_ ?_)
   | (refine condC_split (fun h=>?_) (fun h=>?_) <;> (try simp at h) <;> (try simp [-cB, *]))
   | (with_reducible intro _))
  exact absurd ⟨by omega,by omega⟩ hne
theorem wWays_ok(t:GTables) (ht:t.wf) (l:List GWay) (hl:l.length≤1000000000000000):Pure prog 108 [.agg (t.enc.map .d),.d (.sl (l.map GWay.enc))] (oD (waysP t 0 l)):=by
 have hq1:=wRoom_ok t ht
 have hq2:=wFree_ok t ht
 have hq3:=wText_ok t ht
 have last:∀(pre:List GWay) (p:Int) (r:List GWay),waysP t p (pre++r)=(waysP t p pre && waysP t ((pre.getLast?.map (·.Dir)).getD p) r):=by
  intro pre
  induction pre with
  | nil=>intro p r;simp [waysP]
  | cons w l ih=>
    intro p r
    rw [List.cons_append,waysP,waysP,ih,Bool.and_assoc]
    congr 3
    cases hl:l.getLast? with
    | none=>have:l=[]:=by simpa using hl
            subst this;simp
    | some q=>simp [List.getLast?_cons,hl]
 refine rn func108 ?_;simp [-cB,f108]
 intro bs
 refine AWP.loopL [2,5,8,9,10] l (fun pre=> [(5,iD ((pre.getLast?.map (·.Dir)).getD 0)),(10,iD pre.length)]) (fun _=> []) (fun pre=>waysP t 0 pre=true) (by rfl) (by omega) (by simp [waysP]) ?_ ?_
 ·rintro pre w post hsp hH hlt hge a4
  have hall:waysP t 0 l=(wayP t ((pre.getLast?.map (·.Dir)).getD 0) w && waysP t w.Dir post):=by rw [hsp,last,hH,waysP];simp
  have hsn:waysP t 0 (pre++ [w])=wayP t ((pre.getLast?.map (·.Dir)).getD 0) w:=by rw [last,hH,waysP,waysP];simp
  have hlast:((pre++ [w]).getLast?.map (·.Dir)).getD 0=w.Dir:=by simp
  clear hsp
  generalize (pre.getLast?.map (·.Dir)).getD 0=p at *
  unfold wayP at hall hsn
  have h1:=hq1 w.To
  have h2:=hq2 w.When
  have h3:=hq3 w.Else
  rw [show fromB w.Else 0 (↑t.Texts.length-1)=textI t w.Else from rfl]at hall hsn
  generalize (thingB t w.To && roomB t w.To)=x at *
  generalize freeP t w.When=y at *
  generalize textI t w.Else=z at *
  clear hq1 hq2 hq3 last
  simp [-cB, *]
  repeat' (first
   | (with_reducible refine And.intro ?_ ?_)
   | ((first | (refine condC_split (fun h=>?_) (fun h=>?_) <;> (try simp at h)) | refine pC h1 ?_ | refine pC h2 ?_ | refine pC h3 ?_ | refine lC h1 ?_ | refine lC h2 ?_ | refine lC h3 ?_ | refine pG h1 ?_ | refine pG h2 ?_ | refine pG h3 ?_) <;> (try simp [-cB, *]))
   | (with_reducible intro _))
  all_goals first | assumption | omega | (clear h1 h2 h3 hall hsn;grind)
 ·intro hH
  simp [*]
theorem wAlone_ok(t:GTables) (ht:t.wf) (hF:fromB t.Flags 4 16=true) (x:GThing) (hx:x.wf):Pure prog 68 [.agg (t.enc.map .d),.agg (x.enc.map .d)] (oD (aloneP t x)):=by
 have hx':=hx
 simp [GThing.wf]at hx'
 have hf:4≤t.Flags∧t.Flags≤16:=by unfold fromB at hF;simpa using hF
 have q1:=wText_ok t ht
 have q2:=allInt_ok x.Props (by omega) 55 [] rfl int16 (fun n _=>wIs_ok n)
 have q3:=wWords_ok x.Words (by omega) (fun y hy=>by have:=hx'.2.2.2.2.2.2.2.1 y hy;omega) 8
 have q4:=wWords_ok x.Adjs (by omega) (fun y hy=>by have:=hx'.2.2.2.2.2.2.2.2.2.1 y hy;omega) 8
 have q5:=wWays_ok t ht x.Ways (by omega)
 have q6:=wThing_ok t ht x.Parent
 unfold aloneP
 have q0:=q1 x.Title
 have q7:=q1 x.Text
 clear q1
 generalize textI t x.Title=a0 at *
 generalize textI t x.Text=a1 at *
 generalize allB int16 x.Props=a2 at *
 generalize wordsP x.Words 8=a3 at *
 generalize wordsP x.Adjs 8=a4 at *
 generalize waysP t 0 x.Ways=a5 at *
 generalize thingB t x.Parent=a6 at *
 refine rn func68 ?_;simp [-cB,f68]
 intro bs
 refine AWP.regionD [oD a0,oD a1,oD a2,oD a3,oD a4] tmix (by kernel_rfl) (by rfl) ?_
 have hsh:IntKind.wrap .i64 (2 ^ min t.Flags.toNat IntKind.i64.bits)=bitsM t.Flags:=by
  have e:min t.Flags.toNat IntKind.i64.bits=min t.Flags.toNat 16:=by show min _ 64=_;omega
  rw [e]
  have:=bitsM_le t.Flags
  exact inR_wrap (show inR .i64 (bitsM t.Flags) from iW)
 have k0:=fun L=>q0.ok L
 have k7:=fun L=>q7.ok L
 have k2:=fun L=>q2.ok L
 have k3:=fun L=>q3.ok L
 have k4:=fun L=>q4.ok L
 simp [-cB,hsh,k0,k7,k2,k3,k4]
 clear k0 k7 k2 k3 k4 q0 q7 q2 q3 q4
 generalize bitsM t.Flags=B at *
 have hf0:0≤t.Flags:=by omega
 cases hR:x.Room with
 | true=>
   repeat' (first
    | (with_reducible refine And.intro ?_ ?_)
    | ((first | (refine condC_split (fun h=>?_) (fun h=>?_) <;> (try simp at h)) | refine pC q5 ?_ | refine pC q6 ?_ | refine lC q5 ?_ | refine lC q6 ?_ | refine pG q5 ?_ | refine pG q6 ?_) <;> (try simp [-cB, *,hR]))
    | (with_reducible intro _))
   all_goals clear q5 q6
   all_goals first | assumption | omega | grind | skip
 | false=>
   repeat' (first
    | (with_reducible refine And.intro ?_ ?_)
    | ((first | (refine condC_split (fun h=>?_) (fun h=>?_) <;> (try simp at h)) | refine pC q5 ?_ | refine pC q6 ?_ | refine lC q5 ?_ | refine lC q6 ?_ | refine pG q5 ?_ | refine pG q6 ?_) <;> (try simp [-cB, *,hR]))
    | (with_reducible intro _))
   all_goals clear q5 q6
   all_goals first | assumption | omega | grind | skip
end Go.Ab
namespace Go.Ab
open Go.Proofs Go.Proofs.Tryz
set_option maxHeartbeats 4000000
set_option maxRecDepth 20000
theorem wUp_ok(t:GTables) (ht:t.wf) (n:Int) (hn:0≤n∧n < t.Things.length):Pure prog 67 [iD n,.rp t.enc] (iD (thingAt t n).Parent):=by
 have hget:=thingAt_elem hn
 have hg:=thingAt_get hn
 have hlt:n.toNat < t.Things.length:=by omega
 refine rn func67 ?_;simp [-cB,f67]
 repeat' (first
  | (with_reducible refine And.intro ?_ ?_)
  | (refine condC_split (fun h=>?_) (fun h=>?_) <;> (try simp at h) <;> (try simp [-cB, *,hget,hg,hlt,hn]))
  | (with_reducible intro _))
 ·omega
 ·exact hlt
 ·rw [hg];rfl
theorem wTop_ok(t:GTables) (ht:t.wf) (hp:parentsB t) (x:Int) (hx:0≤x∧x < t.Things.length):Pure prog 69 [.clo (.func 67) [] [.rp t.enc],iD x,iD t.Things.length] (iD (topP t t.Things.length x)):=by
 have hlen:t.Things.length≤1000000000000000:=by have:=GTables.wl_Things ht;omega
 refine rn func69 ?_;simp [-cB,f69]
 refine AWP.loopS [0,1,8,9] t.Things.length (fun i=> [(1,iD (upN t i x)),(9,iD i)]) (fun _=> []) (fun i=>topP t t.Things.length x=topP t (t.Things.length-i) (upN t i x)) (by rfl) (by simp [upN]) ?_
 intro i hi hH
 have hu:=upN_in hp i x hx
 rcases Nat.lt_or_eq_of_le hi with hlt | heq
 ·have h64:inR .i64 ((i:Int)+1):=iW
  have hlt':(i:Int) < t.Things.length:=by omega
  have hs:=upN_succ t i x
  have hq:=wUp_ok t ht (upN t i x) hu
  rw [show t.Things.length-i=(t.Things.length-(i+1))+1 by omega,topP,←hs]at hH
  rw [←hs]at hq
  obtain⟨u,hue⟩:∃u,upN t (i+1) x=u:=⟨_,rfl⟩
  rw [hue]at hq hH
  rw [hH]
  clear hs
  simp [-cB,hlt,hlt']
  refine pC hq ?_
  simp [-cB]
  by_cases hu0:u=0
  ·simp [hu0]
  ·simp [hu0,hlt,h64,hue]
 ·have hge:¬(i:Int) < t.Things.length:=by omega
  rw [heq,Nat.sub_self,topP]at hH
  simp [-cB,heq,hH]
end Go.Ab
namespace Go.Ab
mutual
def V.frb(h:Nat) (ds:List D):V→V
 | .bp i o=>if i=h then .rp (ds.drop o)else .bp i o
 | .rv i=>if i=h then .any else .rv i
 | .ep i k a b=>if i=h then .any else .ep i k a b
 | .clo fn f c=> .clo fn (V.frbs h ds f) (V.frbs h ds c)
 | .agg cs=> .agg (V.frbs h ds cs)
 | .tup cs=> .tup (V.frbs h ds cs)
 | .gd b x=> .gd b (V.frb h ds x)
 | .d x=> .d x
 | .rp cs=> .rp cs
 | .sv i n=>if i=h then .any else .sv i n
 | .kn Q=> .kn Q
 | .any=> .any
def V.frbs(h:Nat) (ds:List D):List V→List V
 | []=> []
 | x::l=>V.frb h ds x::V.frbs h ds l
end
theorem frbs_eq(h:Nat) (ds:List D):∀l:List V,V.frbs h ds l=l.map (V.frb h ds)
 | []=>by simp [V.frbs]
 | x::l=>by simp [V.frbs,frbs_eq h ds l]
@[simp] theorem frbs_dmap(h:Nat) (ds:List D) (l:List D):V.frbs h ds (l.map V.d)=l.map V.d:=by
 rw [frbs_eq,List.map_map]
 apply List.map_congr_left
 intro x _
 simp [V.frb]
def Res.frb(h:Nat) (ds:List D):Res→Res
 | .box b ty cs=> .box b ty (V.frbs h ds cs)
 | .row ty k xs=> .row ty k (xs.map (V.frbs h ds))
 | .env A=> .env A
 | .mp es=> .mp es
section
variable {P : Program} {w w' : World} {fo : FO} {m m' : Nat → Option Value} {L : Heap} {n : Nat} {s : St}
theorem RelV.frb {O O':Nat→Prop} {h:Nat} {ds:List D} (hO:∀b,O' b→O b) (hm:∀i x,i≠h→m i=some x→m' i=some x) (hy:∀b off,m h=some (.pointer (some ⟨b,0,none⟩))→RelV w O' m' (.pointer (some ⟨b,off,none⟩)) (.rp (ds.drop off))) {x:Value} {z:V} (hr:RelV w O m x z):RelV w O' m' x (V.frb h ds z):=by
 induction hr with
 | d x y hd=>simpa [V.frb]using RelV.d x y (hd.mono (Keep.refl w _) (fun b _ hb=>hO b hb))
 | bp i off b e=>
   simp only [V.frb]
   split
   ·rename_i hh;subst hh;exact hy b off e
   ·rename_i hne;exact .bp i off b (hm _ _ hne e)
 | rv i x e e1=>
   simp only [V.frb]
   split
   ·exact .any _
   ·rename_i hne;exact .rv i x (hm _ _ hne e) e1
 | ep i k p q b o n c e=>
   simp only [V.frb]
   split
   ·exact .any _
   ·rename_i hne;exact .ep i k p q b o n c (hm _ _ hne e)
 | rp b off cs f hb hlt hc hr=>simpa [V.frb]using RelV.rp (m:=m') b off cs f (fun h=>hb (hO b h)) hlt hc (fun j y hy=>(hr j y hy).mono (Keep.refl w _) (fun b _ hb=>hO b hb))
 | sv i n b cap e hc hx=>
   simp only [V.frb]
   split
   ·exact .any _
   ·rename_i hne;exact .sv i n b cap (hm _ _ hne e) hc hx
 | clo fn first caps cf cc s1 s2 h1 h2 ih1 ih2=>
   simp only [V.frb,frbs_eq]
   refine .clo fn first caps _ _ (by simpa using s1) (by simpa using s2) ?_ ?_
   ·intro j x y' hx hy'
    rw [List.getElem?_map]at hy'
    obtain⟨z,hz,rfl⟩:=Option.map_eq_some_iff.1 hy'
    exact ih1 j x z hx hz
   ·intro j x y' hx hy'
    rw [List.getElem?_map]at hy'
    obtain⟨z,hz,rfl⟩:=Option.map_eq_some_iff.1 hy'
    exact ih2 j x z hx hz
 | agg vs cs hs h1 h2 ih=>
   simp only [V.frb,frbs_eq]
   refine .agg vs _ (by simpa using hs) h1 ?_
   intro j x y' hx hy'
   rw [List.getElem?_map]at hy'
   obtain⟨z,hz,rfl⟩:=Option.map_eq_some_iff.1 hy'
   exact ih j x z hx hz
 | tup vs cs hs h2 ih=>
   simp only [V.frb,frbs_eq]
   refine .tup vs _ (by simpa using hs) ?_
   intro j x y' hx hy'
   rw [List.getElem?_map]at hy'
   obtain⟨z,hz,rfl⟩:=Option.map_eq_some_iff.1 hy'
   exact ih j x z hx hz
 | gt x y h ih=>simpa [V.frb]using RelV.gt _ _ ih
 | gf y=>simpa [V.frb]using RelV.gf _
 | kn x Q h=>simpa [V.frb]using RelV.kn (m:=m') x Q h
 | any x=>simpa [V.frb]using RelV.any _
theorem Res.Holds.frb {O O':Nat→Prop} {h:Nat} {ds:List D} (hO:∀b,O' b→O b) (hm:∀i x,i≠h→m i=some x→m' i=some x) (hy:∀b off,m h=some (.pointer (some ⟨b,0,none⟩))→RelV w O' m' (.pointer (some ⟨b,off,none⟩)) (.rp (ds.drop off))) {x:Value} {r:Res} (hr:r.Holds w O m x):(r.frb h ds).Holds w O' m' x:=by
 cases r with
 | box b ty cs=>
   obtain⟨bb,hbb,cur,rfl,h1,h2,h3,h4⟩:=hr
   refine⟨bb,hbb,cur,rfl,h1,by rw [frbs_eq,List.length_map];exact h2,h3,fun j v c hv hc=>?_⟩
   rw [frbs_eq,List.getElem?_map]at hc
   obtain⟨z,hz,rfl⟩:=Option.map_eq_some_iff.1 hc
   exact(h4 j v z hv hz).frb hO hm hy
 | row ty k xs=>
   rcases hr with⟨h1,h2⟩ | ⟨b,off,cap,cur,rfl,h1,h2,h3,h4,h5,h6,h7⟩
   ·exact .inl ⟨h1,by simp [h2]⟩
   ·refine .inr ⟨b,off,cap,cur,by rw [List.length_map],h1,by rw [List.length_map];exact h2,h3,h4,?_,h6,?_⟩
    ·intro i x hx
     rw [List.getElem?_map]at hx
     obtain⟨z,hz,rfl⟩:=Option.map_eq_some_iff.1 hx
     rw [frbs_eq,List.length_map]
     exact h5 i z hz
    ·intro i j x y' v hx hy' hv
     rw [List.getElem?_map]at hx
     obtain⟨z,hz,rfl⟩:=Option.map_eq_some_iff.1 hx
     rw [frbs_eq,List.getElem?_map]at hy'
     obtain⟨u,hu,rfl⟩:=Option.map_eq_some_iff.1 hy'
     exact(h7 i j z u v hz hu hv).frb hO hm hy
 | env A=>exact A.mono hr (fun _ _=>rfl) (Keep.refl w _) (fun b _ h=>hO b h)
 | mp es=>exact mapH_mono hr (fun _ _=>rfl) (Keep.refl w _) (fun b _ h=>hO b h)
def frbL(h:Nat) (ds:List D):Heap→Heap
 | []=> []
 | (i,r)::l=>if i=h then frbL h ds l else(i,Res.frb h ds r)::frbL h ds l
theorem frbL_eq(h:Nat) (ds:List D):∀L:Heap,frbL h ds L=(L.filter fun p=>p.1 !=h).map fun p=>(p.1,p.2.frb h ds)
 | []=>rfl
 | (i,r)::l=>by
   rw [frbL,frbL_eq h ds l]
   by_cases hi:i=h <;> simp [hi]
theorem Wk.freezeB(h:Nat) {b0:Nat} {ty:TypeId} {ds:List D} (hl:s.L.lookup h=some (.box b0 ty (ds.map .d))):Wk n s ⟨s.fr.map fun p=>(p.1,V.frb h ds p.2),frbL h ds s.L⟩:=by
 rw [frbL_eq]
 intro fo m a w g
 let m':Nat→Option Value:=fun i=>if i=h then none else m i
 have hm'1:∀i x,m' i=some x→m i=some x∧i≠h:=by
  intro i x hx
  simp only [m']at hx
  split at hx
  ·cases hx
  ·rename_i hne;exact⟨hx,hne⟩
 have hm'2:∀i x,i≠h→m i=some x→m' i=some x:=by
  intro i x hne hx
  simp only [m',if_neg hne];exact hx
 have hown:∀b,Ab.own m' b→Ab.own m b:=by
  rintro b ⟨i,x,hx,hb⟩
  exact⟨i,x,(hm'1 i x hx).1,hb⟩
 have hOO:∀b,OO fo m' b→OO fo m b:=fun b hb=>hb.imp (hown b) id
 have hi:=g.inv
 have hy:∀b off,m h=some (.pointer (some ⟨b,0,none⟩))→RelV w (OO fo m') m' (.pointer (some ⟨b,off,none⟩)) (.rp (ds.drop off)):=by
  intro b off hv
  obtain⟨x,hx,bb,_,cur,rfl,hb,hs,h1,h2⟩:=hi.holds h _ (lookup_mem hl)
  rw [hv]at hx
  simp only [Option.some.injEq,Value.pointer.injEq,Addr.mk.injEq]at hx
  obtain⟨rfl,_⟩:=hx
  rw [List.length_map]at hs
  refine .rp b off _ (fun j=>cur.getD (off+j) undef) ?_ (Array.getElem?_eq_some_iff.1 hb).1 (fun j hj=>?_) (fun j y hy=>?_)
  ·rintro(⟨i,x,hx,hb'⟩ | hf)
   ·have:=hi.apart h i _ x b hv (hm'1 i x hx).1 rfl hb'
    exact(hm'1 i x hx).2 this.symm
   ·exact hi.others h _ b hv rfl hf
  ·have hlt:off+j < cur.size:=by simp at hj;omega
   simp [World.cell?,hb,Array.getD,hlt]
  ·rw [List.getElem?_drop]at hy
   have hlt:off+j < cur.size:=by have:=(List.getElem?_eq_some_iff.1 hy).1;omega
   have h3:=h2 (off+j) _ (.d y) (Array.getElem?_eq_getElem hlt) (by rw [List.getElem?_map,hy];rfl)
   have h4:RelD w (OO fo m) cur[off+j] y:=by
    generalize cur[off+j]=v at h3
    cases h3 with
    | d _ _ h4=>exact h4
   have h5:=h4.mono (Keep.refl w _) (fun b _ hb=>hOO b hb)
   simpa [Array.getD,hlt]using h5
 refine⟨m',⟨g.size,?_,⟨?_,?_,?_,?_,hi.folt,?_,hi.glob.mono (Keep.refl w _) (fun b _ hb=>hOO b hb)⟩,g.defers⟩,⟨rfl,rfl,rfl,Nat.le_refl _,fun _ _ _=>rfl,fun b _ hb=>hown b hb⟩⟩
 ·intro t x hx
  obtain⟨p,hp,e⟩:=List.mem_map.1 hx
  simp only [Prod.mk.injEq]at e
  obtain⟨rfl,rfl⟩:=e
  obtain⟨h1,h2⟩:=g.fr p.1 p.2 hp
  exact⟨h1,h2.frb hOO hm'2 hy⟩
 ·have:keys ((s.L.filter fun p=>p.1 !=h).map fun p=>(p.1,p.2.frb h ds))=(keys s.L).filter fun i=>i !=h:=by
   simp only [keys,List.map_map,List.filter_map]
   rfl
  show(keys ((s.L.filter fun p=>p.1 !=h).map fun p=>(p.1,p.2.frb h ds))).Nodup
  rw [this]
  exact hi.nodup.filter _
 ·intro i x hx
  obtain⟨h1,h2⟩:=hm'1 i x hx
  have:=hi.dom i x h1
  simp only [keys,List.mem_map]at this ⊢
  obtain⟨p,hp,rfl⟩:=this
  exact⟨_,⟨p,List.mem_filter.2 ⟨hp,by simpa using h2⟩,rfl⟩,rfl⟩
 ·intro i i' x x' b hx hx' hb hb'
  exact hi.apart i i' x x' b (hm'1 i x hx).1 (hm'1 i' x' hx').1 hb hb'
 ·intro i x b hx hb
  exact hi.others i x b (hm'1 i x hx).1 hb
 ·intro i r hr
  obtain⟨p,hp,e⟩:=List.mem_map.1 hr
  simp only [Prod.mk.injEq]at e
  obtain⟨rfl,rfl⟩:=e
  obtain⟨hp1,hp2⟩:=List.mem_filter.1 hp
  obtain⟨x,hx,hh⟩:=hi.holds p.1 p.2 hp1
  exact⟨x,hm'2 _ _ (by simpa using hp2) hx,hh.frb hOO hm'2 hy⟩
attribute [simp] V.frb V.frbs Res.frb frbL
end
end Go.Ab
namespace Go.Ab
open Go.Proofs Go.Proofs.Tryz
set_option maxHeartbeats 4000000
set_option maxRecDepth 20000
def thB(t:GTables) (i:Nat):Bool:=decide ((thingAt t i).Props.length=t.Props.length) && (decide (i=0) || aloneP t (thingAt t i))
theorem thB_all(t:GTables) (h:0 < t.Things.length):allB (thB t) (List.range t.Things.length)=(allB (fun x:GThing=>decide (x.Props.length=t.Props.length)) t.Things && allB (aloneP t) (t.Things.drop 1)):=by
 have hat:∀i (hi:i < t.Things.length),thingAt t i=t.Things[i]:=by
  intro i hi
  unfold thingAt
  rw [Int.toNat_natCast,List.getElem?_eq_getElem hi];rfl
 rw [Bool.eq_iff_iff,Bool.and_eq_true]
 unfold allB
 rw [List.all_eq_true,List.all_eq_true,List.all_eq_true]
 constructor
 ·intro hA
  constructor
  ·intro x hx
   obtain⟨i,hi,rfl⟩:=List.getElem_of_mem hx
   have:=hA i (List.mem_range.2 hi)
   unfold thB at this
   rw [Bool.and_eq_true,hat i hi]at this
   exact this.1
  ·intro x hx
   obtain⟨i,hi,rfl⟩:=List.getElem_of_mem hx
   rw [List.length_drop]at hi
   rw [List.getElem_drop]
   have:=hA (1+i) (List.mem_range.2 (by omega))
   unfold thB at this
   rw [Bool.and_eq_true,hat (1+i) (by omega)]at this
   simpa using this.2
 ·rintro⟨h1,h2⟩ i hi
  have hi:=List.mem_range.1 hi
  unfold thB
  rw [Bool.and_eq_true,hat i hi]
  refine⟨h1 _ (List.getElem_mem hi),?_⟩
  by_cases h0:i=0
  ·simp [h0]
  ·have h3:t.Things[i]∈t.Things.drop 1:=by
    rw [List.mem_iff_getElem]
    refine⟨i-1,by rw [List.length_drop];omega,?_⟩
    rw [List.getElem_drop]
    congr 1
    omega
   rw [h2 _ h3];simp
theorem par_of {t:GTables} (h:0 < t.Things.length) (h0:nothingP (thingAt t 0)=true) (hA:allB (thB t) (List.range t.Things.length)=true):parentsB t:=by
 intro x hx
 obtain⟨i,hi,rfl⟩:=List.getElem_of_mem hx
 have hat:thingAt t i=t.Things[i]:=by
  unfold thingAt
  rw [Int.toNat_natCast,List.getElem?_eq_getElem hi];rfl
 by_cases hi0:i=0
 ·subst hi0
  unfold nothingP at h0
  simp only [Bool.and_eq_true,decide_eq_true_eq]at h0
  have:(thingAt t ((0:Nat):Int)).Parent=0:=h0.1.1.1.1.2
  rw [←hat,this];omega
 ·have:=List.all_eq_true.1 hA i (List.mem_range.2 hi)
  unfold thB at this
  rw [Bool.and_eq_true,hat]at this
  have h2:aloneP t t.Things[i]=true:=by simpa [hi0]using this.2
  have h3:thingOk t t.Things[i]=true:=by rw [←alone_eq,this.1,h2];rfl
  unfold thingOk at h3
  simp only [Bool.and_eq_true,Bool.or_eq_true,decide_eq_true_eq]at h3
  rcases h3.1.1.1.2 with h4 | h4
  ·rw [h4];omega
  ·unfold thingB fromB at h4;simp at h4;omega
theorem wThings_ok(t:GTables) (ht:t.wf) (hF:fromB t.Flags 4 16=true):Pure prog 27 [.agg (t.enc.map .d)] (oD (thingsP t)):=by
 have hlen:t.Things.length≤1000000000000000:=by have:=GTables.wl_Things ht;omega
 have hq1:=wAmong_ok t.Things.length 3 128
 by_cases hA:¬fromB t.Things.length 3 128=true
 ·rw [Bool.not_eq_true]at hA
  have e:thingsP t=false:=by unfold thingsP;rw [hA];rfl
  rw [e]
  rw [hA]at hq1
  refine rn func27 ?_;simp [-cB,f27]
  intro bs
  refine pC hq1 ?_
  simp [-cB]
  refine pN (oD true) ?_
  simp [-cB]
 have hA:fromB t.Things.length 3 128=true:=Classical.not_not.1 hA
 have hl3:3≤t.Things.length:=by unfold fromB at hA;simp at hA;omega
 rw [hA]at hq1
 have h0m:thingAt t 0∈t.Things:=thingAt_mem ⟨by omega,by omega⟩
 have hwf:∀x∈t.Things,x.wf:=fun x hx=>GTables.wf_Things ht x hx
 have hq2:=wNothing_ok (thingAt t 0) (hwf _ h0m)
 have hl0:0 < t.Things.length:=by omega
 have e0:thingAt t 0=t.Things[0]:=(thingAt_elem (t:=t) (n:=0) ⟨by omega,by omega⟩).symm
 rw [e0]at hq2
 cases hN:nothingP t.Things[0]with
 | false=>
   have e:thingsP t=false:=by unfold thingsP;rw [hA,e0,hN];rfl
   rw [e]
   rw [hN]at hq2
   refine rn func27 ?_;simp [-cB,f27]
   intro bs
   refine pC hq1 ?_
   simp [-cB,hl0]
   refine pG hq2 ?_
   simp [-cB,hl0]
 | true=>
   have e:thingsP t=(allB (thB t) (List.range t.Things.length) && allB (fun i:Nat=>decide (topP t t.Things.length ((i:Int)+1)≠0)) (List.range (t.Things.length-1)) && (!(thingAt t 1).Room && (thingB t (topP t t.Things.length 1) && roomB t (topP t t.Things.length 1)))):=by
    unfold thingsP;rw [hA,e0,hN,thB_all t hl0];simp only [Bool.true_and]
   rw [e]
   rw [hN]at hq2
   refine rn func27 ?_;simp [-cB,f27]
   intro bs
   refine pC hq1 ?_
   simp [-cB,hl0]
   refine pG hq2 ?_
   simp [-cB,hl0]
   refine AWP.weaken (Wk.freezeB 1 (ds:=t.enc) rfl) ?_
   simp
   have hqa:∀i (hi:i < t.Things.length),Pure prog 68 [.agg (t.enc.map .d),.agg (t.Things[i].enc.map .d)] (oD (aloneP t t.Things[i])):=fun i hi=>wAlone_ok t ht hF _ (hwf _ (List.getElem_mem hi))
   have hat:∀i (hi:i < t.Things.length),thingAt t i=t.Things[i]:=by
    intro i hi
    unfold thingAt
    rw [Int.toNat_natCast,List.getElem?_eq_getElem hi];rfl
   refine AWP.loopS [1,3,22,23,24] t.Things.length (fun i=> [(24,iD i)]) (fun _=> []) (fun i=>allB (thB t) (List.range i)=true) (by rfl) (by simp [allB]) ?_
   intro i hi hH
   rcases Nat.lt_or_eq_of_le hi with hlt | heq
   ·have hge:t.Things[i]?=some t.Things[i]:=List.getElem?_eq_getElem hlt
    have hsn:allB (thB t) (List.range (i+1))=thB t i:=by rw [List.range_succ,allB_snoc,hH];simp
    have hall:thB t i=false→allB (thB t) (List.range t.Things.length)=false:=by
     intro hf
     rw [Bool.eq_false_iff]
     intro ha
     have:=List.all_eq_true.1 ha i (List.mem_range.2 hlt)
     rw [hf]at this;cases this
    have hth:thB t i=(decide (t.Things[i].Props.length=t.Props.length) && (decide (i=0) || aloneP t t.Things[i])):=by unfold thB;rw [hat i hlt]
    have hq:=hqa i hlt
    have hlt':(i:Int) < t.Things.length:=by omega
    have h64:inR .i64 ((i:Int)+1):=iW
    rw [hth]at hsn hall
    generalize hx:t.Things[i]=x at *
    generalize aloneP t x=a at *
    simp [-cB,hlt,hlt',hge,hx]
    intro bs1
    refine pG hq ?_
    simp [-cB]
    by_cases hpl:x.Props.length=t.Props.length
    ·by_cases hi0:i=0
     ·simp [hpl,hi0]at hsn ⊢
      exact⟨iW,hl0,hsn⟩
     ·have hi1:0 < i:=by omega
      cases a with
      | false=>simp [hpl,hi0,hi1,hall]
      | true=>
        simp [hpl,hi0,hi1]at hsn ⊢
        exact⟨h64,hlt,hsn⟩
    ·have hpl':¬(x.Props.length:Int)=t.Props.length:=by omega
     simp [hpl,hpl',hall]
   ·rw [heq]at hH
    have hp:=par_of hl0 (by rw [e0];exact hN) hH
    have hge:¬(i:Int) < t.Things.length:=by omega
    clear hqa hat hq1 hq2 e
    simp [-cB,heq,hH]
    have hdec:∀k:Nat,allB (fun i:Nat=>!decide (topP t t.Things.length ((i:Int)+1)=0)) (List.range (k+1))=(allB (fun i:Nat=>!decide (topP t t.Things.length ((i:Int)+1)=0)) (List.range k) &&!decide (topP t t.Things.length ((k:Int)+1)=0)):=fun k=>by rw [List.range_succ,allB_snoc]
    refine AWP.loopS [1,3,6] (t.Things.length-1) (fun i=> [(6,iD ((i:Int)+1))]) (fun _=> []) (fun i=>allB (fun i:Nat=>!decide (topP t t.Things.length ((i:Int)+1)=0)) (List.range i)=true) (by rfl) (by simp [allB]) ?_
    intro j hj hJ
    rcases Nat.lt_or_eq_of_le hj with hlt | heq2
    ·have hq:=wTop_ok t ht hp ((j:Int)+1) (by omega)
     have hlt':(j:Int)+1 < t.Things.length:=by omega
     have h64:inR .i64 ((j:Int)+1+1):=iW
     have hsn:=hdec j
     rw [hJ]at hsn
     have hall:topP t t.Things.length ((j:Int)+1)=0→allB (fun i:Nat=>!decide (topP t t.Things.length ((i:Int)+1)=0)) (List.range (t.Things.length-1))=false:=by
      intro hf
      rw [Bool.eq_false_iff]
      intro ha
      have:=List.all_eq_true.1 ha j (List.mem_range.2 hlt)
      rw [hf]at this;simp at this
     simp [-cB,hlt,hlt']
     refine pC hq ?_
     simp [-cB]
     by_cases h0:topP t t.Things.length ((j:Int)+1)=0
     ·simp [h0,hall h0]
     ·simp [h0]at hsn ⊢
      simp [h64,hlt,hsn]
    ·rw [heq2]at hJ
     have hge2:¬(j:Int)+1 < t.Things.length:=by omega
     simp [-cB,hge2]
     rw [hJ]
     have hl1:1 < t.Things.length:=by omega
     have e1:t.Things[1]?=some (thingAt t 1):=thingAt_get (t:=t) (n:=1) (by omega)
     have hq:=wTop_ok t ht hp 1 (by omega)
     have hq3:=wRoom_ok t ht (topP t t.Things.length 1)
     generalize (thingB t (topP t t.Things.length 1) && roomB t (topP t t.Things.length 1))=rr at *
     generalize topP t t.Things.length 1=tp at *
     refine AWP.regionD [iD tp,oD rr] tmix (by kernel_rfl) (by rfl) ?_
     have k1:=fun L=>hq.ok L
     have k2:=fun L=>hq3.ok L
     have e2:t.Things[1]=thingAt t 1:=by rw [List.getElem?_eq_getElem hl1]at e1;exact Option.some.inj e1
     simp [-cB,hl1,e1,e2,k1,k2]
end Go.Ab
namespace Go.Ab
open Go.Proofs Go.Proofs.Tryz
set_option maxHeartbeats 4000000
set_option maxRecDepth 20000
def cntN(l:List GSlot):Int:=(l.countP nounB:Nat)
def cntM(l:List GSlot):Int:=(l.countP (fun s=>decide (s.Kind=4)):Nat)
def cntD(l:List GSlot):Int:=(l.countP (fun s=>decide (s.Kind=5)):Nat)
theorem slotsP_snoc(x:GSlot):∀(b:Bool) (l:List GSlot),slotsP b (l++ [x])=(slotsP b l && slotP (b && decide (l.length=0)) x)
 | b,[]=>by simp [slotsP]
 | b,s::l=>by
   rw [List.cons_append,slotsP,slotsP,slotsP_snoc x false l,Bool.and_assoc]
   simp
theorem slotsP_app(r:List GSlot):∀(b:Bool) (l:List GSlot),slotsP b (l++r)=true→slotsP b l=true
 | b,[],_=>rfl
 | b,s::l,h=>by
   rw [List.cons_append,slotsP,Bool.and_eq_true]at h
   rw [slotsP,h.1,slotsP_app r false l h.2];rfl
theorem wLine_ok(l:List GSlot) (hl:l.length≤1000000000000000) (hw:∀x∈l,x.wf):Pure prog 34 [.d (.sl (l.map GSlot.enc))] (oD (lineP l)):=by
 have hq1:=wAmong_ok l.length 1 8
 have e:lineP l=(slotsP true l && (fromB l.length 1 8 && decide (cntN l≤2) && decide (cntM l≤1) && decide (cntD l≤1))):=rfl
 rw [e]
 generalize fromB l.length 1 8=fr at *
 refine rn func34 ?_;simp [-cB,f34]
 refine AWP.loopL [0,3,4,5,8,9,10] l (fun pre=> [(3,iD (cntN pre)),(4,iD (cntM pre)),(5,iD (cntD pre)),(10,iD pre.length)]) (fun _=> []) (fun pre=>slotsP true pre=true) (by rfl) (by omega) (by simp [slotsP,cntN,cntM,cntD]) ?_ ?_
 ·rintro pre x post hsp hH hlt hge a4
  have hxw:=hw x (by rw [hsp];simp)
  have hx':=hxw
  simp [GSlot.wf]at hx'
  have hq2:=wWords_ok x.Words (by omega) (fun y hy=>by have:=hx'.2.2 y hy;omega) 4
  have hsn:slotsP true (pre++ [x])=slotP (decide (pre.length=0)) x:=by rw [slotsP_snoc,hH];simp
  have hfail:slotP (decide (pre.length=0)) x=false→slotsP true l=false:=by
   intro hf
   rw [Bool.eq_false_iff]
   intro ha
   rw [hsp,show pre++x::post=(pre++ [x])++post by simp]at ha
   have:=slotsP_app post true _ ha
   rw [hsn,hf]at this;cases this
  have c1:cntN (pre++ [x])=cntN pre+(if nounB x then 1 else 0):=by unfold cntN;rw [List.countP_append];simp [List.countP_cons];split <;> simp
  have c2:cntM (pre++ [x])=cntM pre+(if x.Kind=4 then 1 else 0):=by unfold cntM;rw [List.countP_append];simp [List.countP_cons];split <;> simp
  have c3:cntD (pre++ [x])=cntD pre+(if x.Kind=5 then 1 else 0):=by unfold cntD;rw [List.countP_append];simp [List.countP_cons];split <;> simp
  have b1:0≤cntN pre∧cntN pre≤pre.length:=by unfold cntN;have:=List.countP_le_length (p:=nounB) (l:=pre);omega
  have b2:0≤cntM pre∧cntM pre≤pre.length:=by unfold cntM;have:=List.countP_le_length (p:=fun s:GSlot=>decide (s.Kind=4)) (l:=pre);omega
  have b3:0≤cntD pre∧cntD pre≤pre.length:=by unfold cntD;have:=List.countP_le_length (p:=fun s:GSlot=>decide (s.Kind=5)) (l:=pre);omega
  have i1:inR .i64 (cntN pre+1):=iW
  have i2:inR .i64 (cntM pre+1):=iW
  have i3:inR .i64 (cntD pre+1):=iW
  unfold slotP at hsn hfail
  unfold nounB at c1
  generalize wordsP x.Words 4=ww at *
  clear hsp e hq1 hw
  by_cases k1:x.Kind=1
  ·have d1:cntN (pre++ [x])=cntN pre:=by rw [c1];simp [k1]
   have d2:cntM (pre++ [x])=cntM pre:=by rw [c2];simp [k1]
   have d3:cntD (pre++ [x])=cntD pre:=by rw [c3];simp [k1]
   clear c1 c2 c3 i1 i2 i3 b1 b2 b3
   simp [-cB,k1,hlt,hge,a4,fromB]at hsn hfail ⊢
   intro bs
   refine pG hq2 ?_
   simp [-cB]
   by_cases hW:x.Words=[]
   ·simp [hW]at hfail ⊢
    simp [hfail]
   ·cases ww with
    | false=>
      simp [hW]at hfail ⊢
      simp [hfail]
    | true=>
      simp [hW]at hsn ⊢
      simp [a4,hlt,hsn,d1,d2,d3]
  ·by_cases k2:x.Kind=2∨x.Kind=3∨x.Kind=4∨x.Kind=5
   ·have hz:x.Words.length=0↔x.Words=[]:=List.length_eq_zero_iff
    rcases k2 with k | k | k | k
    all_goals
     simp [-cB,k,hlt,hge,a4,fromB,i1,i2,i3]at hsn hfail c1 c2 c3 ⊢
     intro bs
     by_cases hW:x.Words=[] <;> by_cases hp:pre=[] <;> (try simp [hW,hp]at hsn) <;> (try simp [hW,hp]at hfail) <;> (try simp [hW,hp])
     all_goals first | done | (simp [hfail];done) | exact⟨a4,⟨c1.symm,c2.symm,c3.symm⟩,hsn⟩ | (simp_all;done) | skip
   ·have hk:fromB x.Kind 2 5=false:=by unfold fromB;rw [Bool.eq_false_iff];simp;omega
    simp only [not_or]at k2
    simp [-cB,k1,k2,hlt,hge,hk]at hfail ⊢
    intro h;rw [hfail]at h;cases h
 ·intro hH
  simp [-cB,hH]
  repeat' (first
   | (with_reducible refine And.intro ?_ ?_)
   | ((first | (refine condC_split (fun h=>?_) (fun h=>?_) <;> (try simp at h)) | refine pC hq1 ?_ | refine lC hq1 ?_ | refine pG hq1 ?_) <;> (try simp [-cB, *,hH]))
   | (with_reducible intro _))
end Go.Ab
namespace Go.Ab
open Go.Proofs Go.Proofs.Tryz
set_option maxHeartbeats 4000000
set_option maxRecDepth 20000
theorem wF1_ok(t:GTables) (ht:t.wf) (n:Int):Pure prog 28 [iD n,.rp t.enc] (oD (nounP t n)):=by
 have hq:=wThing_ok t ht n
 have he:(t.enc.take 15).length=15:=rfl
 unfold nounP
 generalize thingB t n=b at *
 refine rn func28 ?_;simp [-cB,f28]
 repeat' (first
  | (with_reducible refine And.intro ?_ ?_)
  | ((first | (refine condC_split (fun h=>?_) (fun h=>?_) <;> (try simp at h)) | refine pC hq ?_ | refine lC hq ?_ | refine pG hq ?_) <;> (try simp [-cB, *]))
  | (with_reducible intro _))
theorem wF2_ok(a:GAct) (ha:a.wf):Pure prog 31 [.agg (a.enc.map .d)] (oD (actP a)):=by
 have ha':=ha
 simp [GAct.wf]at ha'
 have hq1:=wAmong_ok a.Lines.length 1 8
 have hq2:=allLine_ok a.Lines (by omega) 34 [] rfl lineP (fun l hl=>wLine_ok l (by have:=(ha'.2 l hl).1;omega) (fun x hx=>(ha'.2 l hl).2 x hx))
 unfold actP
 generalize allB lineP a.Lines=b at *
 generalize fromB a.Lines.length 1 8=c at *
 refine rn func31 ?_;simp [-cB,f31]
 repeat' (first
  | (with_reducible refine And.intro ?_ ?_)
  | ((first | (refine condC_split (fun h=>?_) (fun h=>?_) <;> (try simp at h)) | refine pC hq1 ?_ | refine pC hq2 ?_ | refine lC hq1 ?_ | refine lC hq2 ?_ | refine pG hq1 ?_ | refine pG hq2 ?_) <;> (try simp [-cB, *]))
  | (with_reducible intro _))
 all_goals (first | assumption | omega | (rw [inR_i64];omega) | (simp_all;done) | grind | skip)
theorem wF4_ok(t:GTables) (ht:t.wf) (n:Int):Pure prog 39 [iD n,.rp t.enc] (oD (fromB n 0 (t.Params.length-1))):=by
 have hl:=GTables.wl_Params ht
 have hq:=wAmong_ok n 0 (t.Params.length-1)
 have h64:inR .i64 ((t.Params.length:Int)-1):=iW
 refine rn func39 ?_;simp [-cB,f39]
 repeat' (first
  | (with_reducible refine And.intro ?_ ?_)
  | ((first | (refine condC_split (fun h=>?_) (fun h=>?_) <;> (try simp at h)) | refine pC hq ?_ | refine lC hq ?_ | refine pG hq ?_) <;> (try simp [-cB, *,h64]))
  | (with_reducible intro _))
 exact h64
theorem wF5_ok(t:GTables) (ht:t.wf) (n:Int):Pure prog 40 [iD n,.rp t.enc] (oD (freeP t n)):=by
 have hq:=wFree_ok t ht n
 refine rn func40 ?_;simp [-cB,f40]
 repeat' (first
  | (with_reducible refine And.intro ?_ ?_)
  | ((first | (refine condC_split (fun h=>?_) (fun h=>?_) <;> (try simp at h)) | refine pC hq ?_ | refine lC hq ?_ | refine pG hq ?_) <;> (try simp [-cB, *]))
  | (with_reducible intro _))
def nbL(b:Nat) (t:GTables):Heap:=[(5501,.box (b+1) 70 [.clo (.func 28) [] [.rp t.enc]])]
theorem wF3_ok(b:Nat) (t:GTables) (ht:t.wf) (d:GDeed) (hd:d.wf):ACalls prog 36 [.agg (d.enc.map .d),.rp t.enc,.bp 5501 0] (nbL b t) (fun r L=>r= .ret (oD (deedP t d))∧L=nbL b t):=by
 have hl:=GTables.wl_Acts ht
 have h64:inR .i64 ((t.Acts.length:Int)-1):=iW
 have hq1:=wAmong_ok d.Verb 0 (t.Acts.length-1)
 have hq2:=wAmong_ok d.Phase 1 3
 have hq3:=wF1_ok t ht d.Noun
 have hq4:=wF1_ok t ht d.Second
 have hq5:=wFree_ok t ht d.When
 have hq6:=wFree_ok t ht d.Body
 unfold deedP nbL
 generalize nounP t d.Noun=n1 at *
 generalize nounP t d.Second=n2 at *
 generalize freeP t d.When=f1 at *
 generalize freeP t d.Body=f2 at *
 refine rX [4] [5501] func36 ?_;simp [-cB,f36]
 generalize fromB d.Verb 0 (t.Acts.length-1)=c1 at *
 generalize fromB d.Phase 1 3=c2 at *
 repeat' (first
  | (with_reducible refine And.intro ?_ ?_)
  | ((first | (refine condC_split (fun h=>?_) (fun h=>?_) <;> (try simp at h)) | refine pC hq1 ?_ | refine pC hq2 ?_ | refine pC hq3 ?_ | refine pC hq4 ?_ | refine pC hq5 ?_ | refine pC hq6 ?_ | refine lC hq1 ?_ | refine lC hq2 ?_ | refine lC hq3 ?_ | refine lC hq4 ?_ | refine lC hq5 ?_ | refine lC hq6 ?_ | refine pG hq1 ?_ | refine pG hq2 ?_ | refine pG hq3 ?_ | refine pG hq4 ?_ | refine pG hq5 ?_ | refine pG hq6 ?_) <;> (try simp [-cB, *,h64]))
  | (with_reducible intro _))
 all_goals clear hq1 hq2 hq3 hq4 hq5 hq6
 all_goals first | assumption | omega | grind | skip
theorem allDeedL_ok(b:Nat) (t:GTables) (ht:t.wf) (l:List GDeed) (hl:l.length≤1000000000000000) (hw:∀d∈l,d.wf):
  ACalls prog 35 [.d (.sl (l.map GDeed.enc)),.clo (.func 36) [] [.rp t.enc,.bp 5501 0]] (nbL b t) (fun r L=>r= .ret (oD (allB (deedP t) l))∧L=nbL b t):=by
 unfold nbL
 refine rX [4] [5501] func35 ?_;simp [-cB,f35]
 refine AWP.loopL [1,7,8,9] l (fun pre=> [(9,iD pre.length)]) (fun _=> []) (fun pre=>allB (deedP t) pre=true) (by rfl) (by omega) (by simp [allB_nil]) ?_ ?_
 ·rintro pre x post hsp hH hlt hge a4
  have hall:=allB_split hsp hH
  have hsn:allB (deedP t) (pre++ [x])=deedP t x:=by simp [allB_snoc,hH]
  have hq:=wF3_ok b t ht x (hw x (by rw [hsp];simp))
  unfold nbL at hq
  clear hsp hw
  generalize deedP t x=dx at *
  simp [-cB, *]
  intro bs
  refine eD [5501] hq ?_
  simp [-cB]
  cases dx with
  | false=>simp [hall]
  | true=>simp [hsn,hlt,a4]
 ·intro hH
  simp [*]
end Go.Ab
namespace Go.Ab
open Go.Proofs Go.Proofs.Tryz
set_option maxHeartbeats 4000000
set_option maxRecDepth 20000
theorem wFits_ok(t:GTables) (ht:t.wf):Pure prog 16 [.agg (t.enc.map .d)] (oD (fitsP t)):=by
 have l1:=GTables.wl_Acts ht
 have l2:=GTables.wl_Deeds ht
 have l3:=GTables.wl_Funcs ht
 have l4:=GTables.wl_Daemons ht
 have hqN:=wNumbers_ok t ht
 have hqR:=wRoutines_ok t ht
 have hT:numbersP t=true→Pure prog 27 [.agg (t.enc.map .d)] (oD (thingsP t)):=fun h=>wThings_ok t ht (by
  unfold numbersP at h;simp only [Bool.and_eq_true]at h;exact h.1.1.1.1.2)
 have hqA:=allAct_ok t.Acts (by omega) 31 [] rfl actP (fun a ha=>wF2_ok a (GTables.wf_Acts ht a ha))
 have hqD:=fun b=>allDeedL_ok b t ht t.Deeds (by omega) (fun d hd=>GTables.wf_Deeds ht d hd)
 have hqF:=allInt_ok t.Funcs (by omega) 39 [.rp t.enc] rfl (fun n=>fromB n 0 (t.Params.length-1)) (fun n _=>wF4_ok t ht n)
 have hqM:=allInt_ok t.Daemons (by omega) 40 [.rp t.enc] rfl (freeP t) (fun n _=>wF5_ok t ht n)
 unfold fitsP
 generalize allB actP t.Acts=aA at *
 generalize allB (deedP t) t.Deeds=aD at *
 generalize allB (fun n=>fromB n 0 (t.Params.length-1)) t.Funcs=aF at *
 generalize allB (freeP t) t.Daemons=aM at *
 generalize numbersP t=nP at *
 generalize routinesP t=rP at *
 generalize thingsP t=tP at *
 refine rn func16 ?_;simp [-cB,f16]
 intro bs
 refine pC hqN ?_
 simp [-cB]
 refine pG hqR ?_
 simp [-cB]
 cases nP with
 | false=>
   refine pN (oD true) ?_
   simp [-cB]
 | true=>
   have hqT:=hT rfl
   refine pG hqT ?_
   simp [-cB]
   refine condC_split (fun h=>?_) (fun h=>?_)
   ·simp at h
    simp
    grind
   ·simp at h
    simp [-cB]
    intro bs1
    refine AOps.weaken (Wk.freezeB 1 (ds:=t.enc) rfl) ?_
    simp [-cB]
    refine AOps.weaken (Wk.ren 3 5501 (by simp)) ?_
    simp [-cB]
    refine pC hqA ?_
    simp [-cB]
    unfold nbL at hqD
    refine eD [5501] ((hqD _)) ?_
    simp [-cB]
    refine pG hqF ?_
    simp [-cB]
    refine pG hqM ?_
    simp [-cB]
    all_goals first | done | grind
end Go.Ab
namespace Go.Ab
open Go.Proofs Go.Proofs.Tryz
@[simp] theorem GExpr.Args_mk(a b c:Int) (d:ByteArray) (l:List GExpr):(GExpr.mk a b c d l).Args=l:=rfl
@[simp] theorem GExpr.Kind_mk(a b c:Int) (d:ByteArray) (l:List GExpr):(GExpr.mk a b c d l).Kind=a:=rfl
@[simp] theorem GExpr.Op_mk(a b c:Int) (d:ByteArray) (l:List GExpr):(GExpr.mk a b c d l).Op=b:=rfl
@[simp] theorem GExpr.Num_mk(a b c:Int) (d:ByteArray) (l:List GExpr):(GExpr.mk a b c d l).Num=c:=rfl
@[simp] theorem GExpr.Name_mk(a b c:Int) (d:ByteArray) (l:List GExpr):(GExpr.mk a b c d l).Name=d:=rfl
theorem GExpr.lt_of_mem {e x:GExpr} (h:x∈e.Args):SizeOf.sizeOf x < SizeOf.sizeOf e:=by
 cases e with
 | mk a b c d l=>
   have:=List.sizeOf_lt_of_mem (show x∈l from h)
   simp only [GExpr.mk.sizeOf_spec]
   omega
mutual
def fewM:GExpr→Int→Int
 | .mk _ _ _ _ l,m=>fewsM l (m-1)
def fewsM:List GExpr→Int→Int
 | [],m=>m
 | x::l,m=>if m < 0 then m else fewsM l (fewM x m)
end
end Go.Ab
namespace Go.Ab
open Go.Proofs Go.Proofs.Tryz
mutual
def deepM:GExpr→Int→Int
 | .mk _ _ _ _ l,m=>(if 1 < m then deepsM l (m-1) 0 else 0)+1
def deepsM:List GExpr→Int→Int→Int
 | [],_,n=>n
 | x::l,m,n=>deepsM l m (if n < deepM x m then deepM x m else n)
end
theorem deepM_eq(e:GExpr) (m:Int):deepM e m=(if 1 < m then deepsM e.Args (m-1) 0 else 0)+1:=by cases e;rw [deepM];rfl
theorem deepsM_snoc(l:List GExpr) (x:GExpr) (m n:Int):deepsM (l++ [x]) m n=if deepsM l m n < deepM x m then deepM x m else deepsM l m n:=by
 induction l generalizing n with
 | nil=>simp only [List.nil_append,deepsM];rfl
 | cons y l ih=>simp only [List.cons_append,deepsM];exact ih _
theorem deepM_le(e:GExpr) (m:Int) (hm:1≤m):1≤deepM e m∧deepM e m≤m:=by
 obtain⟨n,hn⟩:∃n,SizeOf.sizeOf e < n:=⟨_,Nat.lt_succ_self _⟩
 induction n generalizing e m with
 | zero=>omega
 | succ n ih=>
   rw [deepM_eq]
   split
   ·have:∀(l:List GExpr) (k:Int),(∀x∈l,x∈e.Args)→0≤k→k≤m-1→0≤deepsM l (m-1) k∧deepsM l (m-1) k≤m-1:=by
     intro l
     induction l with
     | nil=>intro k _ h1 h2;rw [deepsM];omega
     | cons x l ih'=>
       intro k hx h1 h2
       rw [deepsM]
       have:=ih x (m-1) (by omega) (by have:=GExpr.lt_of_mem (hx x (by simp));omega)
       apply ih' _ (fun y hy=>hx y (by simp [hy]))
       ·split <;> omega
       ·split <;> omega
    have:=this e.Args 0 (fun _ h=>h) (by omega) (by omega)
    omega
   ·omega
theorem deepsM_le(l:List GExpr) (m k:Int) (hm:1≤m) (h1:0≤k) (h2:k≤m):0≤deepsM l m k∧deepsM l m k≤m:=by
 induction l generalizing k with
 | nil=>rw [deepsM];omega
 | cons x l ih=>
   rw [deepsM]
   have:=deepM_le x m hm
   apply ih
   ·split <;> omega
   ·split <;> omega
theorem deep_ok(e:GExpr) (he:e.wf) (m:Int) (hm:1≤m∧m≤1000000000000):Pure prog 175 [.agg (e.enc.map .d),iD m] (iD (deepM e m)):=by
 obtain⟨n,hn⟩:∃n,SizeOf.sizeOf e < n:=⟨_,Nat.lt_succ_self _⟩
 induction n generalizing e m with
 | zero=>omega
 | succ n ih=>
   have hw:=(GExpr.wf_iff e).1 he
   have hlen:e.Args.length≤2199023255488:=by omega
   have hsub:∀(i:Nat) (h:i < e.Args.length) m,1≤m∧m≤1000000000000→Pure prog 175 [.agg ((e.Args[i]).enc.map .d),iD m] (iD (deepM (e.Args[i]) m)):=fun i h m hm=>
    ih _ (hw.2.2.2.2.2 _ (List.getElem_mem h)) m hm (by have:=GExpr.lt_of_mem (List.getElem_mem h);omega)
   rw [deepM_eq]
   refine rn func175 ?_;simp [f175]
   generalize e.Args=l at *
   intro bs
   refine⟨fun h1=>?_,fun h1=>?_⟩
   ·refine AWP.loopS [1,5,12,13,14] l.length (fun i=> [(5,iD (deepsM (l.take i) (m-1) 0)),(14,iD i)]) (fun _=> []) (fun _=>True) (by rfl) (by simp [deepsM]) ?_
    intro i hi _
    rcases Nat.lt_or_eq_of_le hi with hlt | rfl
    ·have hge:l[i]?=some l[i]:=List.getElem?_eq_getElem hlt
     have htk:List.take (i+1) l=List.take i l++ [l[i]]:=by rw [List.take_add_one,hge];rfl
     have hS:=hsub i hlt
     generalize hE:l[i]=x at *
     have a1:inR .i64 (m-1):=iW
     have a2:inR .i64 ((i:Int)+1):=iW
     have hsn:=deepsM_snoc (l.take i) x (m-1) 0
     rw [←htk]at hsn
     generalize hM:deepsM (l.take i) (m-1) 0=k at *
     simp [hlt,hge,hE]
     intro bs2
     refine⟨a1,?_⟩
     refine AOps.pureC rfl (hS (m-1) ⟨by omega,by omega⟩) (by simp) rfl (by simp) rfl ?_
     simp [a2,hlt]
     refine⟨fun h=>?_,fun h=>?_⟩
     ·rw [hsn,if_pos h]
     ·rw [hsn,if_neg (by omega)]
    ·have:=deepsM_le l (m-1) 0 (by omega) (by omega) (by omega)
     simp [h1]
     rw [inR_i64];omega
   ·rw [if_neg (by omega)];exact⟨iW,rfl⟩
def bareM(e:GExpr) (n:Int) (op num named:Bool):Bool:=decide ((e.Args.length:Int)=n) && (op || decide (e.Op=0)) && (num || decide (e.Num=0)) && (named || e.Name.toList.isEmpty)
theorem bare_ok(e:GExpr) (n:Int) (op num named:Bool):Pure prog 178 [.agg (e.enc.map .d),iD n,oD op,oD num,oD named] (oD (bareM e n op num named)):=by
 refine rn func178 ?_;simp [f178]
 refine⟨?_,?_,?_,rfl⟩ <;> simp+contextual
def amongM(n lo hi:Int):Bool:=decide (lo≤n) && decide (n≤hi)
theorem among_ok(n lo hi:Int):Pure prog 177 [iD n,iD lo,iD hi] (oD (amongM n lo hi)):=by
 refine rn func177 ?_;simp [f177]
 rfl
def isM(n:Int):Bool:=decide (-32768≤n) && decide (n≤32767)
theorem isV_ok(n:Int):Pure prog 158 [iD n] (oD (isM n)):=by
 refine rn func158 ?_;simp [f158]
 rfl
def paramsM(t:GTables) (f:Int):Int:=if amongM f 0 (t.Funcs.length-1) && amongM (t.Funcs[f.toNat]?.getD 0) 0 (t.Params.length-1)then t.Params[(t.Funcs[f.toNat]?.getD 0).toNat]?.getD 0 else -1
theorem params_ok(t:GTables) (ht:t.wf) (f:Int):Pure prog 179 [.agg (t.enc.map .d),iD f] (iD (paramsM t f)):=by
 refine rn func179 ?_;simp [f179]
 intro bs
 refine AWP.regionD [oD (amongM f 0 (t.Funcs.length-1)),oD (amongM (t.Funcs[f.toNat]?.getD 0) 0 (t.Params.length-1))] tmix (by kernel_rfl) (by rfl) ?_
 have hA:=fun a b c L=>(among_ok a b c).ok L
 have hl1:=GTables.wl_Funcs ht
 have hl2:=GTables.wl_Params ht
 have a1:inR .i64 ((t.Funcs.length:Int)-1):=iW
 have a2:inR .i64 ((t.Params.length:Int)-1):=iW
 have hk:amongM f 0 (t.Funcs.length-1)=true→0≤f∧f.toNat < t.Funcs.length:=by simp [amongM];omega
 have hk2:amongM (t.Funcs[f.toNat]?.getD 0) 0 (t.Params.length-1)=true→0≤t.Funcs[f.toNat]?.getD 0∧(t.Funcs[f.toNat]?.getD 0).toNat < t.Params.length:=by simp [amongM];omega
 unfold paramsM
 simp [hA,a1,a2]
 refine⟨fun h=>⟨hk h,h⟩,fun h h1 h2=>?_,fun h1 h2=>?_⟩
 ·simp [h1,h2]at h
 ·refine AWP.regionD [] tmix (by kernel_rfl) (by rfl) ?_
  simp [h1,h2]
  exact⟨hk h1,hk2 h2⟩
def boundK(t:GTables) (e:GExpr) (locals:Int) (said:Bool):Bool:=
 if e.Kind=1 then bareM e 0 false true false && isM e.Num
 else if e.Kind=14 then bareM e 0 false true false && amongM e.Num 0 (t.Globals.length-1)
 else if e.Kind=15 then bareM e 0 false true false && decide (0≤e.Num) && decide (e.Num < locals)
 else if e.Kind=19 then said && bareM e 0 false true false && amongM e.Num 0 (t.Texts.length-1)
 else if e.Kind=4∨e.Kind=5∨e.Kind=11 then bareM e 1 false false false
 else if e.Kind=13 then said && bareM e 1 false false false
 else if e.Kind=6 then bareM e 2 true false false && amongM e.Op 1 14
 else if e.Kind=16 then bareM e 1 false true false && decide (0≤e.Num) && decide (e.Num < t.Flags)
 else if e.Kind=17 then bareM e 1 false true false && amongM e.Num 0 (t.Props.length-1)
 else if e.Kind=18 then bareM e e.Args.length false true false && decide (paramsM t e.Num=e.Args.length)
 else if e.Kind=10 then bareM e 1 true false false && amongM e.Op 1 3
 else if e.Kind=12 then bareM e 0 true false false && amongM e.Op 1 6
 else false
mutual
def boundM(t:GTables) (locals:Int):GExpr→Bool→Bool
 | .mk k o n s l,said=>boundK t (.mk k o n s l) locals said && boundsM t locals l
def boundsM(t:GTables) (locals:Int):List GExpr→Bool
 | []=>true
 | x::l=>boundM t locals x false && boundsM t locals l
end
theorem boundM_eq(t:GTables) (locals:Int) (e:GExpr) (said:Bool):boundM t locals e said=(boundK t e locals said && boundsM t locals e.Args):=by cases e;rw [boundM];rfl
theorem boundsM_all(t:GTables) (locals:Int) (l:List GExpr):boundsM t locals l=l.all fun x=>boundM t locals x false:=by
 induction l with
 | nil=>rw [boundsM];rfl
 | cons x l ih=>rw [boundsM,ih];rfl
set_option maxRecDepth 20000 in
set_option maxHeartbeats 4000000 in
theorem boundX_ok(t:GTables) (ht:t.wf) (locals:Int) (e:GExpr) (he:e.wf) (said:Bool):Pure prog 134 [.agg (t.enc.map .d),.agg (e.enc.map .d),iD locals,oD said] (oD (boundM t locals e said)):=by
 obtain⟨n,hn⟩:∃n,SizeOf.sizeOf e < n:=⟨_,Nat.lt_succ_self _⟩
 induction n generalizing e said with
 | zero=>omega
 | succ n ih=>
   have hw:=(GExpr.wf_iff e).1 he
   have hlen:e.Args.length≤2199023255488:=by omega
   have hsub:∀(i:Nat) (h:i < e.Args.length) said,Pure prog 134 [.agg (t.enc.map .d),.agg ((e.Args[i]).enc.map .d),iD locals,oD said] (oD (boundM t locals (e.Args[i]) said)):=fun i h said=>
    ih _ (hw.2.2.2.2.2 _ (List.getElem_mem h)) said (by have:=GExpr.lt_of_mem (List.getElem_mem h);omega)
   rw [boundM_eq]
   have hA:=fun a b c L=>(among_ok a b c).ok L
   have hI:=fun a L=>(isV_ok a).ok L
   have hB:=fun n a b c L=>(bare_ok e n a b c).ok L
   have hP:=fun f L=>(params_ok t ht f).ok L
   have b1:=GTables.wl_Globals ht
   have b2:=GTables.wl_Texts ht
   have b3:=GTables.wl_Props ht
   have a1:inR .i64 ((t.Globals.length:Int)-1):=iW
   have a2:inR .i64 ((t.Texts.length:Int)-1):=iW
   have a3:inR .i64 ((t.Props.length:Int)-1):=iW
   have hkk:e.Kind=1∨e.Kind=14∨e.Kind=15∨e.Kind=19∨e.Kind=4∨e.Kind=5∨e.Kind=11∨e.Kind=13∨e.Kind=6∨e.Kind=16∨e.Kind=17∨e.Kind=18∨e.Kind=10∨e.Kind=12∨(e.Kind≠1∧e.Kind≠14∧e.Kind≠15∧e.Kind≠19∧e.Kind≠4∧e.Kind≠5∧e.Kind≠11∧e.Kind≠13∧e.Kind≠6∧e.Kind≠16∧e.Kind≠17∧e.Kind≠18∧e.Kind≠10∧e.Kind≠12):=by omega
   rcases hkk with hk | hk | hk | hk | hk | hk | hk | hk | hk | hk | hk | hk | hk | hk | hk
   all_goals
    have hK:boundK t e locals said=boundK t e locals said:=rfl
    conv at hK=>rhs;unfold boundK
    simp [hk]at hK
    refine rn func134 ?_;simp [f134,hk]
    intro bs
   refine runC_sound _ _ [oD (bareM e 0 false true false),oD (isM e.Num)] (by rfl) ?_
   rotate_left
   refine runC_sound _ _ [oD (bareM e 0 false true false),oD (amongM e.Num 0 (t.Globals.length-1))] (by rfl) ?_
   rotate_left
   refine runC_sound _ _ [oD (bareM e 0 false true false)] (by rfl) ?_
   rotate_left
   refine runC_sound _ _ [oD (bareM e 0 false true false),oD (amongM e.Num 0 (t.Texts.length-1))] (by rfl) ?_
   rotate_left
   refine runC_sound _ _ [oD (bareM e 1 false false false)] (by rfl) ?_
   rotate_left
   refine runC_sound _ _ [oD (bareM e 1 false false false)] (by rfl) ?_
   rotate_left
   refine runC_sound _ _ [oD (bareM e 1 false false false)] (by rfl) ?_
   rotate_left
   refine runC_sound _ _ [oD (bareM e 1 false false false)] (by rfl) ?_
   rotate_left
   refine runC_sound _ _ [oD (bareM e 2 true false false),oD (amongM e.Op 1 14)] (by rfl) ?_
   rotate_left
   refine runC_sound _ _ [oD (bareM e 1 false true false)] (by rfl) ?_
   rotate_left
   refine runC_sound _ _ [oD (bareM e 1 false true false),oD (amongM e.Num 0 (t.Props.length-1))] (by rfl) ?_
   rotate_left
   refine AWP.regionD [oD (bareM e e.Args.length false true false),iD (paramsM t e.Num)] tmix (by kernel_rfl) (by rfl) ?_
   rotate_left
   refine runC_sound _ _ [oD (bareM e 1 true false false),oD (amongM e.Op 1 3)] (by rfl) ?_
   rotate_left
   refine runC_sound _ _ [oD (bareM e 0 true false false),oD (amongM e.Op 1 6)] (by rfl) ?_
   rotate_left
   rotate_left
   all_goals
    try simp [hA,hB,hI,hP,a1,a2,a3]
    refine AWP.loopS [2,4,9,154,155,156] e.Args.length (fun i=> [(9,oD (boundK t e locals said && boundsM t locals (e.Args.take i))),(156,iD i)]) (fun _=> []) (fun _=>True) (by rfl) (by simp [hK,boundsM] <;> rfl) ?_
    clear hK hA hI hB hP a1 a2 a3 b1 b2 b3
    generalize boundK t e locals said=b
    intro i hi _
    rcases Nat.lt_or_eq_of_le hi with hlt | rfl
    ·have hge:e.Args[i]?=some e.Args[i]:=List.getElem?_eq_getElem hlt
     have htk:boundsM t locals (e.Args.take (i+1))=(boundsM t locals (e.Args.take i) && boundM t locals e.Args[i] false):=by
      rw [List.take_add_one,hge,boundsM_all,boundsM_all,List.all_append];simp
     have hS:=fun L=>(hsub i hlt false).ok L
     have a2:inR .i64 ((i:Int)+1):=iW
     generalize hE:e.Args[i]=x at *
     simp [hlt,hge,hE]
     intro bs2
     refine runC_sound _ _ [oD (boundM t locals x false)] (by rfl) ?_
     simp [hS,a2,hlt,hE,htk,Bool.and_assoc] <;> (intro h1 h2;first | exact⟨h1,h2⟩ | exact⟨⟨h1,h2⟩,hS _⟩)
    ·simp
end Go.Ab
namespace Go.Ab
open Go.Proofs Go.Proofs.Tryz
theorem code_ok(a b:Int):Pure prog 104 [iD a,iD b] (.agg ((GIns.mk a b).enc.map .d)):=by
 refine rn func104 ?_;simp [f104]
 rfl
theorem label_ok(b:Int):Pure prog 224 [iD b] (.agg ((GIns.mk 38 b).enc.map .d)):=by
 refine rn func224 ?_;simp [f224]
 intro bs
 refine AOps.pureC rfl (code_ok 38 b) (by simp) rfl (by simp) rfl ?_
 simp
theorem jump_ok(b:Int):Pure prog 225 [iD b] (.agg ((GIns.mk 24 b).enc.map .d)):=by
 refine rn func225 ?_;simp [f225]
 intro bs
 refine AOps.pureC rfl (code_ok 24 b) (by simp) rfl (by simp) rfl ?_
 simp
theorem zero_ok(b:Int):Pure prog 223 [iD b] (.agg ((GIns.mk 25 b).enc.map .d)):=by
 refine rn func223 ?_;simp [f223]
 intro bs
 refine AOps.pureC rfl (code_ok 25 b) (by simp) rfl (by simp) rfl ?_
 simp
def ownM(e:GExpr):GIns:=
 if e.Kind=1 then⟨1,e.Num⟩else if e.Kind=14 then⟨3,e.Num⟩else if e.Kind=15 then⟨5,e.Num⟩else if e.Kind=12 then⟨7,e.Op⟩
 else if e.Kind=4 then⟨9,0⟩else if e.Kind=5 then⟨10,0⟩else if e.Kind=11 then⟨20,0⟩else if e.Kind=6 then⟨8,e.Op⟩
 else if e.Kind=16 then⟨12,e.Num⟩else if e.Kind=17 then⟨13,e.Num⟩else if e.Kind=18 then⟨26,e.Num⟩else⟨19,e.Op⟩
set_option maxRecDepth 20000 in
set_option maxHeartbeats 4000000 in
theorem own_ok(e:GExpr):Pure prog 239 [.agg (e.enc.map .d)] (.agg ((ownM e).enc.map .d)):=by
 have hc:=fun a b L=>(code_ok a b).ok L
 by_cases hk1:e.Kind=1
 ·have hO:ownM e=⟨1,(e.Num)⟩:=by simp [ownM,hk1]
  rw [hO]
  refine rn func239 ?_;simp [f239,hk1]
  intro bs
  refine AOps.pureC rfl (code_ok 1 (e.Num)) (by simp) rfl (by simp) rfl ?_
  simp
 by_cases hk14:e.Kind=14
 ·have hO:ownM e=⟨3,(e.Num)⟩:=by simp [ownM,hk14]
  rw [hO]
  refine rn func239 ?_;simp [f239,hk14]
  intro bs
  refine AOps.pureC rfl (code_ok 3 (e.Num)) (by simp) rfl (by simp) rfl ?_
  simp
 by_cases hk15:e.Kind=15
 ·have hO:ownM e=⟨5,(e.Num)⟩:=by simp [ownM,hk15]
  rw [hO]
  refine rn func239 ?_;simp [f239,hk15]
  intro bs
  refine AOps.pureC rfl (code_ok 5 (e.Num)) (by simp) rfl (by simp) rfl ?_
  simp
 by_cases hk12:e.Kind=12
 ·have hO:ownM e=⟨7,(e.Op)⟩:=by simp [ownM,hk12]
  rw [hO]
  refine rn func239 ?_;simp [f239,hk12]
  intro bs
  refine AOps.pureC rfl (code_ok 7 (e.Op)) (by simp) rfl (by simp) rfl ?_
  simp
 by_cases hk4:e.Kind=4
 ·have hO:ownM e=⟨9,(0)⟩:=by simp [ownM,hk4]
  rw [hO]
  refine rn func239 ?_;simp [f239,hk4]
  intro bs
  refine AOps.pureC rfl (code_ok 9 (0)) (by simp) rfl (by simp) rfl ?_
  simp
 by_cases hk5:e.Kind=5
 ·have hO:ownM e=⟨10,(0)⟩:=by simp [ownM,hk5]
  rw [hO]
  refine rn func239 ?_;simp [f239,hk5]
  intro bs
  refine AOps.pureC rfl (code_ok 10 (0)) (by simp) rfl (by simp) rfl ?_
  simp
 by_cases hk11:e.Kind=11
 ·have hO:ownM e=⟨20,(0)⟩:=by simp [ownM,hk11]
  rw [hO]
  refine rn func239 ?_;simp [f239,hk11]
  intro bs
  refine AOps.pureC rfl (code_ok 20 (0)) (by simp) rfl (by simp) rfl ?_
  simp
 by_cases hk6:e.Kind=6
 ·have hO:ownM e=⟨8,(e.Op)⟩:=by simp [ownM,hk6]
  rw [hO]
  refine rn func239 ?_;simp [f239,hk6]
  intro bs
  refine AOps.pureC rfl (code_ok 8 (e.Op)) (by simp) rfl (by simp) rfl ?_
  simp
 by_cases hk16:e.Kind=16
 ·have hO:ownM e=⟨12,(e.Num)⟩:=by simp [ownM,hk16]
  rw [hO]
  refine rn func239 ?_;simp [f239,hk16]
  intro bs
  refine AOps.pureC rfl (code_ok 12 (e.Num)) (by simp) rfl (by simp) rfl ?_
  simp
 by_cases hk17:e.Kind=17
 ·have hO:ownM e=⟨13,(e.Num)⟩:=by simp [ownM,hk17]
  rw [hO]
  refine rn func239 ?_;simp [f239,hk17]
  intro bs
  refine AOps.pureC rfl (code_ok 13 (e.Num)) (by simp) rfl (by simp) rfl ?_
  simp
 by_cases hk18:e.Kind=18
 ·have hO:ownM e=⟨26,(e.Num)⟩:=by simp [ownM,hk18]
  rw [hO]
  refine rn func239 ?_;simp [f239,hk18]
  intro bs
  refine AOps.pureC rfl (code_ok 26 (e.Num)) (by simp) rfl (by simp) rfl ?_
  simp
 have hO:ownM e=⟨19,e.Op⟩:=by simp [ownM,hk1,hk14,hk15,hk12,hk4,hk5,hk11,hk6,hk16,hk17,hk18]
 rw [hO]
 refine rn func239 ?_;simp [f239,hk1,hk14,hk15,hk12,hk4,hk5,hk11,hk6,hk16,hk17,hk18]
 intro bs
 refine AOps.pureC rfl (code_ok 19 e.Op) (by simp) rfl (by simp) rfl ?_
 simp
theorem join_ok(a b:List GIns) (ha:a.length≤1000000000000) (hb:b.length≤1000000000000):Pure prog 102 [.d (.sl (a.map GIns.enc)),.d (.sl (b.map GIns.enc))] (.d (.sl ((a++b).map GIns.enc))):=by
 refine rn func102 ?_;simp [f102]
 omega
mutual
def szE:GExpr→Nat
 | .mk _ _ _ _ l=>1+szEs l
def szEs:List GExpr→Nat
 | []=>0
 | x::l=>szE x+szEs l
end
theorem szE_eq(e:GExpr):szE e=1+szEs e.Args:=by cases e;rw [szE];rfl
theorem szEs_app(l r:List GExpr):szEs (l++r)=szEs l+szEs r:=by
 induction l with
 | nil=>simp [szEs]
 | cons x l ih=>simp only [List.cons_append,szEs,ih];omega
mutual
def genE:GExpr→Int→List GIns×Int
 | .mk k o n s l,m=>
   if k=6∧(o=1∨o=2)then
    match l with
    | a::b::_=>((genE a (m+2)).1++ [⟨25,m⟩]++(if o=1 then [⟨1,1⟩,⟨24,m+1⟩,⟨38,m⟩]++(genE b (genE a (m+2)).2).1++ [⟨11,0⟩,⟨38,m+1⟩]
      else(genE b (genE a (m+2)).2).1++ [⟨11,0⟩,⟨24,m+1⟩,⟨38,m⟩,⟨1,0⟩,⟨38,m+1⟩]),(genE b (genE a (m+2)).2).2)
    | _=>([],m)
   else((genEs l m).1++ [ownM (.mk k o n s l)],(genEs l m).2)
def genEs:List GExpr→Int→List GIns×Int
 | [],m=>([],m)
 | x::l,m=>((genE x m).1++(genEs l (genE x m).2).1,(genEs l (genE x m).2).2)
end
def logicE(e:GExpr):Prop:=e.Kind=6∧(e.Op=1∨e.Op=2)
theorem genE_plain(e:GExpr) (m:Int) (h:¬logicE e):genE e m=((genEs e.Args m).1++ [ownM e],(genEs e.Args m).2):=by
 cases e with
 | mk k o n s l=>
   rw [genE.eq_def]
   have h':¬(k=6∧(o=1∨o=2)):=h
   simp only
   rw [if_neg h']
   rfl
theorem genE_or(e a b:GExpr) (r:List GExpr) (m:Int) (hk:e.Kind=6) (ho:e.Op=1) (ha:e.Args=a::b::r):genE e m=((genE a (m+2)).1++ [⟨25,m⟩]++([⟨1,1⟩,⟨24,m+1⟩,⟨38,m⟩]++(genE b (genE a (m+2)).2).1++ [⟨11,0⟩,⟨38,m+1⟩]),(genE b (genE a (m+2)).2).2):=by
 cases e with
 | mk k o n s l=>
   cases hk;cases ho;cases ha
   rw [genE]
   simp
theorem genE_and(e a b:GExpr) (r:List GExpr) (m:Int) (hk:e.Kind=6) (ho:e.Op=2) (ha:e.Args=a::b::r):genE e m=((genE a (m+2)).1++ [⟨25,m⟩]++((genE b (genE a (m+2)).2).1++ [⟨11,0⟩,⟨24,m+1⟩,⟨38,m⟩,⟨1,0⟩,⟨38,m+1⟩]),(genE b (genE a (m+2)).2).2):=by
 cases e with
 | mk k o n s l=>
   cases hk;cases ho;cases ha
   rw [genE]
   simp
theorem genEs_snoc(l:List GExpr) (x:GExpr) (m:Int):genEs (l++ [x]) m=((genEs l m).1++(genE x (genEs l m).2).1,(genE x (genEs l m).2).2):=by
 induction l generalizing m with
 | nil=>simp [genEs]
 | cons y l ih=>simp [genEs,ih]
theorem genEs_bd(l:List GExpr) (hl:∀x∈l,∀m,m≤(genE x m).2∧(genE x m).2≤m+2 *szE x∧(genE x m).1.length≤6 *szE x) (m:Int):m≤(genEs l m).2∧(genEs l m).2≤m+2 *szEs l∧(genEs l m).1.length≤6 *szEs l:=by
 induction l generalizing m with
 | nil=>simp [genEs,szEs]
 | cons x l ih=>
   have h1:=hl x (by simp) m
   have h2:=ih (fun y hy=>hl y (by simp [hy])) (genE x m).2
   rw [genEs,szEs,List.length_append]
   omega
theorem genE_bd(e:GExpr) (m:Int):m≤(genE e m).2∧(genE e m).2≤m+2 *szE e∧(genE e m).1.length≤6 *szE e:=by
 obtain⟨n,hn⟩:∃n,SizeOf.sizeOf e < n:=⟨_,Nat.lt_succ_self _⟩
 induction n generalizing e m with
 | zero=>omega
 | succ n ih=>
   have hs:∀x∈e.Args,∀m,m≤(genE x m).2∧(genE x m).2≤m+2 *szE x∧(genE x m).1.length≤6 *szE x:=fun x hx m=>ih x m (by have:=GExpr.lt_of_mem hx;omega)
   by_cases hL:logicE e
   ·obtain⟨hk,ho⟩:=hL
    by_cases hA:∃a b r,e.Args=a::b::r
    ·obtain⟨a,b,r,hA⟩:=hA
     have h1:=hs a (by simp [hA]) (m+2)
     have h2:=hs b (by simp [hA]) (genE a (m+2)).2
     rw [szE_eq,hA]
     simp only [szEs]
     rcases ho with ho | ho
     ·rw [genE_or e a b r m hk ho hA]
      simp only [List.length_append,List.length_cons,List.length_nil]
      omega
     ·rw [genE_and e a b r m hk ho hA]
      simp only [List.length_append,List.length_cons,List.length_nil]
      omega
    ·have:genE e m=([],m):=by
      cases e with
      | mk k o n s l=>
        cases l with
        | nil=>rw [genE.eq_def];simp [show k=6 from hk,show o=1∨o=2 from ho]
        | cons a l=>
          cases l with
          | nil=>rw [genE.eq_def];simp [show k=6 from hk,show o=1∨o=2 from ho]
          | cons b r=>exact absurd ⟨a,b,r,rfl⟩ hA
     rw [this]
     simp
     omega
   ·rw [genE_plain e m hL,szE_eq]
    have:=genEs_bd e.Args hs m
    simp only [List.length_append,List.length_cons,List.length_nil]
    omega
end Go.Ab
namespace Go.Ab
open Go.Proofs Go.Proofs.Tryz
theorem bound_logic {t:GTables} {locals:Int} {e:GExpr} (h:boundM t locals e false=true) (hk:e.Kind=6):∃a b,e.Args=[a,b]:=by
 rw [boundM_eq,Bool.and_eq_true]at h
 have h1:=h.1
 simp [boundK,hk,bareM]at h1
 have hl:e.Args.length=2:=by omega
 generalize e.Args=l at hl
 match l,hl with
 | [a,b],_=>exact⟨a,b,rfl⟩
theorem bound_mem {t:GTables} {locals:Int} {e x:GExpr} {said:Bool} (h:boundM t locals e said=true) (hx:x∈e.Args):boundM t locals x false=true:=by
 rw [boundM_eq,Bool.and_eq_true,boundsM_all,List.all_eq_true]at h
 exact h.2 x hx
def genT(r:List GIns×Int):V:= .tup [.d (.sl (r.1.map GIns.enc)),iD r.2]
theorem refExprs_of(l:List GExpr) (hl:l.length≤2199023255488) (n:Int) (hn:0≤n∧n+2 *szEs l≤1000000000)
  (ih:∀(i:Nat) (h:i < l.length) (m:Int),0≤m∧m+2 *szE l[i]≤1000000000→Pure prog 222 [.agg (l[i].enc.map .d),iD m] (genT (genE l[i] m))):
  Pure prog 228 [.d (.sl (l.map GExpr.enc)),iD n] (genT (genEs l n)):=by
 have hbd:=fun i=>genEs_bd (l.take i) (fun x _ m=>genE_bd x m) n
 have hszs:∀i,szEs (l.take i)≤szEs l:=fun i=>by
  have:=szEs_app (l.take i) (l.drop i);rw [List.take_append_drop]at this;omega
 unfold genT
 refine rn func228 ?_;simp [f228]
 refine AWP.weaken (Wk.nil' (t:=6) rfl) ?_
 refine AWP.loopS [0,1,6,7] l.length (fun i=> [(1,iD (genEs (l.take i) n).2),(6,.d (.sl ((genEs (l.take i) n).1.map GIns.enc))),(7,iD i)]) (fun _=> []) (fun _=>True) (by rfl) (by simp [genEs]) ?_
 intro i hi _
 rcases Nat.lt_or_eq_of_le hi with hlt | rfl
 ·have hge:l[i]?=some l[i]:=List.getElem?_eq_getElem hlt
  have htk:List.take (i+1) l=List.take i l++ [l[i]]:=by rw [List.take_add_one,hge];rfl
  have hS:=ih i hlt
  have hsn:=genEs_snoc (l.take i) l[i] n
  have hsz:=szEs_app (l.take i) [l[i]]
  rw [←htk]at hsn hsz
  simp only [szEs]at hsz
  have h0:=hszs (i+1)
  have h1:=hbd i
  have h2:=genE_bd l[i] (genEs (l.take i) n).2
  generalize hE:l[i]=x at *
  generalize hM:genEs (l.take i) n=k at *
  generalize hM':genEs (l.take (i+1)) n=k' at *
  obtain⟨k1,k2⟩:=k
  simp only at hsn h1 h2
  have a4:inR .i64 ((i:Int)+1):=iW
  simp [hlt,hge,hE]
  have hC:=hS k2 ⟨by omega,by omega⟩
  generalize genE x k2=q at *
  obtain⟨q1,q2⟩:=q
  unfold genT at hC
  simp only at h2 hsn hC
  refine AOps.pureC rfl (hC) (by simp) rfl (by simp) rfl ?_
  simp
  refine AOps.pureC rfl (join_ok k1 q1 (by omega) (by omega)) (by simp) rfl (by simp) rfl ?_
  simp [hM',hsn,a4,hlt]
 ·simp
theorem refExpr_ok(t:GTables) (locals:Int) (e:GExpr) (he:e.wf) (hb:boundM t locals e false=true) (n:Int) (hn:0≤n∧n+2 *szE e≤1000000000):
  Pure prog 222 [.agg (e.enc.map .d),iD n] (genT (genE e n)):=by
 obtain⟨N,hN⟩:∃N,SizeOf.sizeOf e < N:=⟨_,Nat.lt_succ_self _⟩
 induction N generalizing e n with
 | zero=>omega
 | succ N ih=>
   have hw:=(GExpr.wf_iff e).1 he
   have hlen:e.Args.length≤2199023255488:=by omega
   have hsub:∀x∈e.Args,∀m:Int,0≤m∧m+2 *szE x≤1000000000→Pure prog 222 [.agg (x.enc.map .d),iD m] (genT (genE x m)):=fun x hx m hm=>
    ih x (hw.2.2.2.2.2 _ hx) (bound_mem hb hx) m hm (by have:=GExpr.lt_of_mem hx;omega)
   have hz:=szE_eq e
   by_cases hk:e.Kind=6
   ·obtain⟨a,b,hA⟩:=bound_logic hb hk
    have hSa:=hsub a (by simp [hA])
    have hSb:=hsub b (by simp [hA])
    rw [hA]at hz
    simp only [szEs]at hz
    have ba:=genE_bd a (n+2)
    have bb:=genE_bd b (genE a (n+2)).2
    have a1:inR .i64 (n+2):=iW
    have a2:inR .i64 (n+1):=iW
    have hz':=fun L=>(zero_ok n).ok L
    have hl1:=fun m L=>(label_ok m).ok L
    have hl2:=fun m L=>(jump_ok m).ok L
    have hl3:=fun a b L=>(code_ok a b).ok L
    have ca:=hSa (n+2) ⟨by omega,by omega⟩
    by_cases ho:e.Op=1
    ·rw [genE_or e a b [] n hk ho hA]
     generalize genE a (n+2)=p at *
     obtain⟨p1,p2⟩:=p
     have cb:=hSb p2 ⟨by omega,by omega⟩
     generalize genE b p2=q at *
     obtain⟨q1,q2⟩:=q
     unfold genT at ca cb ⊢
     simp only at ba bb ca cb ⊢
     refine rn func222 ?_;simp [f222,hk,ho]
     intro bs
     simp [hA,a1]
     refine AOps.pureC rfl (ca) (by simp) rfl (by simp) rfl ?_
     simp [hA,a1,a2,ho]
     refine AOps.pureC rfl (cb) (by simp) rfl (by simp) rfl ?_
     simp [hA,a1,a2,ho]
     refine AOps.pureC rfl (zero_ok n) (by simp) rfl (by simp) rfl ?_
     simp [hA,a1,a2,ho]
     refine AOps.weaken (Wk.freeze 48 (ys:=([GIns.mk 25 n]).map _) rfl) ?_
     simp
     refine AOps.pureC rfl (join_ok (p1) [GIns.mk 25 n] (by first | omega | (simp <;> omega)) (by simp)) (by simp) rfl (by simp) rfl ?_
     simp [hA,a1,a2,ho]
     refine AOps.pureC rfl (code_ok 1 1) (by simp) rfl (by simp) rfl ?_
     simp [hA,a1,a2,ho]
     refine AOps.pureC rfl (jump_ok (n+1)) (by simp) rfl (by simp) rfl ?_
     simp [hA,a1,a2,ho]
     refine AOps.pureC rfl (label_ok n) (by simp) rfl (by simp) rfl ?_
     simp [hA,a1,a2,ho]
     refine AOps.weaken (Wk.freeze 60 (ys:=([GIns.mk 1 1,GIns.mk 24 (n+1),GIns.mk 38 n]).map _) rfl) ?_
     simp
     refine AOps.pureC rfl (join_ok (p1++ [GIns.mk 25 n]) [GIns.mk 1 1,GIns.mk 24 (n+1),GIns.mk 38 n] (by first | omega | (simp <;> omega)) (by simp)) (by simp) rfl (by simp) rfl ?_
     simp [hA,a1,a2,ho]
     refine AOps.pureC rfl (join_ok (p1++ [GIns.mk 25 n]++ [GIns.mk 1 1,GIns.mk 24 (n+1),GIns.mk 38 n]) q1 (by first | omega | (simp <;> omega)) (by omega)) (by simp) rfl (by simp) rfl ?_
     simp [hA,a1,a2,ho]
     refine AOps.pureC rfl (code_ok 11 0) (by simp) rfl (by simp) rfl ?_
     simp [hA,a1,a2,ho]
     refine AOps.pureC rfl (label_ok (n+1)) (by simp) rfl (by simp) rfl ?_
     simp [hA,a1,a2,ho]
     refine AOps.weaken (Wk.freeze 69 (ys:=([GIns.mk 11 0,GIns.mk 38 (n+1)]).map _) rfl) ?_
     simp
     refine AOps.pureC rfl (join_ok (p1++ [GIns.mk 25 n]++ [GIns.mk 1 1,GIns.mk 24 (n+1),GIns.mk 38 n]++q1) [GIns.mk 11 0,GIns.mk 38 (n+1)] (by first | omega | (simp <;> omega)) (by simp)) (by simp) rfl (by simp) rfl ?_
     simp [hA,a1,a2,ho]
    ·by_cases ho':e.Op=2
     ·rw [genE_and e a b [] n hk ho' hA]
      generalize genE a (n+2)=p at *
      obtain⟨p1,p2⟩:=p
      have cb:=hSb p2 ⟨by omega,by omega⟩
      generalize genE b p2=q at *
      obtain⟨q1,q2⟩:=q
      unfold genT at ca cb ⊢
      simp only at ba bb ca cb ⊢
      refine rn func222 ?_;simp [f222,hk,ho']
      intro bs
      simp [hA,a1]
      refine AOps.pureC rfl (ca) (by simp) rfl (by simp) rfl ?_
      simp [hA,a1,a2,ho']
      refine AOps.pureC rfl (cb) (by simp) rfl (by simp) rfl ?_
      simp [hA,a1,a2,ho']
      refine AOps.pureC rfl (zero_ok n) (by simp) rfl (by simp) rfl ?_
      simp [hA,a1,a2,ho']
      refine AOps.weaken (Wk.freeze 48 (ys:=([GIns.mk 25 n]).map _) rfl) ?_
      simp
      refine AOps.pureC rfl (join_ok (p1) [GIns.mk 25 n] (by first | omega | (simp <;> omega)) (by simp)) (by simp) rfl (by simp) rfl ?_
      simp [hA,a1,a2,ho']
      refine AOps.pureC rfl (join_ok (p1++ [GIns.mk 25 n]) q1 (by first | omega | (simp <;> omega)) (by omega)) (by simp) rfl (by simp) rfl ?_
      simp [hA,a1,a2,ho']
      refine AOps.pureC rfl (code_ok 11 0) (by simp) rfl (by simp) rfl ?_
      simp [hA,a1,a2,ho']
      refine AOps.pureC rfl (jump_ok (n+1)) (by simp) rfl (by simp) rfl ?_
      simp [hA,a1,a2,ho']
      refine AOps.pureC rfl (label_ok n) (by simp) rfl (by simp) rfl ?_
      simp [hA,a1,a2,ho']
      refine AOps.pureC rfl (code_ok 1 0) (by simp) rfl (by simp) rfl ?_
      simp [hA,a1,a2,ho']
      refine AOps.pureC rfl (label_ok (n+1)) (by simp) rfl (by simp) rfl ?_
      simp [hA,a1,a2,ho']
      refine AOps.weaken (Wk.freeze 85 (ys:=([GIns.mk 11 0,GIns.mk 24 (n+1),GIns.mk 38 n,GIns.mk 1 0,GIns.mk 38 (n+1)]).map _) rfl) ?_
      simp
      refine AOps.pureC rfl (join_ok (p1++ [GIns.mk 25 n]++q1) [GIns.mk 11 0,GIns.mk 24 (n+1),GIns.mk 38 n,GIns.mk 1 0,GIns.mk 38 (n+1)] (by first | omega | (simp <;> omega)) (by simp)) (by simp) rfl (by simp) rfl ?_
      simp [hA,a1,a2,ho']
     ·have hL:¬logicE e:=by simp [logicE,hk,ho,ho']
      rw [genE_plain e n hL]
      have hz:=szE_eq e
      have bd:=genEs_bd e.Args (fun x _ m=>genE_bd x m) n
      have hc:=refExprs_of e.Args hlen n ⟨by omega,by omega⟩ (fun i h m hm=>hsub _ (List.getElem_mem h) m hm)
      generalize genEs e.Args n=p at *
      obtain⟨p1,p2⟩:=p
      unfold genT at hc ⊢
      simp only at bd hc ⊢
      refine rn func222 ?_;simp [f222,hk,ho,ho']
      intro bs
      refine AOps.pureC rfl (hc) (by simp) rfl (by simp) rfl ?_
      simp
      refine AOps.pureC rfl (own_ok e) (by simp) rfl (by simp) rfl ?_
      simp
      refine AOps.weaken (Wk.freeze 98 (ys:=([ownM e]).map _) rfl) ?_
      simp
      refine AOps.pureC rfl (join_ok p1 [ownM e] (by omega) (by simp)) (by simp) rfl (by simp) rfl ?_
      simp
   ·have hL:¬logicE e:=by simp [logicE,hk]
    rw [genE_plain e n hL]
    have hz:=szE_eq e
    have bd:=genEs_bd e.Args (fun x _ m=>genE_bd x m) n
    have hc:=refExprs_of e.Args hlen n ⟨by omega,by omega⟩ (fun i h m hm=>hsub _ (List.getElem_mem h) m hm)
    generalize genEs e.Args n=p at *
    obtain⟨p1,p2⟩:=p
    unfold genT at hc ⊢
    simp only at bd hc ⊢
    refine rn func222 ?_;simp [f222,hk]
    intro bs
    refine AOps.pureC rfl (hc) (by simp) rfl (by simp) rfl ?_
    simp
    refine AOps.pureC rfl (own_ok e) (by simp) rfl (by simp) rfl ?_
    simp
    refine AOps.weaken (Wk.freeze 98 (ys:=([ownM e]).map _) rfl) ?_
    simp
    refine AOps.pureC rfl (join_ok p1 [ownM e] (by omega) (by simp)) (by simp) rfl (by simp) rfl ?_
    simp
end Go.Ab
namespace Go.Ab
open Go.Proofs Go.Proofs.Tryz
def wb(b:Nat) (l:List GIns) (n:Int):Heap:=[(5001,.box (b+1) 103 [.rv 5002,iD n]),(5002,.row 93 2 (dd (l.map GIns.enc)))]
def WCalls(f:FuncId) (args:List V) (b:Nat) (l:List GIns) (n:Int) (x:V) (l':List GIns) (n':Int):Prop:=ACalls prog f (.bp 5001 0::args) (wb b l n) (fun r L=>r= .ret x∧L=wb b l' n')
theorem wlabel_ok(b:Nat) (l:List GIns) (n:Int) (hn:0≤n∧n≤1000000000000):WCalls 191 [] b l n (iD n) l (n+1):=by
 unfold WCalls wb
 refine ACalls.run func191 rfl (by simp [f191]) ?_;simp [f191]
 rw [inR_i64,inR_i64];omega
theorem lay0_ok(b:Nat) (l:List GIns) (n:Int) (op:Int) (hl:l.length≤1000000000000):WCalls 59 [iD op,.d (.v (.slice none 0 0))] b l n (.tup []) (l++ [⟨op,0⟩]) n:=by
 unfold WCalls wb
 refine ACalls.runP [5001,5002] (by simp) func59 rfl (by simp [f59]) ?_;simp [f59]
 intro bs
 refine AWP.loopS [0,6,11,12,13] 0 (fun i=> []) (fun _=> []) (fun _=>True) (by rfl) (by simp) ?_
 intro i hi _
 obtain rfl:i=0:=by omega
 simp
 refine AWP.regionM0 [some (0,2),some (0,1),some (0,1),some (0,1),some (0,1),some (0,0),none,none,some (2,2),some (2,2),none] [] tmix (by kernel_rfl) ?_
 simp
 exact⟨by omega,by simp [dd,GIns.enc]⟩
theorem lay1_ok(b:Nat) (l:List GIns) (n:Int) (op x:Int) (hl:l.length≤1000000000000):WCalls 59 [iD op,.d (.sl (encI [x]))] b l n (.tup []) (l++ [⟨op,x⟩]) n:=by
 unfold WCalls wb
 refine ACalls.runP [5001,5002] (by simp) func59 rfl (by simp [f59]) ?_;simp [f59]
 intro bs
 refine AWP.loopS [0,6,11,12,13] 1 (fun i=> [(13,iD i)]) (fun i=> [(6,.box (bs 0+1) 93 [iD op,iD (if i=0 then 0 else x)])]) (fun _=>True) (by rfl) (by simp) ?_
 intro i hi _
 rcases Nat.lt_or_eq_of_le hi with hlt | rfl
 ·obtain rfl:i=0:=by omega
  simp
  rw [inR_i64];omega
 ·simp
  refine AWP.regionM0 [some (0,2),some (0,1),some (0,1),some (0,1),some (0,1),some (0,0),none,none,some (2,2),some (2,2),none] [] tmix (by kernel_rfl) ?_
  simp
  exact⟨by omega,by simp [dd,GIns.enc]⟩
theorem two_ok(b:Nat) (l:List GIns) (n:Int) (hn:0≤n∧n≤999999999999):WCalls 192 [] b l n (.tup [iD n,iD (n+1)]) l (n+2):=by
 have h2:=wlabel_ok b l (n+1) (by omega)
 rw [show n+1+1=n+2 by omega]at h2
 unfold WCalls wb
 refine ACalls.run func192 rfl (by simp [f192]) ?_;simp [f192]
 refine AOps.effD [5001,5002] rfl (wlabel_ok b l n (by omega)) (by simp [wb]) rfl (by simp) rfl (by kernel_rfl) (by simp [wb]) (by simp [wb]) (by simp [wb]) (by simp [wb]) (by simp [wb]) ?_
 simp
 refine AOps.effD [5001,5002] rfl (h2) (by simp [wb]) rfl (by simp) rfl (by kernel_rfl) (by simp [wb]) (by simp [wb]) (by simp [wb]) (by simp [wb]) (by simp [wb]) ?_
 simp [wb]
end Go.Ab
namespace Go.Ab
open Go.Proofs Go.Proofs.Tryz
def WExpr(x:GExpr):Prop:=∀(b:Nat) (l:List GIns) (n:Int),0≤n∧n+2 *szE x≤1000000000∧l.length+6 *szE x≤100000000000→
 WCalls 193 [.agg (x.enc.map .d)] b l n (.tup []) (l++(genE x n).1) (genE x n).2
theorem wexprs_of(es:List GExpr) (hes:es.length≤2199023255488) (b:Nat) (l:List GIns) (n:Int) (hn:0≤n∧n+2 *szEs es≤1000000000∧l.length+6 *szEs es≤100000000000) (ih:∀x∈es,WExpr x):
  WCalls 189 [.d (.sl (es.map GExpr.enc))] b l n (.tup []) (l++(genEs es n).1) (genEs es n).2:=by
 have hbd:=fun i=>genEs_bd (es.take i) (fun x _ m=>genE_bd x m) n
 have hszs:∀i,szEs (es.take i)≤szEs es:=fun i=>by
  have:=szEs_app (es.take i) (es.drop i);rw [List.take_append_drop]at this;omega
 unfold WCalls wb
 refine ACalls.runP [5001,5002] (by simp) func189 rfl (by simp [f189]) ?_;simp [f189]
 refine AWP.loopS [0,6,7,8] es.length (fun i=> [(8,iD i)]) (fun i=> [(5001,.box (b+1) 103 [.rv 5002,iD (genEs (es.take i) n).2]),(5002,.row 93 2 (dd ((l++(genEs (es.take i) n).1).map GIns.enc)))]) (fun _=>True) (by rfl) (by simp [genEs]) ?_
 intro i hi _
 rcases Nat.lt_or_eq_of_le hi with hlt | rfl
 ·have hge:es[i]?=some es[i]:=List.getElem?_eq_getElem hlt
  have htk:List.take (i+1) es=List.take i es++ [es[i]]:=by rw [List.take_add_one,hge];rfl
  have hS:=ih es[i] (List.getElem_mem hlt)
  have hsn:=genEs_snoc (es.take i) es[i] n
  have hsz:=szEs_app (es.take i) [es[i]]
  rw [←htk]at hsn hsz
  simp only [szEs]at hsz
  have h0:=hszs (i+1)
  have h1:=hbd i
  generalize hE:es[i]=x at *
  generalize hM:genEs (es.take i) n=k at *
  generalize hM':genEs (es.take (i+1)) n=k' at *
  obtain⟨k1,k2⟩:=k
  simp only at hsn h1
  have a4:inR .i64 ((i:Int)+1):=iW
  have hC:=hS b (l++k1) k2 ⟨by omega,by omega,by rw [List.length_append];omega⟩
  generalize genE x k2=q at *
  obtain⟨q1,q2⟩:=q
  simp [hlt,hge,hE]
  intro bs
  refine AOps.effD [5001,5002] rfl (hC) (by simp [wb]) rfl (by simp) rfl (by kernel_rfl) (by simp [wb]) (by simp [wb]) (by simp [wb]) (by simp [wb]) (by simp [wb]) ?_
  simp [hM',hsn,a4,hlt,wb]
 ·simp
end Go.Ab
namespace Go.Ab
open Go.Proofs Go.Proofs.Tryz
def lb(b2 b3:Nat) (e:GExpr):Heap:=[(3,.box (b3+1) 113 (e.enc.map .d)),(2,.box (b2+1) 101 [.bp 5001 0])]
theorem right_of(b2 b3:Nat) (e x y:GExpr) (hA:e.Args=[x,y]) (b:Nat) (l:List GIns) (n:Int) (hn:0≤n∧n+2 *szE y≤1000000000∧l.length+6 *szE y≤100000000000) (hy:WExpr y):
  ACalls prog 231 [.bp 2 0,.bp 3 0] (wb b l n++lb b2 b3 e) (fun r L=>r= .ret (.tup [])∧L=wb b (l++(genE y n).1++ [⟨11,0⟩]) (genE y n).2++lb b2 b3 e):=by
 have hC:=hy b l n hn
 have hbd:=genE_bd y n
 generalize genE y n=q at *
 obtain⟨q1,q2⟩:=q
 simp only at hC hbd ⊢
 unfold lb wb
 refine ACalls.runP [5001,5002,3,2] (by simp) func231 rfl (by simp [f231]) ?_;simp [f231]
 refine AWP.regionM0 [some (0,0),some (0,0),some (0,0),some (0,0),some (0,0),none] [] tmix (by kernel_rfl) ?_
 simp [hA]
 refine EffM.intro (fun _=>LOp.call 5002 [5001,5002] rfl (hC) (by simp [wb]) rfl (by kernel_rfl) (by simp [wb]) (by simp [wb]) (by simp+contextual [wb]) (by simp [wb]) (by simp [wb])) ?_
 simp [wb]
 refine AOps.effD [5001,5002] rfl (lay0_ok b (l++q1) q2 11 (by rw [List.length_append] <;> omega)) (by simp [wb]) rfl (by simp) rfl (by kernel_rfl) (by simp [wb]) (by simp [wb]) (by simp [wb]) (by simp [wb]) (by simp [wb]) ?_
 simp [wb]
theorem wlogic_of(e x y:GExpr) (hk:e.Kind=6) (ho:e.Op=1∨e.Op=2) (hA:e.Args=[x,y]) (hx:WExpr x) (hy:WExpr y) (b:Nat) (l:List GIns) (n:Int) (hn:0≤n∧n+2 *szE e≤1000000000∧l.length+6 *szE e≤100000000000):
  WCalls 215 [.agg (e.enc.map .d)] b l n (.tup []) (l++(genE e n).1) (genE e n).2:=by
 have hz:=szE_eq e
 rw [hA]at hz
 simp only [szEs]at hz
 have ba:=genE_bd x (n+2)
 have bb:=genE_bd y (genE x (n+2)).2
 have ca:=hx b l (n+2) ⟨by omega,by omega,by omega⟩
 have a1:inR .i64 (n+1):=iW
 rcases ho with ho | ho
 ·rw [genE_or e x y [] n hk ho hA]
  generalize genE x (n+2)=p at *
  obtain⟨p1,p2⟩:=p
  simp only at ba bb ca ⊢
  have hR:=fun b2 b3 l h=>right_of b2 b3 e x y hA b l p2 h hy
  generalize genE y p2=q at *
  obtain⟨q1,q2⟩:=q
  simp only at bb hR ⊢
  unfold WCalls wb
  refine ACalls.runP [5001,5002] (by simp) func215 rfl (by simp [f215]) ?_;simp [f215]
  intro bs
  refine AOps.effD [5001,5002] rfl (two_ok b l n (by omega)) (by simp [wb]) rfl (by simp) rfl (by kernel_rfl) (by simp [wb]) (by simp [wb]) (by simp [wb]) (by simp [wb]) (by simp [wb]) ?_
  simp [wb]
  refine AWP.regionM0 [some (0,0),some (0,0),some (0,0),some (0,0),some (0,0),none] [] tmix (by kernel_rfl) ?_
  simp [hA]
  refine EffM.intro (fun _=>LOp.call 5002 [5001,5002] rfl (ca) (by simp [wb]) rfl (by kernel_rfl) (by simp [wb]) (by simp [wb]) (by simp+contextual [wb]) (by simp [wb]) (by simp [wb])) ?_
  simp [wb]
  refine AOps.weaken (Wk.freeze 20 (ys:=encI [n]) rfl) ?_
  simp
  refine AOps.effD [5001,5002] rfl (lay1_ok b (l++p1) p2 25 (n) (by simp <;> omega)) (by simp [wb]) rfl (by simp) rfl (by kernel_rfl) (by simp [wb]) (by simp [wb]) (by simp [wb]) (by simp [wb]) (by simp [wb]) ?_
  simp [wb,ho,a1]
  refine AOps.weaken (Wk.freeze 27 (ys:=encI [1]) rfl) ?_
  simp
  refine AOps.effD [5001,5002] rfl (lay1_ok b (l++p1++ [GIns.mk 25 n]) p2 1 (1) (by simp <;> omega)) (by simp [wb]) rfl (by simp) rfl (by kernel_rfl) (by simp [wb]) (by simp [wb]) (by simp [wb]) (by simp [wb]) (by simp [wb]) ?_
  simp [wb,ho,a1]
  refine AOps.weaken (Wk.freeze 33 (ys:=encI [(n+1)]) rfl) ?_
  simp
  refine AOps.effD [5001,5002] rfl (lay1_ok b (l++p1++ [GIns.mk 25 n]++ [GIns.mk 1 1]) p2 24 ((n+1)) (by simp <;> omega)) (by simp [wb]) rfl (by simp) rfl (by kernel_rfl) (by simp [wb]) (by simp [wb]) (by simp [wb]) (by simp [wb]) (by simp [wb]) ?_
  simp [wb,ho,a1]
  refine AOps.weaken (Wk.freeze 37 (ys:=encI [n]) rfl) ?_
  simp
  refine AOps.effD [5001,5002] rfl (lay1_ok b (l++p1++ [GIns.mk 25 n]++ [GIns.mk 1 1]++ [GIns.mk 24 (n+1)]) p2 38 (n) (by simp <;> omega)) (by simp [wb]) rfl (by simp) rfl (by kernel_rfl) (by simp [wb]) (by simp [wb]) (by simp [wb]) (by simp [wb]) (by simp [wb]) ?_
  simp [wb,ho,a1]
  refine AOps.effD [5001,5002,3,2] rfl (hR (bs 0) (bs 1) (l++p1++ [GIns.mk 25 n]++ [GIns.mk 1 1]++ [GIns.mk 24 (n+1)]++ [GIns.mk 38 n]) ⟨by omega,by omega,by simp <;> omega⟩) (by simp [wb]) rfl (by simp) rfl (by kernel_rfl) (by simp [wb,lb]) (by simp [wb,lb]) (by simp [wb,lb]) (by simp [wb,lb]) (by simp [wb,lb]) ?_
  simp [wb,lb,ho,a1]
  refine AOps.weaken (Wk.freeze 48 (ys:=encI [(n+1)]) rfl) ?_
  simp
  refine AOps.effD [5001,5002] rfl (lay1_ok b (l++p1++ [GIns.mk 25 n]++ [GIns.mk 1 1]++ [GIns.mk 24 (n+1)]++ [GIns.mk 38 n]++q1++ [GIns.mk 11 0]) q2 38 ((n+1)) (by simp <;> omega)) (by simp [wb]) rfl (by simp) rfl (by kernel_rfl) (by simp [wb]) (by simp [wb]) (by simp [wb]) (by simp [wb]) (by simp [wb]) ?_
  simp [wb,ho,a1]
 ·rw [genE_and e x y [] n hk ho hA]
  generalize genE x (n+2)=p at *
  obtain⟨p1,p2⟩:=p
  simp only at ba bb ca ⊢
  have hR:=fun b2 b3 l h=>right_of b2 b3 e x y hA b l p2 h hy
  generalize genE y p2=q at *
  obtain⟨q1,q2⟩:=q
  simp only at bb hR ⊢
  unfold WCalls wb
  refine ACalls.runP [5001,5002] (by simp) func215 rfl (by simp [f215]) ?_;simp [f215]
  intro bs
  refine AOps.effD [5001,5002] rfl (two_ok b l n (by omega)) (by simp [wb]) rfl (by simp) rfl (by kernel_rfl) (by simp [wb]) (by simp [wb]) (by simp [wb]) (by simp [wb]) (by simp [wb]) ?_
  simp [wb]
  refine AWP.regionM0 [some (0,0),some (0,0),some (0,0),some (0,0),some (0,0),none] [] tmix (by kernel_rfl) ?_
  simp [hA]
  refine EffM.intro (fun _=>LOp.call 5002 [5001,5002] rfl (ca) (by simp [wb]) rfl (by kernel_rfl) (by simp [wb]) (by simp [wb]) (by simp+contextual [wb]) (by simp [wb]) (by simp [wb])) ?_
  simp [wb]
  refine AOps.weaken (Wk.freeze 20 (ys:=encI [n]) rfl) ?_
  simp
  refine AOps.effD [5001,5002] rfl (lay1_ok b (l++p1) p2 25 (n) (by simp <;> omega)) (by simp [wb]) rfl (by simp) rfl (by kernel_rfl) (by simp [wb]) (by simp [wb]) (by simp [wb]) (by simp [wb]) (by simp [wb]) ?_
  simp [wb,ho,a1]
  refine AOps.effD [5001,5002,3,2] rfl (hR (bs 0) (bs 1) (l++p1++ [GIns.mk 25 n]) ⟨by omega,by omega,by simp <;> omega⟩) (by simp [wb]) rfl (by simp) rfl (by kernel_rfl) (by simp [wb,lb]) (by simp [wb,lb]) (by simp [wb,lb]) (by simp [wb,lb]) (by simp [wb,lb]) ?_
  simp [wb,lb,ho,a1]
  refine AOps.weaken (Wk.freeze 33 (ys:=encI [(n+1)]) rfl) ?_
  simp
  refine AOps.effD [5001,5002] rfl (lay1_ok b (l++p1++ [GIns.mk 25 n]++q1++ [GIns.mk 11 0]) q2 24 ((n+1)) (by simp <;> omega)) (by simp [wb]) rfl (by simp) rfl (by kernel_rfl) (by simp [wb]) (by simp [wb]) (by simp [wb]) (by simp [wb]) (by simp [wb]) ?_
  simp [wb,ho,a1]
  refine AOps.weaken (Wk.freeze 37 (ys:=encI [n]) rfl) ?_
  simp
  refine AOps.effD [5001,5002] rfl (lay1_ok b (l++p1++ [GIns.mk 25 n]++q1++ [GIns.mk 11 0]++ [GIns.mk 24 (n+1)]) q2 38 (n) (by simp <;> omega)) (by simp [wb]) rfl (by simp) rfl (by kernel_rfl) (by simp [wb]) (by simp [wb]) (by simp [wb]) (by simp [wb]) (by simp [wb]) ?_
  simp [wb,ho,a1]
  refine AOps.effD [5001,5002] rfl (lay0_ok b (l++p1++ [GIns.mk 25 n]++q1++ [GIns.mk 11 0]++ [GIns.mk 24 (n+1)]++ [GIns.mk 38 n]) q2 1 (by simp <;> omega)) (by simp [wb]) rfl (by simp) rfl (by kernel_rfl) (by simp [wb]) (by simp [wb]) (by simp [wb]) (by simp [wb]) (by simp [wb]) ?_
  simp [wb,ho,a1]
  refine AOps.weaken (Wk.freeze 48 (ys:=encI [(n+1)]) rfl) ?_
  simp
  refine AOps.effD [5001,5002] rfl (lay1_ok b (l++p1++ [GIns.mk 25 n]++q1++ [GIns.mk 11 0]++ [GIns.mk 24 (n+1)]++ [GIns.mk 38 n]++ [GIns.mk 1 0]) q2 38 ((n+1)) (by simp <;> omega)) (by simp [wb]) rfl (by simp) rfl (by kernel_rfl) (by simp [wb]) (by simp [wb]) (by simp [wb]) (by simp [wb]) (by simp [wb]) ?_
  simp [wb,ho,a1]
end Go.Ab
namespace Go.Ab
open Go.Proofs Go.Proofs.Tryz
theorem bound_kind {t:GTables} {locals:Int} {e:GExpr} (h:boundM t locals e false=true):e.Kind=1∨e.Kind=14∨e.Kind=15∨e.Kind=12∨e.Kind=4∨e.Kind=5∨e.Kind=11∨e.Kind=6∨e.Kind=16∨e.Kind=17∨e.Kind=18∨e.Kind=10:=by
 rw [boundM_eq,Bool.and_eq_true]at h
 have h1:=h.1
 refine Decidable.byContradiction fun hn=>?_
 simp only [not_or]at hn
 obtain⟨n0,n1,n2,n3,n4,n5,n6,n7,n8,n9,n10,n11⟩:=hn
 simp [boundK,n0,n1,n2,n3,n4,n5,n6,n7,n8,n9,n10,n11]at h1
set_option maxRecDepth 20000 in
set_option maxHeartbeats 4000000 in
theorem wplain_of(t:GTables) (locals:Int) (e:GExpr) (he:e.wf) (hb:boundM t locals e false=true) (hL:¬logicE e) (hs:∀x∈e.Args,WExpr x):WExpr e:=by
 intro b l n hn
 have hz:=szE_eq e
 have hw:=(GExpr.wf_iff e).1 he
 have hlen:e.Args.length≤2199023255488:=by omega
 have bd:=genEs_bd e.Args (fun x _ m=>genE_bd x m) n
 have hc:=wexprs_of e.Args hlen b l n ⟨by omega,by omega,by omega⟩ hs
 have hkd:=bound_kind hb
 rw [genE_plain e n hL]
 generalize genEs e.Args n=p at *
 obtain⟨p1,p2⟩:=p
 simp only at bd hc ⊢
 rcases hkd with hk | hk | hk | hk | hk | hk | hk | hk | hk | hk | hk | hk
 ·have hO:ownM e=⟨1,e.Num⟩:=by simp [ownM,hk]
  rw [hO]
  unfold WCalls wb
  refine ACalls.runP [5001,5002] (by simp) func193 rfl (by simp [f193]) ?_;simp [f193,hk]
  intro bs
  refine AOps.effD [5001,5002] rfl (hc) (by simp [wb]) rfl (by simp) rfl (by kernel_rfl) (by simp [wb]) (by simp [wb]) (by simp [wb]) (by simp [wb]) (by simp [wb]) ?_
  simp [wb,hk]
  refine AOps.weaken (Wk.freeze 31 (ys:=encI [e.Num]) rfl) ?_
  simp
  refine AOps.effD [5001,5002] rfl (lay1_ok b (l++p1) p2 1 e.Num (by simp <;> omega)) (by simp [wb]) rfl (by simp) rfl (by kernel_rfl) (by simp [wb]) (by simp [wb]) (by simp [wb]) (by simp [wb]) (by simp [wb]) ?_
  simp [wb]
 ·have hO:ownM e=⟨3,e.Num⟩:=by simp [ownM,hk]
  rw [hO]
  unfold WCalls wb
  refine ACalls.runP [5001,5002] (by simp) func193 rfl (by simp [f193]) ?_;simp [f193,hk]
  intro bs
  refine AOps.effD [5001,5002] rfl (hc) (by simp [wb]) rfl (by simp) rfl (by kernel_rfl) (by simp [wb]) (by simp [wb]) (by simp [wb]) (by simp [wb]) (by simp [wb]) ?_
  simp [wb,hk]
  refine AOps.weaken (Wk.freeze 38 (ys:=encI [e.Num]) rfl) ?_
  simp
  refine AOps.effD [5001,5002] rfl (lay1_ok b (l++p1) p2 3 e.Num (by simp <;> omega)) (by simp [wb]) rfl (by simp) rfl (by kernel_rfl) (by simp [wb]) (by simp [wb]) (by simp [wb]) (by simp [wb]) (by simp [wb]) ?_
  simp [wb]
 ·have hO:ownM e=⟨5,e.Num⟩:=by simp [ownM,hk]
  rw [hO]
  unfold WCalls wb
  refine ACalls.runP [5001,5002] (by simp) func193 rfl (by simp [f193]) ?_;simp [f193,hk]
  intro bs
  refine AOps.effD [5001,5002] rfl (hc) (by simp [wb]) rfl (by simp) rfl (by kernel_rfl) (by simp [wb]) (by simp [wb]) (by simp [wb]) (by simp [wb]) (by simp [wb]) ?_
  simp [wb,hk]
  refine AOps.weaken (Wk.freeze 45 (ys:=encI [e.Num]) rfl) ?_
  simp
  refine AOps.effD [5001,5002] rfl (lay1_ok b (l++p1) p2 5 e.Num (by simp <;> omega)) (by simp [wb]) rfl (by simp) rfl (by kernel_rfl) (by simp [wb]) (by simp [wb]) (by simp [wb]) (by simp [wb]) (by simp [wb]) ?_
  simp [wb]
 ·have hO:ownM e=⟨7,e.Op⟩:=by simp [ownM,hk]
  rw [hO]
  unfold WCalls wb
  refine ACalls.runP [5001,5002] (by simp) func193 rfl (by simp [f193]) ?_;simp [f193,hk]
  intro bs
  refine AOps.effD [5001,5002] rfl (hc) (by simp [wb]) rfl (by simp) rfl (by kernel_rfl) (by simp [wb]) (by simp [wb]) (by simp [wb]) (by simp [wb]) (by simp [wb]) ?_
  simp [wb,hk]
  refine AOps.weaken (Wk.freeze 52 (ys:=encI [e.Op]) rfl) ?_
  simp
  refine AOps.effD [5001,5002] rfl (lay1_ok b (l++p1) p2 7 e.Op (by simp <;> omega)) (by simp [wb]) rfl (by simp) rfl (by kernel_rfl) (by simp [wb]) (by simp [wb]) (by simp [wb]) (by simp [wb]) (by simp [wb]) ?_
  simp [wb]
 ·have hO:ownM e=⟨9,0⟩:=by simp [ownM,hk]
  rw [hO]
  unfold WCalls wb
  refine ACalls.runP [5001,5002] (by simp) func193 rfl (by simp [f193]) ?_;simp [f193,hk]
  intro bs
  refine AOps.effD [5001,5002] rfl (hc) (by simp [wb]) rfl (by simp) rfl (by kernel_rfl) (by simp [wb]) (by simp [wb]) (by simp [wb]) (by simp [wb]) (by simp [wb]) ?_
  simp [wb,hk]
  refine AOps.effD [5001,5002] rfl (lay0_ok b (l++p1) p2 9 (by simp <;> omega)) (by simp [wb]) rfl (by simp) rfl (by kernel_rfl) (by simp [wb]) (by simp [wb]) (by simp [wb]) (by simp [wb]) (by simp [wb]) ?_
  simp [wb]
 ·have hO:ownM e=⟨10,0⟩:=by simp [ownM,hk]
  rw [hO]
  unfold WCalls wb
  refine ACalls.runP [5001,5002] (by simp) func193 rfl (by simp [f193]) ?_;simp [f193,hk]
  intro bs
  refine AOps.effD [5001,5002] rfl (hc) (by simp [wb]) rfl (by simp) rfl (by kernel_rfl) (by simp [wb]) (by simp [wb]) (by simp [wb]) (by simp [wb]) (by simp [wb]) ?_
  simp [wb,hk]
  refine AOps.effD [5001,5002] rfl (lay0_ok b (l++p1) p2 10 (by simp <;> omega)) (by simp [wb]) rfl (by simp) rfl (by kernel_rfl) (by simp [wb]) (by simp [wb]) (by simp [wb]) (by simp [wb]) (by simp [wb]) ?_
  simp [wb]
 ·have hO:ownM e=⟨20,0⟩:=by simp [ownM,hk]
  rw [hO]
  unfold WCalls wb
  refine ACalls.runP [5001,5002] (by simp) func193 rfl (by simp [f193]) ?_;simp [f193,hk]
  intro bs
  refine AOps.effD [5001,5002] rfl (hc) (by simp [wb]) rfl (by simp) rfl (by kernel_rfl) (by simp [wb]) (by simp [wb]) (by simp [wb]) (by simp [wb]) (by simp [wb]) ?_
  simp [wb,hk]
  refine AOps.effD [5001,5002] rfl (lay0_ok b (l++p1) p2 20 (by simp <;> omega)) (by simp [wb]) rfl (by simp) rfl (by kernel_rfl) (by simp [wb]) (by simp [wb]) (by simp [wb]) (by simp [wb]) (by simp [wb]) ?_
  simp [wb]
 ·have hO:ownM e=⟨8,e.Op⟩:=by simp [ownM,hk]
  rw [hO]
  have h1:¬e.Op=1:=fun h=>hL ⟨hk,.inl h⟩
  have h2:¬e.Op=2:=fun h=>hL ⟨hk,.inr h⟩
  unfold WCalls wb
  refine ACalls.runP [5001,5002] (by simp) func193 rfl (by simp [f193]) ?_;simp [f193,hk,h1,h2]
  intro bs
  refine AOps.effD [5001,5002] rfl (hc) (by simp [wb]) rfl (by simp) rfl (by kernel_rfl) (by simp [wb]) (by simp [wb]) (by simp [wb]) (by simp [wb]) (by simp [wb]) ?_
  simp [wb,hk,h1,h2]
  refine AOps.weaken (Wk.freeze 71 (ys:=encI [e.Op]) rfl) ?_
  simp
  refine AOps.effD [5001,5002] rfl (lay1_ok b (l++p1) p2 8 e.Op (by simp <;> omega)) (by simp [wb]) rfl (by simp) rfl (by kernel_rfl) (by simp [wb]) (by simp [wb]) (by simp [wb]) (by simp [wb]) (by simp [wb]) ?_
  simp [wb]
 ·have hO:ownM e=⟨12,e.Num⟩:=by simp [ownM,hk]
  rw [hO]
  unfold WCalls wb
  refine ACalls.runP [5001,5002] (by simp) func193 rfl (by simp [f193]) ?_;simp [f193,hk]
  intro bs
  refine AOps.effD [5001,5002] rfl (hc) (by simp [wb]) rfl (by simp) rfl (by kernel_rfl) (by simp [wb]) (by simp [wb]) (by simp [wb]) (by simp [wb]) (by simp [wb]) ?_
  simp [wb,hk]
  refine AOps.weaken (Wk.freeze 78 (ys:=encI [e.Num]) rfl) ?_
  simp
  refine AOps.effD [5001,5002] rfl (lay1_ok b (l++p1) p2 12 e.Num (by simp <;> omega)) (by simp [wb]) rfl (by simp) rfl (by kernel_rfl) (by simp [wb]) (by simp [wb]) (by simp [wb]) (by simp [wb]) (by simp [wb]) ?_
  simp [wb]
 ·have hO:ownM e=⟨13,e.Num⟩:=by simp [ownM,hk]
  rw [hO]
  unfold WCalls wb
  refine ACalls.runP [5001,5002] (by simp) func193 rfl (by simp [f193]) ?_;simp [f193,hk]
  intro bs
  refine AOps.effD [5001,5002] rfl (hc) (by simp [wb]) rfl (by simp) rfl (by kernel_rfl) (by simp [wb]) (by simp [wb]) (by simp [wb]) (by simp [wb]) (by simp [wb]) ?_
  simp [wb,hk]
  refine AOps.weaken (Wk.freeze 85 (ys:=encI [e.Num]) rfl) ?_
  simp
  refine AOps.effD [5001,5002] rfl (lay1_ok b (l++p1) p2 13 e.Num (by simp <;> omega)) (by simp [wb]) rfl (by simp) rfl (by kernel_rfl) (by simp [wb]) (by simp [wb]) (by simp [wb]) (by simp [wb]) (by simp [wb]) ?_
  simp [wb]
 ·have hO:ownM e=⟨26,e.Num⟩:=by simp [ownM,hk]
  rw [hO]
  unfold WCalls wb
  refine ACalls.runP [5001,5002] (by simp) func193 rfl (by simp [f193]) ?_;simp [f193,hk]
  intro bs
  refine AOps.effD [5001,5002] rfl (hc) (by simp [wb]) rfl (by simp) rfl (by kernel_rfl) (by simp [wb]) (by simp [wb]) (by simp [wb]) (by simp [wb]) (by simp [wb]) ?_
  simp [wb,hk]
  refine AOps.weaken (Wk.freeze 92 (ys:=encI [e.Num]) rfl) ?_
  simp
  refine AOps.effD [5001,5002] rfl (lay1_ok b (l++p1) p2 26 e.Num (by simp <;> omega)) (by simp [wb]) rfl (by simp) rfl (by kernel_rfl) (by simp [wb]) (by simp [wb]) (by simp [wb]) (by simp [wb]) (by simp [wb]) ?_
  simp [wb]
 ·have hO:ownM e=⟨19,e.Op⟩:=by simp [ownM,hk]
  rw [hO]
  unfold WCalls wb
  refine ACalls.runP [5001,5002] (by simp) func193 rfl (by simp [f193]) ?_;simp [f193,hk]
  intro bs
  refine AOps.effD [5001,5002] rfl (hc) (by simp [wb]) rfl (by simp) rfl (by kernel_rfl) (by simp [wb]) (by simp [wb]) (by simp [wb]) (by simp [wb]) (by simp [wb]) ?_
  simp [wb,hk]
  refine AOps.weaken (Wk.freeze 99 (ys:=encI [e.Op]) rfl) ?_
  simp
  refine AOps.effD [5001,5002] rfl (lay1_ok b (l++p1) p2 19 e.Op (by simp <;> omega)) (by simp [wb]) rfl (by simp) rfl (by kernel_rfl) (by simp [wb]) (by simp [wb]) (by simp [wb]) (by simp [wb]) (by simp [wb]) ?_
  simp [wb]
theorem wexpr_ok(t:GTables) (locals:Int) (e:GExpr) (he:e.wf) (hb:boundM t locals e false=true):WExpr e:=by
 obtain⟨N,hN⟩:∃N,SizeOf.sizeOf e < N:=⟨_,Nat.lt_succ_self _⟩
 induction N generalizing e with
 | zero=>omega
 | succ N ih=>
   have hw:=(GExpr.wf_iff e).1 he
   have hs:∀x∈e.Args,WExpr x:=fun x hx=>ih x (hw.2.2.2.2.2 _ hx) (bound_mem hb hx) (by have:=GExpr.lt_of_mem hx;omega)
   by_cases hL:logicE e
   ·obtain⟨x,y,hA⟩:=bound_logic hb hL.1
    have hx:=hs x (by simp [hA])
    have hy:=hs y (by simp [hA])
    obtain⟨hk,ho⟩:=hL
    intro b l n hn
    have hc:=wlogic_of e x y hk ho hA hx hy b l n hn
    generalize genE e n=q at *
    obtain⟨q1,q2⟩:=q
    simp only at hc ⊢
    unfold WCalls wb
    rcases ho with ho | ho <;>
    ·refine ACalls.runP [5001,5002] (by simp) func193 rfl (by simp [f193]) ?_;simp [f193,hk,ho]
     intro bs
     refine AOps.effD [5001,5002] rfl (hc) (by simp [wb]) rfl (by simp) rfl (by kernel_rfl) (by simp [wb]) (by simp [wb]) (by simp [wb]) (by simp [wb]) (by simp [wb]) ?_
     simp [wb]
   ·exact wplain_of t locals e he hb hL hs
end Go.Ab
namespace Go.Ab
open Go.Proofs Go.Proofs.Tryz
end Go.Ab
namespace Go.Ab
open Go.Proofs Go.Proofs.Tryz
end Go.Ab
namespace Go.Ab
open Go.Proofs Go.Proofs.Tryz
theorem bound_said {t:GTables} {locals:Int} {e:GExpr} (h:boundM t locals e true=true) (h1:e.Kind≠19) (h2:e.Kind≠13):boundM t locals e false=true:=by
 rw [boundM_eq]at h ⊢
 simpa [boundK,h1,h2]using h
end Go.Ab
namespace Go.Ab
open Go.Proofs Go.Proofs.Tryz
@[simp] theorem GStmt.Kind_mk(k n:Int) (s:ByteArray) (a:List GExpr) (b c:List GStmt):(GStmt.mk k n s a b c).Kind=k:=rfl
@[simp] theorem GStmt.Num_mk(k n:Int) (s:ByteArray) (a:List GExpr) (b c:List GStmt):(GStmt.mk k n s a b c).Num=n:=rfl
@[simp] theorem GStmt.Name_mk(k n:Int) (s:ByteArray) (a:List GExpr) (b c:List GStmt):(GStmt.mk k n s a b c).Name=s:=rfl
@[simp] theorem GStmt.Args_mk(k n:Int) (s:ByteArray) (a:List GExpr) (b c:List GStmt):(GStmt.mk k n s a b c).Args=a:=rfl
@[simp] theorem GStmt.Body_mk(k n:Int) (s:ByteArray) (a:List GExpr) (b c:List GStmt):(GStmt.mk k n s a b c).Body=b:=rfl
@[simp] theorem GStmt.Else_mk(k n:Int) (s:ByteArray) (a:List GExpr) (b c:List GStmt):(GStmt.mk k n s a b c).Else=c:=rfl
theorem GStmt.lt_body(s:GStmt):SizeOf.sizeOf s.Body < SizeOf.sizeOf s:=by
 cases s;simp only [GStmt.Body_mk,GStmt.mk.sizeOf_spec];omega
theorem GStmt.lt_else(s:GStmt):SizeOf.sizeOf s.Else < SizeOf.sizeOf s:=by
 cases s;simp only [GStmt.Else_mk,GStmt.mk.sizeOf_spec];omega
mutual
def szS:GStmt→Nat
 | .mk _ _ _ a b c=>1+szEs a+szB b+szB c
def szB:List GStmt→Nat
 | []=>0
 | s::l=>szS s+szB l
end
theorem szS_eq(s:GStmt):szS s=1+szEs s.Args+szB s.Body+szB s.Else:=by cases s;rw [szS];rfl
end Go.Ab
namespace Go.Ab
open Go.Proofs Go.Proofs.Tryz
end Go.Ab
namespace Go.Ab
open Go.Proofs Go.Proofs.Tryz
set_option maxRecDepth 40000
set_option maxHeartbeats 4000000
def hasM(s:GStmt) (named:Bool) (args:Int) (body other:Bool):Bool:=
 decide ((s.Args.length:Int)=args) && (body || decide (s.Body.length=0)) && (other || decide (s.Else.length=0)) && (named || (s.Name.toList.isEmpty && decide (s.Num=0)))
def shapeM(s:GStmt):Bool×Bool:=
 if s.Kind=1 then(hasM s false s.Args.length false false && amongM s.Args.length 1 8,false)
 else if s.Kind=2∨s.Kind=3∨s.Kind=5∨s.Kind=6∨s.Kind=17∨s.Kind=23 then(hasM s true 1 false false,true)
 else if s.Kind=4 then(hasM s true 2 false false,true)
 else if s.Kind=7 then(hasM s false 2 false false,false)
 else if s.Kind=8∨s.Kind=12∨s.Kind=16∨s.Kind=20∨s.Kind=22∨s.Kind=19 then(hasM s false 1 false false,false)
 else if s.Kind=9 then(hasM s false 1 true true,false)
 else if s.Kind=10 then(hasM s false 1 true false,false)
 else if s.Kind=11 then(hasM s true 1 true false,true)
 else if s.Kind=18 then(hasM s true 0 false false,true)
 else if s.Kind=13∨s.Kind=14∨s.Kind=15∨s.Kind=21 then(hasM s false 0 false false,false)
 else(false,false)
def thereM(t:GTables) (s:GStmt) (locals:Int):Bool:=
 if s.Name.toList.isEmpty then
  if s.Kind=2∨s.Kind=3 then decide (0≤s.Num) && decide (s.Num < locals)
  else if s.Kind=11 then decide (0≤s.Num) && decide (s.Num < locals-1) && decide (1 < locals)
  else if s.Kind=23 then amongM s.Num 0 (t.Globals.length-1)
  else if s.Kind=4 then amongM s.Num 0 (t.Props.length-1)
  else if s.Kind=5∨s.Kind=6 then decide (0≤s.Num) && decide (s.Num < t.Flags)
  else if s.Kind=17∨s.Kind=18 then amongM s.Num 0 (t.Daemons.length-1)
  else true
 else false
theorem has_ok(s:GStmt) (named:Bool) (args:Int) (body other:Bool):Pure prog 176 [.agg (s.enc.map .d),oD named,iD args,oD body,oD other] (oD (hasM s named args body other)):=by
 refine rn func176 ?_;simp [f176]
 refine⟨?_,?_,?_,?_,?_⟩
 any_goals (simp+contextual;done)
 have e:s.Name.toList.isEmpty=decide (s.Name.toList=[]):=by cases s.Name.toList <;> simp
 rw [hasM,e,show decide (s.Num=0)=(s.Num==0)from rfl];simp
theorem shape_ok(s:GStmt):Pure prog 132 [.agg (s.enc.map .d)] (.tup [oD (shapeM s).1,oD (shapeM s).2]):=by
 refine rn func132 ?_;simp [-cB,f132]
 repeat' (first
  | (with_reducible refine And.intro ?_ ?_)
  | ((first | (refine condC_split (fun h=>?_) (fun h=>?_) <;> (try simp at h)) | refine pC (has_ok s _ _ _ _) ?_ | refine pC (among_ok _ _ _) ?_ | refine lC (has_ok s _ _ _ _) ?_ | refine lC (among_ok _ _ _) ?_ | refine pG (has_ok s _ _ _ _) ?_ | refine pG (among_ok _ _ _) ?_) <;> (try simp [-cB, *]))
  | (with_reducible intro _))
 all_goals first | (simp [shapeM, *];done) | skip
theorem there_min(t:GTables) (s:GStmt) (hk:s.Kind=11) (hn:s.Name.toList=[]):Pure prog 133 [.agg (t.enc.map .d),.agg (s.enc.map .d),iD (-9223372036854775808)] (oD false):=by
 refine Pure.runA func133 rfl (by simp [f133]) ?_
 refine AWP.seqK ?_
 simp [f133]
 intro bs
 refine AWP.seqK ?_
 simp [hn]
 refine AWP.seq (AWP.seqK ?_)
 simp [hk]
 refine AWP.block (AWP.seqK ?_)
 simp
 refine AWP.cond rfl (fun h=>by simp at h) (fun _=>?_)
 refine AWP.seqK ?_
 simp
 refine AWP.cond rfl (fun _=>?_) (fun h=>by simp at h)
 refine AWP.seq (AWP.regionS (AOps.stop 7 [] (by rfl) ?_))
 simp
 refine AOps.subG (a:= -9223372036854775808) (b:=1) rfl (by rfl) (by simp) (by simp) (by simp) ?_
 refine runC_sound _ _ [] (by rfl) ?_
 simp
 refine AWP.ret ?_
 simp
theorem there_ok(t:GTables) (ht:t.wf) (s:GStmt) (locals:Int) (hl:inR .i64 locals):Pure prog 133 [.agg (t.enc.map .d),.agg (s.enc.map .d),iD locals] (oD (thereM t s locals)):=by
 have b1:=GTables.wl_Globals ht
 have b2:=GTables.wl_Props ht
 have b3:=GTables.wl_Daemons ht
 by_cases hm:(s.Kind=11∧s.Name.toList=[])∧locals= -9223372036854775808
 ·obtain⟨⟨hk,hn⟩,rfl⟩:=hm
  exact(there_min t s hk hn).eq rfl (by simp [thereM,hk,hn])
 have hlo:s.Kind=11→s.Name.toList=[]→inR .i64 (locals-1):=fun h1 h2=>by
  rw [inR_i64]at hl ⊢
  have:¬locals= -9223372036854775808:=fun h=>hm ⟨⟨h1,h2⟩,h⟩
  omega
 clear hm
 refine rn func133 ?_;simp [-cB,f133]
 repeat' (first
  | (with_reducible refine And.intro ?_ ?_)
  | ((first | (refine condC_split (fun h=>?_) (fun h=>?_) <;> (try simp at h)) | refine pC (among_ok _ _ _) ?_ | refine lC (among_ok _ _ _) ?_ | refine pG (among_ok _ _ _) ?_) <;> (try simp [-cB, *]))
  | (with_reducible intro _))
 all_goals first | assumption | (exact hlo (by assumption) (by assumption)) | (rw [inR_i64];omega) | (simp [thereM, *];done) | skip
end Go.Ab
namespace Go.Ab
open Go.Proofs Go.Proofs.Tryz
set_option maxRecDepth 40000
set_option maxHeartbeats 4000000
def greaterM(a b:Int):Int:=if b < a then a else b
theorem greater_ok(a b:Int):Pure prog 174 [iD a,iD b] (iD (greaterM a b)):=by
 refine rn func174 ?_;simp [-cB,f174]
 repeat' (first
  | (with_reducible refine And.intro ?_ ?_)
  | (refine condC_split (fun h=>?_) (fun h=>?_) <;> (try simp at h) <;> (try simp [-cB, *]))
  | (with_reducible intro _))
 all_goals simp [greaterM, *] <;> omega
mutual
def deepS:GStmt→Int→Int→Int
 | .mk _ _ _ a b c,m,n=>greaterM (deepsM a m n) (greaterM (if b.isEmpty then 0 else(if 1 < m then deepSs b (m-1) 0 else 0)+1) (if c.isEmpty then 0 else(if 1 < m then deepSs c (m-1) 0 else 0)+1))
def deepSs:List GStmt→Int→Int→Int
 | [],_,n=>n
 | s::l,m,n=>deepSs l m (deepS s m n)
end
def deepB(l:List GStmt) (m:Int):Int:=if l.isEmpty then 0 else(if 1 < m then deepSs l (m-1) 0 else 0)+1
theorem deepS_eq(s:GStmt) (m n:Int):deepS s m n=greaterM (deepsM s.Args m n) (greaterM (deepB s.Body m) (deepB s.Else m)):=by cases s;rw [deepS];rfl
theorem deepSs_snoc(l:List GStmt) (s:GStmt) (m n:Int):deepSs (l++ [s]) m n=deepS s m (deepSs l m n):=by
 induction l generalizing n with
 | nil=>simp only [List.nil_append,deepSs]
 | cons x l ih=>simp only [List.cons_append,deepSs];exact ih _
theorem deepSs_bd:∀(N:Nat) (l:List GStmt),SizeOf.sizeOf l < N→∀m n:Int,1≤m→0≤n→n≤m→0≤deepSs l m n∧deepSs l m n≤m:=by
 intro N
 induction N with
 | zero=>intro l h;omega
 | succ N ih=>
   intro l h m n h1 h2 h3
   cases l with
   | nil=>rw [deepSs];omega
   | cons s l=>
     rw [deepSs]
     have hs:SizeOf.sizeOf s < N:=by simp only [List.cons.sizeOf_spec]at h;omega
     have hb:=GStmt.lt_body s
     have he:=GStmt.lt_else s
     have hB:∀l':List GStmt,SizeOf.sizeOf l' < N→0≤deepB l' m∧deepB l' m≤m:=fun l' hl=>by
      unfold deepB
      split
      ·omega
      ·split
       ·have:=ih l' hl (m-1) 0 (by omega) (by omega) (by omega);omega
       ·omega
     have b1:=hB s.Body (by omega)
     have b2:=hB s.Else (by omega)
     have b3:=deepsM_le s.Args m n h1 h2 h3
     refine ih l (by simp only [List.cons.sizeOf_spec]at h;omega) m _ h1 ?_ ?_
     ·rw [deepS_eq];unfold greaterM;repeat' split
      all_goals omega
     ·rw [deepS_eq];unfold greaterM;repeat' split
      all_goals omega
theorem deepsM_max(l:List GExpr) (x:GExpr) (m n:Int):deepsM (l++ [x]) m n=greaterM (deepsM l m n) (deepM x m):=by
 rw [deepsM_snoc];unfold greaterM;split <;> split <;> omega
theorem deepB_ok(l:List GStmt) (hl:∀s∈l,s.wf) (hlen:l.length *104≤140737488351232) (m:Int) (hm:1≤m∧m≤1000000000000):Pure prog 131 [.d (.sl (l.map GStmt.enc)),iD m] (iD (deepB l m)):=by
 obtain⟨n,hn⟩:∃n,SizeOf.sizeOf l < n:=⟨_,Nat.lt_succ_self _⟩
 induction n generalizing l m with
 | zero=>omega
 | succ n ih=>
   have hsub:∀s∈l,(∀m,1≤m∧m≤1000000000000→Pure prog 131 [.d (.sl (s.Body.map GStmt.enc)),iD m] (iD (deepB s.Body m)))∧
     (∀m,1≤m∧m≤1000000000000→Pure prog 131 [.d (.sl (s.Else.map GStmt.enc)),iD m] (iD (deepB s.Else m))):=by
    intro s hs
    have hw:=hl s hs
    have h1:=List.sizeOf_lt_of_mem hs
    have h2:=GStmt.lt_body s
    have h3:=GStmt.lt_else s
    exact⟨fun m hm=>ih s.Body (GStmt.wf_Body hw) (GStmt.wl_Body hw) m hm (by omega),fun m hm=>ih s.Else (GStmt.wf_Else hw) (GStmt.wl_Else hw) m hm (by omega)⟩
   by_cases hE:l=[]
   ·subst hE
    refine rn func131 ?_;simp [f131]
    rfl
   have hD:deepB l m=(if 1 < m then deepSs l (m-1) 0 else 0)+1:=by unfold deepB;simp [hE]
   rw [hD]
   have hG:=fun a b L=>(greater_ok a b).ok L
   have hBd:=fun pre=>deepSs_bd _ pre (Nat.lt_succ_self _) (m-1) 0
   refine rn func131 ?_;simp [f131]
   simp [hE]
   refine⟨fun h1=>?_,fun h1=>?_⟩
   ·refine AWP.loopL [1,5,15,16,17] l (fun pre=> [(5,iD (deepSs pre (m-1) 0)),(17,iD pre.length)]) (fun _=> []) (fun _=>True) (by rfl) (by omega) (by simp [deepSs]) ?_ ?_
    ·rintro pre s post hsp-hlt hge a4
     have hS:=hsub s (by rw [hsp];simp)
     have hws:=hl s (by rw [hsp];simp)
     have hwa:=GStmt.wl_Args hws
     have hsn:=deepSs_snoc pre s (m-1) 0
     rw [deepS_eq]at hsn
     have hb:=hBd pre (by omega) (by omega) (by omega)
     generalize deepSs pre (m-1) 0=v at *
     simp [hlt,hge]
     intro bs
     refine AWP.loopL [1,5,7,15,16,17,22,23,24] s.Args (fun pre=> [(5,iD (deepsM pre (m-1) v)),(24,iD pre.length)]) (fun _=> []) (fun _=>True) (by rfl) (by omega) (by simp [deepsM]) ?_ ?_
     ·rintro pre' e post' hsp2-hlt2 hge2 b4
      have hsn2:=deepsM_max pre' e (m-1) v
      have a1:inR .i64 (m-1):=iW
      have hwe:=GStmt.wf_Args hws e (by rw [hsp2];simp)
      simp [hlt2,hge2,a1]
      intro bs2
      refine AOps.pureC rfl (deep_ok e hwe (m-1) ⟨by omega,by omega⟩) (by simp) rfl (by simp) rfl ?_
      simp
      refine pC (greater_ok _ _) ?_
      simp [b4,hsn2]
     ·intro _
      have c1:=(hS.1 (m-1) ⟨by omega,by omega⟩).ok
      have c2:=(hS.2 (m-1) ⟨by omega,by omega⟩).ok
      have a1:inR .i64 (m-1):=iW
      simp
      refine AWP.regionD [iD (deepB s.Body (m-1)),iD (deepB s.Else (m-1)),iD (greaterM (deepB s.Body (m-1)) (deepB s.Else (m-1))),iD (greaterM (deepsM s.Args (m-1) v) (greaterM (deepB s.Body (m-1)) (deepB s.Else (m-1))))] tmix (by kernel_rfl) (by rfl) ?_
      simp [c1,c2,a1,a4,hG,hsn]
    ·intro _
     have hb:=hBd l (by omega) (by omega) (by omega)
     simp [h1]
     rw [inR_i64];omega
   ·rw [if_neg (by omega)];exact⟨iW,rfl⟩
theorem depthB_ok(l:List GStmt) (hl:∀s∈l,s.wf) (hlen:l.length *104≤140737488351232):Pure prog 83 [.d (.sl (l.map GStmt.enc))] (iD (deepB l 65)):=by
 refine rn func83 ?_;simp [f83]
 refine AOps.pureC rfl (deepB_ok l hl hlen 65 (by omega)) (by simp) rfl (by simp) rfl ?_
 simp
end Go.Ab
namespace Go.Ab
open Go.Proofs Go.Proofs.Tryz
set_option maxRecDepth 40000
set_option maxHeartbeats 4000000
def callM(s:GStmt):Bool:=decide ((s.Args[0]?.getD GExpr.zero).Kind=18)
mutual
def boundS(t:GTables) (locals:Int):GStmt→Bool
 | .mk k n nm a b c=>(shapeM (.mk k n nm a b c)).1 && thereM t (.mk k n nm a b c) locals && (decide (k≠19) || callM (.mk k n nm a b c)) && (a.all fun x=>boundM t locals x (decide (k=1))) && (boundSs t locals b && decide (b.length≤256)) && (boundSs t locals c && decide (c.length≤256))
def boundSs(t:GTables) (locals:Int):List GStmt→Bool
 | []=>true
 | s::l=>boundS t locals s && boundSs t locals l
end
def boundB(t:GTables) (locals:Int) (l:List GStmt):Bool:=boundSs t locals l && decide (l.length≤256)
theorem boundS_eq(t:GTables) (locals:Int) (s:GStmt):boundS t locals s=((shapeM s).1 && thereM t s locals && (decide (s.Kind≠19) || callM s) && (s.Args.all fun x=>boundM t locals x (decide (s.Kind=1))) && boundB t locals s.Body && boundB t locals s.Else):=by cases s;rw [boundS];rfl
theorem boundSs_all(t:GTables) (locals:Int) (l:List GStmt):boundSs t locals l=l.all fun s=>boundS t locals s:=by
 induction l with
 | nil=>rw [boundSs];rfl
 | cons s l ih=>rw [boundSs,ih];rfl
theorem shape_call {s:GStmt} (h:(shapeM s).1=true) (hk:s.Kind=19):∃x,s.Args=[x]:=by
 simp [shapeM,hk,hasM]at h
 have hl:s.Args.length=1:=by omega
 generalize s.Args=l at hl
 match l,hl with
 | [x],_=>exact⟨x,rfl⟩
theorem boundB_ok(t:GTables) (ht:t.wf) (locals:Int) (hlo:inR .i64 locals) (l:List GStmt) (hl:∀s∈l,s.wf) (hlen:l.length *104≤140737488351232):Pure prog 84 [.agg (t.enc.map .d),.d (.sl (l.map GStmt.enc)),iD locals] (oD (boundB t locals l)):=by
 obtain⟨n,hn⟩:∃n,SizeOf.sizeOf l < n:=⟨_,Nat.lt_succ_self _⟩
 induction n generalizing l with
 | zero=>omega
 | succ n ih=>
   have hsub:∀s∈l,Pure prog 84 [.agg (t.enc.map .d),.d (.sl (s.Body.map GStmt.enc)),iD locals] (oD (boundB t locals s.Body))∧
     Pure prog 84 [.agg (t.enc.map .d),.d (.sl (s.Else.map GStmt.enc)),iD locals] (oD (boundB t locals s.Else)):=by
    intro s hs
    have hw:=hl s hs
    have h1:=List.sizeOf_lt_of_mem hs
    have h2:=GStmt.lt_body s
    have h3:=GStmt.lt_else s
    exact⟨ih s.Body (GStmt.wf_Body hw) (GStmt.wl_Body hw) (by omega),ih s.Else (GStmt.wf_Else hw) (GStmt.wl_Else hw) (by omega)⟩
   refine rn func84 ?_;simp [f84]
   intro bs0
   refine AWP.loopL [1,2,3,13,14,15] l (fun pre=> [(15,iD pre.length)]) (fun _=> []) (fun pre=>boundSs t locals pre=true) (by rfl) (by omega) (by simp [boundSs]) ?_ ?_
   ·rintro pre s post hsp hpre hlt hge a4
    have hno:boundS t locals s=false→boundB t locals l=false:=fun h=>by
     unfold boundB;rw [boundSs_all,hsp];simp [h]
    have hyes:boundS t locals s=true→boundSs t locals (pre++ [s])=true:=fun h=>by
     rw [boundSs_all]at hpre ⊢;rw [List.all_append,hpre];simp [h]
    have hS:=hsub s (by rw [hsp];simp)
    have hws:=hl s (by rw [hsp];simp)
    have hwa:=GStmt.wl_Args hws
    rw [boundS_eq]at hno hyes
    have hcall:(shapeM s).1=true→s.Kind=19→0 < s.Args.length:=fun h1 h2=>by obtain⟨x,hx⟩:=shape_call h1 h2;simp [hx]
    have hsp':=hsp.symm
    clear ih hsub hlen hn hsp
    simp [-cB,hlt,hge]
    intro bs
    refine pC (shape_ok s) ?_
    simp [-cB]
    repeat' (first
     | (with_reducible refine And.intro ?_ ?_)
     | ((first | (refine condC_split (fun h=>?_) (fun h=>?_) <;> (try simp at h)) | refine pC (there_ok t ht s locals hlo) ?_ | refine lC (there_ok t ht s locals hlo) ?_ | refine pG (there_ok t ht s locals hlo) ?_) <;> (try simp [-cB, *]))
     | (with_reducible intro _))
    all_goals first | assumption | (exact hcall (by assumption) (by assumption)) | (apply hno;rcases h with(h | h) | ⟨h1,h2⟩ <;> simp [callM, *];done) | skip
    have hS1:=hS.1.ok
    have hS2:=hS.2.ok
    refine AWP.loopL [1,2,3,8,13,14,15,47,48,49] s.Args (fun pre=> [(49,iD pre.length)]) (fun _=> []) (fun pre=>(pre.all fun x=>boundM t locals x (decide (s.Kind=1)))=true) (by rfl) (by omega) (by simp) ?_ ?_
    ·rintro pre' e post' hsp2 hpre2 hlt2 hge2 b4
     have hwe:=GStmt.wf_Args hws e (by rw [hsp2];simp)
     have hnoE:boundM t locals e (decide (s.Kind=1))=false→boundB t locals l=false:=fun h=>by
      apply hno;rw [hsp2];simp [h]
     clear hsp2 hno hyes hsp' h
     simp [-cB,hlt2,hge2]
     intro bs2
     refine pC (boundX_ok t ht locals e hwe _) ?_
     simp [-cB]
     repeat' (first
      | (with_reducible refine And.intro ?_ ?_)
      | ((first | (refine condC_split (fun h=>?_) (fun h=>?_) <;> (try simp at h)) | refine pC (boundX_ok t ht locals e hwe _) ?_ | refine lC (boundX_ok t ht locals e hwe _) ?_ | refine pG (boundX_ok t ht locals e hwe _) ?_) <;> (try simp [-cB, *]))
      | (with_reducible intro _))
     all_goals first
      | exact hnoE h
      | (rename_i y hy
         rcases hy with hy | rfl
         ·exact List.all_eq_true.1 hpre2 y hy
         ·exact h)
    ·intro hall
     clear hsp'
     simp [-cB]
     repeat' (first
      | (with_reducible refine And.intro ?_ ?_)
      | ((first | (refine condC_split (fun h=>?_) (fun h=>?_) <;> (try simp at h)) | refine pC hS.1 ?_ | refine pC hS.2 ?_ | refine lC hS.1 ?_ | refine lC hS.2 ?_ | refine pG hS.1 ?_ | refine pG hS.2 ?_) <;> (try simp [-cB, *]))
      | (with_reducible intro _))
     ·apply hno;rcases h with h | h <;> simp [h]
     ·rename_i h'
      apply hyes
      obtain⟨⟨h1,h2⟩,h3⟩:=h'
      have h4:(decide (s.Kind≠19) || callM s)=true:=by
       by_cases hk:s.Kind=19
       ·simp [callM,h3 hk]
       ·simp [hk]
      rw [h1,h2,h4,hall,h.1,h.2]
      rfl
   ·intro hpre
    simp [boundB,hpre]
    omega
theorem refBoundB_ok(t:GTables) (ht:t.wf) (locals:Int) (hlo:inR .i64 locals) (l:List GStmt) (hl:∀s∈l,s.wf) (hlen:l.length *104≤140737488351232):Pure prog 45 [.agg (t.enc.map .d),.d (.sl (l.map GStmt.enc)),iD locals] (oD (decide (deepB l 65≤32) && boundB t locals l)):=by
 refine rn func45 ?_;simp [-cB,f45]
 intro bs
 repeat' (first
  | (with_reducible refine And.intro ?_ ?_)
  | ((first | (refine condC_split (fun h=>?_) (fun h=>?_) <;> (try simp at h)) | refine pC (depthB_ok l hl hlen) ?_ | refine pC (boundB_ok t ht locals hlo l hl hlen) ?_ | refine lC (depthB_ok l hl hlen) ?_ | refine lC (boundB_ok t ht locals hlo l hl hlen) ?_ | refine pG (depthB_ok l hl hlen) ?_ | refine pG (boundB_ok t ht locals hlo l hl hlen) ?_) <;> (try simp [-cB, *]))
  | (with_reducible intro _))
end Go.Ab
namespace Go.Ab
open Go.Proofs Go.Proofs.Tryz
set_option maxRecDepth 4000
structure HasE where
 op:Bool
 num:Bool
 name:Bool
 least:Int
 most:Int
def hasE(k:Int):Option HasE:=
 if k=1∨k=14∨k=15∨k=19 then some ⟨false,true,false,0,0⟩
 else if k=2∨k=3 then some ⟨false,false,true,0,0⟩
 else if k=4∨k=5∨k=11∨k=13 then some ⟨false,false,false,1,1⟩
 else if k=6 then some ⟨true,false,false,2,2⟩
 else if k=7∨k=8 then some ⟨false,false,true,1,1⟩
 else if k=16∨k=17 then some ⟨false,true,false,1,1⟩
 else if k=9 then some ⟨false,false,true,0,8⟩
 else if k=18 then some ⟨false,true,false,0,8⟩
 else if k=10 then some ⟨true,false,false,1,1⟩
 else if k=12 then some ⟨true,false,false,0,0⟩
 else none
def opE(e:GExpr):Bool:=if e.Kind=6 then amongM e.Op 1 14 else if e.Kind=10 then amongM e.Op 1 3 else if e.Kind=12 then amongM e.Op 1 6 else true
def shapedE(e:GExpr):Bool:=match hasE e.Kind with
 | some h=>(h.op || decide (e.Op=0)) && (h.num || decide (e.Num=0)) && (h.name || e.Name.toList.isEmpty) && (decide (h.least≤e.Args.length) && decide ((e.Args.length:Int)≤h.most)) && opE e
 | none=>false
def belowE(n most:Int):Bool:=decide (0≤n) && decide (n < most)
def saidE(k:Int):Bool:=decide (k=2) || decide (k=13) || decide (k=19)
def okE(t:GTables) (e:GExpr) (locals:Int):Bool:=
 if e.Kind=2∨e.Kind=3∨e.Kind=7∨e.Kind=8∨e.Kind=9 then false
 else if e.Kind=1 then isM e.Num
 else if e.Kind=14 then belowE e.Num t.Globals.length
 else if e.Kind=15 then belowE e.Num locals
 else if e.Kind=16 then belowE e.Num t.Flags
 else if e.Kind=17 then belowE e.Num t.Props.length
 else if e.Kind=19 then belowE e.Num t.Texts.length
 else if e.Kind=18 then belowE e.Num t.Funcs.length && (belowE (t.Funcs[e.Num.toNat]?.getD 0) t.Params.length && decide (t.Params[(t.Funcs[e.Num.toNat]?.getD 0).toNat]?.getD 0=e.Args.length))
 else true
theorem below_among(n m:Int):belowE n m=amongM n 0 (m-1):=by
 unfold belowE amongM;congr 1;simp;omega
theorem head_one(t:GTables) (hP:∀p∈t.Params,p≤8) (e:GExpr) (locals:Int) (said:Bool):boundK t e locals said=((said ||!saidE e.Kind) && (shapedE e && okE t e locals)):=by
 obtain⟨k,o,n,s,l⟩:=e
 simp only [boundK,shapedE,okE,hasE,saidE,opE,bareM]
 by_cases h1:k=1
 ·subst h1;simp [Bool.and_assoc,Bool.and_comm,Bool.and_left_comm]
 by_cases h14:k=14
 ·subst h14;simp [below_among,Bool.and_assoc,Bool.and_comm,Bool.and_left_comm]
 by_cases h15:k=15
 ·subst h15;simp [belowE,Bool.and_assoc,Bool.and_comm,Bool.and_left_comm]
 by_cases h19:k=19
 ·subst h19;simp [below_among,Bool.and_assoc,Bool.and_comm,Bool.and_left_comm]
 by_cases h4:k=4∨k=5∨k=11
 ·rcases h4 with rfl | rfl | rfl <;> simp <;> (rw [Bool.eq_iff_iff];simp only [Bool.and_eq_true,decide_eq_true_eq];grind)
 by_cases h13:k=13
 ·subst h13;simp <;> (rw [Bool.eq_iff_iff];simp only [Bool.and_eq_true,decide_eq_true_eq];grind)
 by_cases h6:k=6
 ·subst h6;simp <;> (rw [Bool.eq_iff_iff];simp only [Bool.and_eq_true,decide_eq_true_eq];grind)
 by_cases h16:k=16
 ·subst h16;simp [belowE] <;> (rw [Bool.eq_iff_iff];simp only [Bool.and_eq_true,decide_eq_true_eq];grind)
 by_cases h17:k=17
 ·subst h17;simp [below_among] <;> (rw [Bool.eq_iff_iff];simp only [Bool.and_eq_true,decide_eq_true_eq];grind)
 by_cases h18:k=18
 ·subst h18
  have hp8:∀i:Nat,t.Params[i]?.getD 0≤8:=by
   intro i
   cases h:t.Params[i]? with
   | none=>simp
   | some p=>exact hP p (List.mem_of_getElem? h)
  have h8:=hp8 (t.Funcs[n.toNat]?.getD 0).toNat
  clear hp8 hP
  rw [Bool.eq_iff_iff]
  simp [paramsM,below_among]
  by_cases hx:amongM n 0 (↑t.Funcs.length-1)=true <;> by_cases hy:amongM (t.Funcs[n.toNat]?.getD 0) 0 (↑t.Params.length-1)=true <;> simp [hx,hy] <;> first | (intros;omega) | grind
 by_cases h10:k=10
 ·subst h10;simp <;> (rw [Bool.eq_iff_iff];simp only [Bool.and_eq_true,decide_eq_true_eq];grind)
 by_cases h12:k=12
 ·subst h12;simp [Bool.and_assoc,Bool.and_comm,Bool.and_left_comm]
 simp only [not_or]at h4
 simp [h1,h14,h15,h19,h4,h13,h6,h16,h17,h18,h10,h12]
 intro h
 by_cases h2:k=2
 ·simp [h2]
 by_cases h3:k=3
 ·simp [h3]
 by_cases h7:k=7
 ·simp [h7]
 by_cases h8:k=8
 ·simp [h8]
 by_cases h9:k=9
 ·simp [h9]
 simp [h2,h3,h7,h8,h9]
end Go.Ab
namespace Go.Ab
open Go.Proofs Go.Proofs.Tryz
set_option maxRecDepth 4000
mutual
def bookE(t:GTables) (locals:Int):GExpr→Bool
 | .mk k o n s l=>shapedE (.mk k o n s l) && okE t (.mk k o n s l) locals && booksE t locals l
def booksE(t:GTables) (locals:Int):List GExpr→Bool
 | []=>true
 | x::l=>(!saidE x.Kind && bookE t locals x) && booksE t locals l
end
theorem bookE_eq(t:GTables) (locals:Int) (e:GExpr):bookE t locals e=(shapedE e && okE t e locals && booksE t locals e.Args):=by cases e;rw [bookE];rfl
theorem booksE_all(t:GTables) (locals:Int) (l:List GExpr):booksE t locals l=l.all fun x=>!saidE x.Kind && bookE t locals x:=by
 induction l with
 | nil=>rw [booksE];rfl
 | cons x l ih=>rw [booksE,ih];rfl
theorem all_same {α:Type} {p q:α→Bool} {l:List α} (h:∀x∈l,p x=q x):l.all p=l.all q:=by
 rw [Bool.eq_iff_iff,List.all_eq_true,List.all_eq_true]
 exact⟨fun hp x hx=>by rw [←h x hx];exact hp x hx,fun hp x hx=>by rw [h x hx];exact hp x hx⟩
theorem book_same(t:GTables) (hP:∀p∈t.Params,p≤8) (locals:Int):∀(N:Nat) (e:GExpr),SizeOf.sizeOf e < N→∀said,boundM t locals e said=((said ||!saidE e.Kind) && bookE t locals e)
 | 0,e,h,_=>by omega
 | N+1,e,h,said=>by
   rw [boundM_eq,head_one t hP,bookE_eq,boundsM_all,booksE_all]
   rw [all_same (l:=e.Args) (q:=fun x=>!saidE x.Kind && bookE t locals x) (fun x hx=>by
    rw [book_same t hP locals N x (by have:=GExpr.lt_of_mem hx;omega) false];simp)]
   simp only [Bool.and_assoc]
structure HasS where
 named:Bool
 body:Bool
 other:Bool
 least:Int
 most:Int
def hasS(k:Int):Option HasS:=
 if k=1 then some ⟨false,false,false,1,8⟩
 else if k=2∨k=3∨k=5∨k=6∨k=17∨k=23 then some ⟨true,false,false,1,1⟩
 else if k=4 then some ⟨true,false,false,2,2⟩
 else if k=7 then some ⟨false,false,false,2,2⟩
 else if k=8∨k=12∨k=16∨k=20∨k=22∨k=19 then some ⟨false,false,false,1,1⟩
 else if k=9 then some ⟨false,true,true,1,1⟩
 else if k=10 then some ⟨false,true,false,1,1⟩
 else if k=11 then some ⟨true,true,false,1,1⟩
 else if k=18 then some ⟨true,false,false,0,0⟩
 else if k=13∨k=14∨k=15∨k=21 then some ⟨false,false,false,0,0⟩
 else none
def numberedS(t:GTables) (s:GStmt) (locals:Int):Bool:=
 if s.Kind=2∨s.Kind=3 then belowE s.Num locals
 else if s.Kind=11 then belowE s.Num locals && belowE (s.Num+1) locals
 else if s.Kind=23 then belowE s.Num t.Globals.length
 else if s.Kind=4 then belowE s.Num t.Props.length
 else if s.Kind=5∨s.Kind=6 then belowE s.Num t.Flags
 else belowE s.Num t.Daemons.length
def nameS(t:GTables) (s:GStmt) (locals:Int) (named:Bool):Bool:=if named then s.Name.toList.isEmpty && numberedS t s locals else s.Name.toList.isEmpty && decide (s.Num=0)
def topE(t:GTables) (s:GStmt) (locals:Int):Bool:=match hasS s.Kind with
 | some h=>decide (h.least≤s.Args.length) && decide ((s.Args.length:Int)≤h.most) && (h.body || decide (s.Body.length=0)) && (h.other || decide (s.Else.length=0)) && nameS t s locals h.named && (decide (s.Kind≠19) || callM s)
 | none=>false
set_option maxHeartbeats 4000000 in
theorem topE_eq(t:GTables) (s:GStmt) (locals:Int):((shapeM s).1 && thereM t s locals && (decide (s.Kind≠19) || callM s))=topE t s locals:=by
 obtain⟨k,n,nm,a,b,c⟩:=s
 simp only [shapeM,thereM,topE,hasS,nameS,numberedS,hasM,amongM,belowE]
 by_cases h:k=1∨k=2∨k=3∨k=4∨k=5∨k=6∨k=7∨k=8∨k=9∨k=10∨k=11∨k=12∨k=13∨k=14∨k=15∨k=16∨k=17∨k=18∨k=19∨k=20∨k=21∨k=22∨k=23
 ·rcases h with rfl | rfl | rfl | rfl | rfl | rfl | rfl | rfl | rfl | rfl | rfl | rfl | rfl | rfl | rfl | rfl | rfl | rfl | rfl | rfl | rfl | rfl | rfl
  all_goals
   simp
   first | done | (rw [Bool.eq_iff_iff];simp only [Bool.and_eq_true,Bool.or_eq_true,decide_eq_true_eq];grind)
 ·simp only [not_or]at h
  simp [h]
end Go.Ab

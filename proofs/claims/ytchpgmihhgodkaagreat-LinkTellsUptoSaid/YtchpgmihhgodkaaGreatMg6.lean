/-
 The texts Vpeep3 Vpeep4 Vpeep5 Wpp7 Vasm Vasm2 Vdec Vdec2 Wop Lasmp Wasm1 Wasm2 Lo Vasm3 Wlay Wasm3 Sl Ed Wasm4 Rc Hd Wbeg Vasm4 Vasm5,one behind the other.
-/
import Derived.Test.YtchpgmihhgodkaaGreatMg5
import Derived.Scope
set_option linter.unusedSimpArgs false
set_option linter.unusedVariables false
namespace Go.Ab
open Go.Proofs Go.Proofs.Tryz
def knownL(l:List GIns) (k:Nat):Option (List GIns):=(knownM (l.drop k)).map fun y=>swapM l k y.1 y.2
set_option maxHeartbeats 2000000 in
theorem known29_ok(l:List GIns) (hl:l.length≤100000000000) (k:Nat) (hk:k≤l.length):Pure prog 196 [insD l,iD k] (moreT l (knownL l k)):=by
 have hat:=fun n=>at29_ok l (by omega) n
 have e0:=opI_0 l k
 have e1:=opI_1 l k
 have e2:=opI_2 l k
 have l0:=opA_lt (l:=l) (k:=k) (j:=0)
 have l1:=opA_lt (l:=l) (k:=k) (j:=1)
 have l2:=opA_lt (l:=l) (k:=k) (j:=2)
 have b0:∀h:k < l.length,(l[k]'h).Arg=argA (l.drop k) 0:=fun h=>by have:=argA_get l k 0;rw [←this];simp [h]
 have b1:∀h:k+1 < l.length,(l[k+1]'h).Arg=argA (l.drop k) 1:=fun h=>by rw [←argA_get l k 1];simp [h]
 obtain⟨R,hR⟩:∃R,moreT l (knownL l k)=R:=⟨_,rfl⟩
 have hRon:V.on [] R=true:=by rw [←hR];rfl
 rw [hR]
 simp only [Nat.add_zero]at l0
 have c1:((k:Int)+1).toNat=k+1:=by omega
 have i1:inR .i64 ((k:Int)+1):=iW
 have i2:inR .i64 ((k:Int)+2):=iW
 have hs2:∀x:List GIns,x.length≤1000→k+2≤l.length→Pure prog 200 [insD l,iD k,iD 2,insD x] (insD (swapM l k 2 x)):=fun x hx h=>swap29_ok l (by omega) k 2 h x (by omega)
 have hs0:k+2≤l.length→Pure prog 200 [insD l,iD k,iD 2,.d (.v (.slice none 0 0))] (insD (swapM l k 2 [])):=fun h=>(hs2 [] (by simp) h).deep 0 (by rfl) (by rfl)
 refine Pure.run func196 rfl (by simp [f196,hRon]) ?_;simp [-cB,f196,hRon]
 repeat' (first
  | (with_reducible refine And.intro ?_ ?_)
  | ((first | (refine condC_split (fun h=>?_) (fun h=>?_) <;> (try simp at h)) | refine pC (hat _) ?_ | refine pC (refWrap_ok _) ?_ | refine pC (hs0 ?_) ?_ | refine lC (hat _) ?_ | refine lC (refWrap_ok _) ?_ | refine lC (hs0 ?_) ?_ | refine pG (hat _) ?_ | refine pG (refWrap_ok _) ?_ | refine pGh (fun h=>hs0 ?_) ?_) <;> (try simp [-cB, *]))
  | (with_reducible intro _))
 all_goals first
  | omega
  | (rw [←hR];simp [moreT,knownL,knownM, *];done)
  | (rw [←hR];simp_all [moreT,knownL,knownM];done)
  | (have hx:knownM (l.drop k)=none:=by(unfold knownM;grind)
     rw [←hR];simp [moreT,knownL,hx];done)
  | skip
 refine AOps.weaken (Wk.freeze 54 (ys:=[(⟨24,argA (l.drop k) 1⟩:GIns)].map GIns.enc) rfl) ?_
 have hk2:k+2≤l.length:=by
  have:=l1 (by omega)
  omega
 simp [-cB]
 refine AOps.pureC rfl (hs2 [⟨24,argA (l.drop k) 1⟩] (by simp) hk2) rfl rfl (by simp) rfl ?_
 simp [-cB]
 rw [←hR];simp [moreT,knownL,knownM, *]
end Go.Ab
namespace Go.Ab
open Go.Proofs Go.Proofs.Tryz
def goesR(l r:List GIns):Option (Nat×Nat×List GIns):=
 if endsOp (opA r 0)∧0 < deadN r.tail then some (1,deadN r.tail,[])
 else if opA r 0=24∨opA r 0=25 then
  (if opA r 0=24∧(r.tail.takeWhile isLab).any (fun i=>decide (i.Arg=argA r 0))=true then some (0,1,[])
   else(farM l r).map fun x=>(0,1,x))
 else none
def goesL(l:List GIns) (k:Nat):Option (List GIns):=(goesR l (l.drop k)).map fun y=>swapM l (k+y.1) y.2.1 y.2.2
theorem after_labI {l} {n}:(labI l n= -1∧after l n=none)∨(∃p:Nat,p < l.length∧labI l n=p∧after l n=some (l.drop (p+1))∧isLab (l[p]?.getD GIns.zero)=true):=by
 induction l with
 | nil=>exact Or.inl ⟨rfl,rfl⟩
 | cons i l ih=>
   unfold labI after
   rw [List.findIdx?_cons]
   by_cases h:i.Op=38∧i.Arg=n
   ·rw [if_pos (by simp [h]),if_pos h]
    exact Or.inr ⟨0,by simp,rfl,rfl,by grind [isLab]⟩
   ·grind [labI,decide]
theorem dropWhile_drop {α:Type} p (l:List α):l.dropWhile p=l.drop (l.takeWhile p).length:=by
 grind [List.takeWhile_append_dropWhile]
theorem behind_label {l:List GIns} {p} (h:p < l.length) (hl:isLab (l[p]?.getD GIns.zero)=true):(l.drop (p+1)).dropWhile isLab=l.drop (p+((l.drop p).takeWhile isLab).length):=by
 rw [dropWhile_drop,List.drop_drop]
 have e:=List.drop_eq_getElem_cons h
 rw [e,List.takeWhile_cons,if_pos (by grind)]
 grind
theorem dropWhile_head {α:Type} {p}:∀{l:List α} {x} {r},l.dropWhile p=x::r→p x=false
 | [],x,r,h=>by simp at h
 | y::l,x,r,h=>by
   rw [List.dropWhile_cons]at h
   split at h
   ·exact dropWhile_head h
   ·rename_i hy
    simp at h
    rw [←h.1];simpa using hy
theorem dead_facts(l:List GIns) k (hk:k≤l.length):k+deadN (l.drop k)≤l.length∧(∀i,i < deadN (l.drop k)→k+i < l.length∧¬(l[k+i]?.getD GIns.zero).Op=38)∧(k+deadN (l.drop k) < l.length→(l[k+deadN (l.drop k)]?.getD GIns.zero).Op=38):=by
 have h:=take_while_len (fun i=>!isLab i) (l.drop k)
 have hlen:=congrArg List.length h
 have hle:deadN (l.drop k)≤l.length-k:=by grind [deadN]
 refine⟨by omega,fun i hi=>?_,fun hlt=>?_⟩
 ·have h1:=by omega
  have h2:=takeWhile_all (fun i=>!isLab i) (l.drop k)
  have h3:(l.drop k)[i]?=((l.drop k).takeWhile fun i=>!isLab i)[i]?:=by
   conv=>lhs;rw [h]
   rw [List.getElem?_append_left hi]
  grind [List.getElem_mem,isLab,List.getElem?_eq_getElem,Bool.not_eq_true',decide_eq_false_iff_not,of_decide_eq_false]
 ·have h5:=dropWhile_drop (fun i=>!isLab i) (l.drop k)
  have h6:(l.drop k).dropWhile (fun i=>!isLab i)=l.drop (k+deadN (l.drop k)):=by rw [h5,List.drop_drop];rfl
  have h7:=List.drop_eq_getElem_cons hlt
  rw [h7]at h6
  have h8:=dropWhile_head h6
  rw [List.getElem?_eq_getElem hlt]
  simp [isLab,Bool.not_eq_false',decide_eq_true_eq]at h8
  exact h8
theorem lab_facts(l:List GIns) k (hk:k≤l.length):k+((l.drop k).takeWhile isLab).length≤l.length∧(∀i h,k+i < l.length∧((l.drop k).takeWhile isLab)[i]=l[k+i]?.getD GIns.zero):=by
 have h:=take_while_len isLab (l.drop k)
 have hlen:=congrArg List.length h
 rw [List.length_append,List.length_drop,List.length_drop,List.length_drop]at hlen
 refine⟨by omega,fun i hi=>?_⟩
 have h3:(l.drop k)[i]?=((l.drop k).takeWhile isLab)[i]?:=by
  grind
 grind
set_option maxHeartbeats 4000000 in
theorem rest29(l:List GIns) (hl:l.length≤10000000000) (k:Nat) (hk:k < l.length) (o0:Int) (ho:opA (l.drop k) 0=o0) (hj:o0=24∧deadN (l.drop (k+1))=0∨o0=25):Pure prog 197 [insD l,iD k] (moreT l (goesL l k)):=by
 have hat:=fun n=>at29_ok l (by omega) n
 have e0:=opI_0 l k
 obtain⟨R,hR⟩:∃R,moreT l (goesL l k)=R:=⟨_,rfl⟩
 have hRon:V.on [] R=true:=by rw [←hR];rfl
 rw [hR]
 have i1:inR .i64 ((k:Int)+1):=iW
 have b0:(l[k]?.getD GIns.zero).Arg=argA (l.drop k) 0:=argA_get l k 0
 have b00:(l[k]'hk).Arg=argA (l.drop k) 0:=by have:=argA_get l k 0;rw [←this];simp [hk]
 have htl:(l.drop k).tail=l.drop (k+1):=by rw [List.tail_drop]
 have hs1:∀x:List GIns,x.length≤1000→Pure prog 200 [insD l,iD k,iD 1,insD x] (insD (swapM l k 1 x)):=fun x hx=>swap29_ok l (by omega) k 1 (by omega) x (by omega)
 have hs0:Pure prog 200 [insD l,iD k,iD 1,.d (.v (.slice none 0 0))] (insD (swapM l k 1 [])):=(hs1 [] (by simp)).deep 0 (by rfl) (by rfl)
 have hbe:Pure prog 220 [insD l,iD ((k:Int)+1)] (iD (((k+1:Nat)+((l.drop (k+1)).takeWhile isLab).length:Nat):Int)):=behind29_ok l (by omega) (k+1) (by omega)
 rw [ho]at e0
 obtain⟨D,hD⟩:∃D,deadN (l.drop (k+1))=D:=⟨_,rfl⟩
 have hdf:=dead_facts l (k+1) (by omega)
 rw [hD]at hdf hj
 obtain⟨hd0,hd1,hd2⟩:=hdf
 have hgR:goesR l (l.drop k)=(if endsOp o0∧0 < D then some (1,D,[])else if o0=24∨o0=25 then
  (if o0=24∧((l.drop (k+1)).takeWhile isLab).any (fun i=>decide (i.Arg=argA (l.drop k) 0))=true then some (0,1,[])
   else(farM l (l.drop k)).map fun x=>(0,1,x))else none):=by
  unfold goesR;rw [ho,htl,hD]
 obtain⟨T,hT⟩:∃T,(l.drop (k+1)).takeWhile isLab=T:=⟨_,rfl⟩
 rw [hT]at hgR hbe
 have hTf:=lab_facts l (k+1) (by omega)
 rw [hT]at hTf
 obtain⟨ht0,ht1⟩:=hTf
 have hwh:=where29_ok l (by omega) (argA (l.drop k) 0)
 have hbq:=fun(p:Nat) (hp:p≤l.length)=>behind29_ok l (by omega) p hp
 have hnd:¬(endsOp o0∧0 < D):=by
  rcases hj with h | h
  ·omega
  ·unfold endsOp;omega
 have hgR2:goesL l k=if o0=24∧T.any (fun i=>decide (i.Arg=argA (l.drop k) 0))=true then some (swapM l k 1 [])else(farM l (l.drop k)).map fun x=>swapM l k 1 x:=by
  unfold goesL
  rw [hgR,if_neg hnd,if_pos (by omega)]
  split
  ·rfl
  ·rw [Option.map_map];rfl
 clear hgR
 obtain⟨M,hM⟩:∃M,T.findIdx (fun i=>decide (i.Arg=argA (l.drop k) 0))=M:=⟨_,rfl⟩
 have hM1:o0=24→∀j (h:j < M),∃h2:j < T.length,(T[j]'h2).Arg≠argA (l.drop k) 0:=by
  intro _ j hj
  have h1:M≤T.length:=by rw [←hM];exact List.findIdx_le_length
  refine⟨by omega,?_⟩
  have:=List.not_of_lt_findIdx (p:=fun i:GIns=>decide (i.Arg=argA (l.drop k) 0)) (xs:=T) (i:=j) (by rw [hM];exact hj)
  simpa using this
 have hM2:o0=24→∀(h:M < T.length),(T[M]'h).Arg=argA (l.drop k) 0:=by
  intro _ h
  have h2:T.findIdx (fun i=>decide (i.Arg=argA (l.drop k) 0)) < T.length:=by rw [hM];exact h
  have:=List.findIdx_getElem (p:=fun i:GIns=>decide (i.Arg=argA (l.drop k) 0)) (xs:=T) (w:=h2)
  simp only [hM]at this
  simpa using this
 have hMle:M≤T.length:=by rw [←hM];exact List.findIdx_le_length
 have hM4:o0=24→(M < T.length→T.any (fun i=>decide (i.Arg=argA (l.drop k) 0))=true)∧(T.any (fun i=>decide (i.Arg=argA (l.drop k) 0))=true→M < T.length):=by
  intro _
  rw [←hM,List.findIdx_lt_length]
  simp
 refine Pure.run func197 rfl (by simp [f197,hRon]) ?_;simp [-cB,f197,hRon]
 repeat' (first
  | (with_reducible refine And.intro ?_ ?_)
  | ((first | (refine condC_split (fun h=>?_) (fun h=>?_) <;> (try simp at h)) | refine pC (hat _) ?_ | refine pC hbe ?_ | refine lC (hat _) ?_ | refine lC hbe ?_ | refine pG (hat _) ?_ | refine pG hbe ?_) <;> (try simp [-cB, *]))
  | (with_reducible intro _))
 all_goals (try (exfalso;omega))
 refine AWP.loopS [0,1,6,7] 0 (fun i=> [(7,iD ((k+1+i:Nat):Int))]) (fun _=> []) (fun _=>True) (by rfl) (by simp) ?_
 intro i hi _
 obtain rfl:i=0:=by omega
 have hD0:D=0:=by omega
 have j12:((k:Int)+1).toNat=k+1:=by omega
 have j0:0≤(k:Int)+1:=by omega
 have h24:o0=24:=by omega
 by_cases hx:k+1 < l.length
 have j11:=hd2 (by omega)
 rw [hD0]at j11
 have j6:(l[k+1]'hx).Op=38:=by rw [Nat.add_zero,List.getElem?_eq_getElem hx]at j11;exact j11
 have j13:(k:Int)+1 < l.length:=by omega
 have j6b:((l[k+1]'hx).Op !=38)=false:=by simp [j6]
 simp [-cB,j0,j12,j13,hx,j6b,i1,h24]
 refine pC hbe ?_
 simp [-cB,i1]
 rotate_left
 have j13:¬(k:Int)+1 < l.length:=by omega
 simp [-cB,j0,j12,j13,hx,i1,h24]
 refine pC hbe ?_
 simp [-cB,i1]
 rotate_left
 refine AWP.loopS [0,1,6,8,9] 0 (fun i=> [(9,iD ((k+1+i:Nat):Int))]) (fun _=> []) (fun _=>True) (by rfl) (by simp) ?_
 intro i2 hi2 _
 obtain rfl:i2=0:=by omega
 have h25:o0=25:=by omega
 have hnany:¬(o0=24∧T.any (fun i=>decide (i.Arg=argA (l.drop k) 0))=true):=by omega
 rw [if_neg hnany]at hgR2
 simp [-cB,h25]
 rotate_left
 iterate 2
  refine AWP.loopS [0,1,6,8,9] M (fun i=> [(9,iD ((k+1+i:Nat):Int))]) (fun _=> []) (fun _=>True) (by rfl) (by simp) ?_
  intro i2 hi2 _
  have q1:((k:Int)+1+i2).toNat=k+1+i2:=by omega
  have q0:0≤(k:Int)+1+i2:=by omega
  have q2:inR .i64 ((k:Int)+1+i2+1):=iW
  rcases Nat.lt_or_eq_of_le hi2 with hlt2 | heq2
  ·obtain⟨hM3a,hM3b⟩:=hM1 h24 i2 hlt2
   have hT3:=ht1 i2 hM3a
   have q3:((k:Int)+1+i2 < (k:Int)+1+T.length):=by omega
   have q4:k+1+i2 < l.length:=hT3.1
   have q5:(l[k+1+i2]'q4).Arg≠argA (l.drop k) 0:=by
    have:=hM3b
    rw [hT3.2,List.getElem?_eq_getElem q4]at this
    exact this
   simp [-cB,q0,q1,q2,q3,q4]
   refine AWP.regionD [] tmix (by kernel_rfl) (by rfl) ?_
   simp [-cB,q0,q1,q2,q3,q4,hk,b00,q5]
   omega
  subst heq2
  by_cases hMT:i2 < T.length
  ·have hT3:=ht1 i2 hMT
   have q3:((k:Int)+1+i2 < (k:Int)+1+T.length):=by omega
   have q4:k+1+i2 < l.length:=hT3.1
   have q5:(l[k+1+i2]'q4).Arg=argA (l.drop k) 0:=by
    have:=hM2 h24 hMT
    rw [hT3.2,List.getElem?_eq_getElem q4]at this
    exact this
   have hany:T.any (fun i=>decide (i.Arg=argA (l.drop k) 0))=true:=(hM4 h24).1 hMT
   rw [if_pos ⟨h24,hany⟩]at hgR2
   simp [-cB,q0,q1,q2,q3,q4]
   refine AWP.regionD [] tmix (by kernel_rfl) (by rfl) ?_
   simp [-cB,q0,q1,q2,q3,q4,hk,b00,q5]
   refine pC hs0 ?_
   simp [-cB]
   rw [←hR,hgR2];simp [moreT]
  have hnany:¬(o0=24∧T.any (fun i=>decide (i.Arg=argA (l.drop k) 0))=true):=fun h=>hMT ((hM4 h24).2 h.2)
  rw [if_neg hnany]at hgR2
  have q3:¬((k:Int)+1+i2 < (k:Int)+1+T.length):=by omega
  simp [-cB,q0,q1,q2,q3]
  rotate_left
 all_goals
  simp [-cB,hk,b00]
  refine pC hwh ?_
  simp [-cB]
  rcases after_labI (l:=l) (n:=argA (l.drop k) 0)with⟨w1,w2⟩ | ⟨p,w0,w1,w2,w3⟩
  ·have hf:farM l (l.drop k)=none:=by unfold farM;rw [w2]
   rw [hf]at hgR2
   simp [-cB,w1]
   rw [←hR,hgR2];simp [moreT]
  have w4:¬(p:Int) < 0:=by omega
  have hbp:=hbq p (by omega)
  have hbl:=behind_label w0 w3
  obtain⟨Q,hQ⟩:∃Q,p+((l.drop p).takeWhile isLab).length=Q:=⟨_,rfl⟩
  rw [hQ]at hbp hbl
  have hQl:Q≤l.length:=by
   have:=(lab_facts l p (by omega)).1
   omega
  have hatQ:=hat (Q:Int)
  rw [opI_0]at hatQ
  have hf:farM l (l.drop k)=if opA (l.drop Q) 0=24∧argA (l.drop Q) 0≠argA (l.drop k) 0 then some [⟨opA (l.drop k) 0,argA (l.drop Q) 0⟩]else none:=by
   unfold farM;rw [w2];simp only [hbl]
  rw [ho]at hf
  have hQ0:=opA_lt (l:=l) (k:=Q) (j:=0)
  simp only [Nat.add_zero]at hQ0
  have hbQ:∀h:Q < l.length,(l[Q]'h).Arg=argA (l.drop Q) 0:=fun h=>by have:=argA_get l Q 0;rw [←this];simp [h]
  simp [-cB,w1,w4]
  refine pC hbp ?_
  simp [-cB]
  refine AWP.regionD [iD (opA (l.drop Q) 0)] tmix (by kernel_rfl) (by rfl) ?_
  by_cases q24:opA (l.drop Q) 0=24
  ·have qlt:Q < l.length:=hQ0 (by omega)
   have hbQ':=hbQ qlt
   rw [q24]at hatQ
   by_cases qa:argA (l.drop Q) 0=argA (l.drop k) 0
   ·rw [if_neg (by simp [qa])]at hf
    rw [hf]at hgR2
    simp [-cB,hatQ.ok,hbQ',hk,b00,q24,qa,qlt]
    rw [←hR,hgR2];simp [moreT]
   ·rw [if_pos ⟨q24,qa⟩]at hf
    rw [hf]at hgR2
    have qab:(argA (l.drop Q) 0 !=argA (l.drop k) 0)=true:=by simpa using qa
    simp [-cB,hatQ.ok,hbQ',hk,b00,q24,qab,qlt]
    first
     | refine AOps.weaken (Wk.freeze 136 (ys:=[(⟨o0,argA (l.drop Q) 0⟩:GIns)].map GIns.enc) rfl) ?_
     | refine AOps.weaken (Wk.freeze 136 (ys:=[(⟨24,argA (l.drop Q) 0⟩:GIns)].map GIns.enc) rfl) ?_
     | refine AOps.weaken (Wk.freeze 136 (ys:=[(⟨25,argA (l.drop Q) 0⟩:GIns)].map GIns.enc) rfl) ?_
    simp [-cB]
    first
     | refine AOps.pureC rfl (hs1 [⟨o0,argA (l.drop Q) 0⟩] (by simp)) rfl rfl (by simp) rfl ?_
     | refine AOps.pureC rfl (hs1 [⟨24,argA (l.drop Q) 0⟩] (by simp)) rfl rfl (by simp) rfl ?_
     | refine AOps.pureC rfl (hs1 [⟨25,argA (l.drop Q) 0⟩] (by simp)) rfl rfl (by simp) rfl ?_
    simp [-cB]
    rw [←hR,hgR2];simp [moreT, *]
  ·rw [if_neg (fun h=>q24 h.1)]at hf
   rw [hf]at hgR2
   simp [-cB,hatQ.ok,hk,b00,q24]
   rw [←hR,hgR2];simp [moreT]
set_option maxHeartbeats 4000000 in
theorem goes29_ok(l:List GIns) (hl:l.length≤10000000000) (k:Nat) (hk:k < l.length):Pure prog 197 [insD l,iD k] (moreT l (goesL l k)):=by
 have hat:=fun n=>at29_ok l (by omega) n
 have e0:=opI_0 l k
 obtain⟨R,hR⟩:∃R,moreT l (goesL l k)=R:=⟨_,rfl⟩
 have hRon:V.on [] R=true:=by rw [←hR];rfl
 rw [hR]
 have i1:inR .i64 ((k:Int)+1):=iW
 have b0:(l[k]?.getD GIns.zero).Arg=argA (l.drop k) 0:=argA_get l k 0
 have b00:(l[k]'hk).Arg=argA (l.drop k) 0:=by have:=argA_get l k 0;rw [←this];simp [hk]
 have htl:(l.drop k).tail=l.drop (k+1):=by rw [List.tail_drop]
 have hs1:∀x:List GIns,x.length≤1000→Pure prog 200 [insD l,iD k,iD 1,insD x] (insD (swapM l k 1 x)):=fun x hx=>swap29_ok l (by omega) k 1 (by omega) x (by omega)
 have hs0:Pure prog 200 [insD l,iD k,iD 1,.d (.v (.slice none 0 0))] (insD (swapM l k 1 [])):=(hs1 [] (by simp)).deep 0 (by rfl) (by rfl)
 have hbe:Pure prog 220 [insD l,iD ((k:Int)+1)] (iD (((k+1:Nat)+((l.drop (k+1)).takeWhile isLab).length:Nat):Int)):=behind29_ok l (by omega) (k+1) (by omega)
 generalize ho:opA (l.drop k) 0=o0 at *
 obtain⟨D,hD⟩:∃D,deadN (l.drop (k+1))=D:=⟨_,rfl⟩
 have hdf:=dead_facts l (k+1) (by omega)
 rw [hD]at hdf
 obtain⟨hd0,hd1,hd2⟩:=hdf
 have hgR:goesR l (l.drop k)=(if endsOp o0∧0 < D then some (1,D,[])else if o0=24∨o0=25 then
  (if o0=24∧((l.drop (k+1)).takeWhile isLab).any (fun i=>decide (i.Arg=argA (l.drop k) 0))=true then some (0,1,[])
   else(farM l (l.drop k)).map fun x=>(0,1,x))else none):=by
  unfold goesR;rw [ho,htl,hD]
 obtain⟨T,hT⟩:∃T,(l.drop (k+1)).takeWhile isLab=T:=⟨_,rfl⟩
 rw [hT]at hgR hbe
 have hTf:=lab_facts l (k+1) (by omega)
 rw [hT]at hTf
 obtain⟨ht0,ht1⟩:=hTf
 have hwh:=where29_ok l (by omega) (argA (l.drop k) 0)
 have hbq:=fun(p:Nat) (hp:p≤l.length)=>behind29_ok l (by omega) p hp
 by_cases hend:endsOp o0
 ·have hor:(((o0=24∨o0=27)∨o0=28)∨o0=29)∨o0=30:=by unfold endsOp at hend;omega
  by_cases hd:0 < D
  ·have hres:R= .tup [insD (swapM l (k+1) D []),oD true]:=by
    rw [←hR];unfold goesL;rw [hgR,if_pos ⟨hend,hd⟩];rfl
   have hsw:Pure prog 200 [insD l,iD ((k:Int)+1),iD D,.d (.v (.slice none 0 0))] (insD (swapM l (k+1) D [])):=(swap29_ok l (by omega) (k+1) D (by omega) [] (by simp)).deep 0 (by rfl) (by rfl)
   clear hR hgR
   subst hres
   refine rn func197 ?_;simp [-cB,f197]
   repeat' (first
    | (with_reducible refine And.intro ?_ ?_)
    | ((first | (refine condC_split (fun h=>?_) (fun h=>?_) <;> (try simp at h)) | refine pC (hat _) ?_ | refine lC (hat _) ?_ | refine pG (hat _) ?_) <;> (try simp [-cB, *]))
    | (with_reducible intro _))
   all_goals (try (exfalso;omega))
   refine AWP.loopS [0,1,6,7] D (fun i=> [(7,iD ((k+1+i:Nat):Int))]) (fun _=> []) (fun _=>True) (by rfl) (by simp) ?_
   intro i hi _
   have j1:((k:Int)+1+i).toNat=k+1+i:=by omega
   have j2:inR .i64 ((k:Int)+1+i+1):=iW
   have j0:0≤(k:Int)+1+i:=by omega
   rcases Nat.lt_or_eq_of_le hi with hlt | heq
   ·have j3:=hd1 i hlt
    have j4:(k:Int)+1+i < l.length:=by omega
    have j5:k+1+i < l.length:=by omega
    have j6:¬(l[k+1+i]'j5).Op=38:=by have:=j3.2;rw [List.getElem?_eq_getElem j5]at this;exact this
    have j6b:(l[k+1+i].Op !=38)=true:=by simpa using j6
    simp [-cB,j0,j1,j2,j4,j5,j6b]
    omega
   ·subst heq
    have j7:inR .i64 ((k:Int)+1+i-k):=iW
    have j8:inR .i64 ((k:Int)+1+i-k-1):=iW
    have j9:(k:Int)+1+i-k-1=i:=by omega
    have j10:(k:Int)+1 < (k:Int)+1+i:=by omega
    by_cases hx:k+1+i < l.length
    ·have j11:=hd2 hx
     have j12:(k:Int)+1+i < l.length:=by omega
     have j6:(l[k+1+i]'hx).Op=38:=by rw [List.getElem?_eq_getElem hx]at j11;exact j11
     simp [-cB,j0,j1,j12,hx,j6,i1,j7,j8,j9,j10,hd]
     refine⟨iW,?_⟩
     refine pC hsw ?_
     simp
    ·have j12:¬(k:Int)+1+i < l.length:=by omega
     simp [-cB,j0,j1,j12,i1,j7,j8,j9,j10,hd]
     refine⟨iW,?_⟩
     refine pC hsw ?_
     simp
  ·-- nothing is left out:a jump goes on,the others do not
   have hD0:D=0:=by omega
   have hnd:¬(endsOp o0∧0 < D):=by omega
   by_cases h24:o0=24
   ·rw [←hR]
    exact rest29 l hl k hk o0 ho (Or.inl ⟨h24,by rw [hD];exact hD0⟩)
   ·have hres:R= .tup [insD l,oD false]:=by
     rw [←hR];unfold goesL;rw [hgR,if_neg hnd,if_neg (by omega)];rfl
    clear hgR hR
    subst hres
    have h25:¬o0=25:=by omega
    refine rn func197 ?_;simp [-cB,f197]
    repeat' (first
     | (with_reducible refine And.intro ?_ ?_)
     | ((first | (refine condC_split (fun h=>?_) (fun h=>?_) <;> (try simp at h)) | refine pC (hat _) ?_ | refine lC (hat _) ?_ | refine pG (hat _) ?_) <;> (try simp [-cB, *]))
     | (with_reducible intro _))
    all_goals (try (exfalso;omega))
    refine AWP.loopS [0,1,6,7] 0 (fun i=> [(7,iD ((k+1+i:Nat):Int))]) (fun _=> []) (fun _=>True) (by rfl) (by simp) ?_
    intro i hi _
    obtain rfl:i=0:=by omega
    have j12:((k:Int)+1).toNat=k+1:=by omega
    have j0:0≤(k:Int)+1:=by omega
    by_cases hx:k+1 < l.length
    ·have j11:=hd2 (by omega)
     rw [hD0]at j11
     have j6:(l[k+1]'hx).Op=38:=by rw [Nat.add_zero,List.getElem?_eq_getElem hx]at j11;exact j11
     have j13:(k:Int)+1 < l.length:=by omega
     have j6b:((l[k+1]'hx).Op !=38)=false:=by simp [j6]
     simp [-cB,j0,j12,j13,hx,j6b,i1]
     refine condC_split (fun h=>?_) (fun h=>?_)
     ·simp
     ·simp at h;omega
    ·have j13:¬(k:Int)+1 < l.length:=by omega
     simp [-cB,j0,j12,j13,hx,i1]
     refine condC_split (fun h=>?_) (fun h=>?_)
     ·simp
     ·simp at h;omega
 ·have hor:¬((((o0=24∨o0=27)∨o0=28)∨o0=29)∨o0=30):=by unfold endsOp at hend;omega
  have hnd:¬(endsOp o0∧0 < D):=fun h=>hend h.1
  by_cases h25:o0=25
  ·rw [←hR]
   exact rest29 l hl k hk o0 ho (Or.inr h25)
  ·have hres:R= .tup [insD l,oD false]:=by
    rw [←hR];unfold goesL;rw [hgR,if_neg hnd,if_neg (by omega)];rfl
   clear hgR hR
   subst hres
   refine rn func197 ?_;simp [-cB,f197]
   repeat' (first
    | (with_reducible refine And.intro ?_ ?_)
    | ((first | (refine condC_split (fun h=>?_) (fun h=>?_) <;> (try simp at h)) | refine pC (hat _) ?_ | refine lC (hat _) ?_ | refine pG (hat _) ?_) <;> (try simp [-cB, *]))
    | (with_reducible intro _))
   all_goals (exfalso;omega)
theorem betterR_eq l r:betterR l r=match reckM r with
 | some y=>some (0,y.1,y.2)
 | none=>match knownM r with
   | some y=>some (0,y.1,y.2)
   | none=>match goesR l r with
     | some y=>some y
     | none=>if opA r 0=38∧askedL l (argA r 0)=false then some (0,1,[])else none:=by
 unfold betterR goesR
 grind
set_option maxHeartbeats 2000000 in
theorem better29_ok(l:List GIns) (hl:l.length≤10000000000) (k:Nat) (hk:k < l.length):Pure prog 162 [insD l,iD k] (moreT l (betterM l k)):=by
 have h1:=reckoned29_ok l (by omega) k (by omega)
 have h2:=known29_ok l (by omega) k (by omega)
 have h3:=goes29_ok l hl k hk
 have hat:=at29_ok l (by omega) k
 rw [opI_0]at hat
 have hak:=asked29_ok l (by omega) (argA (l.drop k) 0)
 have b00:(l[k]'hk).Arg=argA (l.drop k) 0:=by have:=argA_get l k 0;rw [←this];simp [hk]
 have hs0:Pure prog 200 [insD l,iD k,iD 1,.d (.v (.slice none 0 0))] (insD (swapM l k 1 [])):=(swap29_ok l (by omega) k 1 (by omega) [] (by simp)).deep 0 (by rfl) (by rfl)
 have hB:betterM l k=match reckL l k with
  | some y=>some y
  | none=>match knownL l k with
    | some y=>some y
    | none=>match goesL l k with
      | some y=>some y
      | none=>if opA (l.drop k) 0=38∧askedL l (argA (l.drop k) 0)=false then some (swapM l k 1 [])else none:=by
  unfold betterM reckL knownL goesL
  rw [betterR_eq]
  cases reckM (l.drop k)with
  | some y=>rfl
  | none=>
    cases knownM (l.drop k)with
    | some y=>rfl
    | none=>
      cases goesR l (l.drop k)with
      | some y=>rfl
      | none=>
        simp only [Option.map_none]
        split <;> rfl
 rw [hB]
 cases hr:reckL l k with
 | some y=>
   rw [hr]at h1
   unfold moreT at h1 ⊢
   refine rn func162 ?_;simp [-cB,f162]
   refine pC h1 ?_
   simp
 | none=>
   rw [hr]at h1
   cases hkn:knownL l k with
   | some y=>
     rw [hkn]at h2
     unfold moreT at h1 h2 ⊢
     refine rn func162 ?_;simp [-cB,f162]
     refine pC h1 ?_
     simp [-cB]
     refine pC h2 ?_
     simp
   | none=>
     rw [hkn]at h2
     cases hg:goesL l k with
     | some y=>
       rw [hg]at h3
       unfold moreT at h1 h2 h3 ⊢
       refine rn func162 ?_;simp [-cB,f162]
       refine pC h1 ?_
       simp [-cB]
       refine pC h2 ?_
       simp [-cB]
       refine pC h3 ?_
       simp
     | none=>
       rw [hg]at h3
       by_cases h38:opA (l.drop k) 0=38
       ·rw [h38]at hat
        cases ha:askedL l (argA (l.drop k) 0)with
        | true=>
          rw [ha]at hak
          unfold moreT at h1 h2 h3 ⊢
          simp only [h38,true_and,reduceCtorEq,if_false]
          refine rn func162 ?_;simp [-cB,f162]
          repeat' (first
           | (with_reducible refine And.intro ?_ ?_)
           | ((first | (refine condC_split (fun h=>?_) (fun h=>?_) <;> (try simp at h)) | refine pC h1 ?_ | refine pC h2 ?_ | refine pC h3 ?_ | refine pC hat ?_ | refine pC hak ?_ | refine lC h1 ?_ | refine lC h2 ?_ | refine lC h3 ?_ | refine lC hat ?_ | refine lC hak ?_ | refine pG h1 ?_ | refine pG h2 ?_ | refine pG h3 ?_ | refine pG hat ?_ | refine pG hak ?_) <;> (try simp [-cB, *]))
           | (with_reducible intro _))
        | false=>
          rw [ha]at hak
          unfold moreT at h1 h2 h3 ⊢
          simp only [h38,true_and,if_true]
          refine rn func162 ?_;simp [-cB,f162]
          repeat' (first
           | (with_reducible refine And.intro ?_ ?_)
           | ((first | (refine condC_split (fun h=>?_) (fun h=>?_) <;> (try simp at h)) | refine pC h1 ?_ | refine pC h2 ?_ | refine pC h3 ?_ | refine pC hat ?_ | refine pC hak ?_ | refine pC hs0 ?_ | refine lC h1 ?_ | refine lC h2 ?_ | refine lC h3 ?_ | refine lC hat ?_ | refine lC hak ?_ | refine lC hs0 ?_ | refine pG h1 ?_ | refine pG h2 ?_ | refine pG h3 ?_ | refine pG hat ?_ | refine pG hak ?_ | refine pG hs0 ?_) <;> (try simp [-cB, *]))
           | (with_reducible intro _))
       ·unfold moreT at h1 h2 h3 ⊢
        simp only [h38,false_and,if_false]
        refine rn func162 ?_;simp [-cB,f162]
        have hag:=fun n=>asked29_ok l (by omega) n
        repeat' (first
         | (with_reducible refine And.intro ?_ ?_)
         | ((first | (refine condC_split (fun h=>?_) (fun h=>?_) <;> (try simp at h)) | refine pC h1 ?_ | refine pC h2 ?_ | refine pC h3 ?_ | refine pC hat ?_ | refine pC (hag _) ?_ | refine lC h1 ?_ | refine lC h2 ?_ | refine lC h3 ?_ | refine lC hat ?_ | refine lC (hag _) ?_ | refine pG h1 ?_ | refine pG h2 ?_ | refine pG h3 ?_ | refine pG hat ?_ | refine pG (hag _) ?_) <;> (try simp [-cB, *]))
         | (with_reducible intro _))
end Go.Ab
namespace Go.Ab
open Go.Proofs Go.Proofs.Tryz
theorem swapM_len {l:List GIns} {k n:Nat} {x:List GIns} (h:k+n≤l.length) (hx:x.length≤n):(swapM l k n x).length≤l.length:=by
 unfold swapM
 simp only [List.length_append,List.length_take,List.length_drop]
 omega
theorem opA_drop {l:List GIns} {k j:Nat} (h:opA (l.drop k) j≠0):k+j < l.length:=opA_lt h
theorem betterR_len {l:List GIns} {k:Nat} {y:Nat×Nat×List GIns} (h:betterR l (l.drop k)=some y):k+y.1+y.2.1≤l.length∧y.2.2.length≤y.2.1:=by
 rw [betterR_eq]at h
 cases hr:reckM (l.drop k)with
 | some z=>
   rw [hr]at h
   simp only [Option.some.injEq]at h;subst h
   unfold reckM at hr
   split at hr
   ·rename_i hc
    have:=opA_drop (l:=l) (k:=k) (j:=2) (by omega)
    simp only [Option.some.injEq]at hr;subst hr
    exact⟨by simp only;omega,by simp [pushI]⟩
   ·split at hr
    ·cases hr
    ·have h1:opA (l.drop k) 1≠0→k+1 < l.length:=opA_drop
     split at hr
     ·simp only [Option.some.injEq]at hr;subst hr
      exact⟨by simp only;omega,by simp [pushI]⟩
     ·split at hr
      ·simp only [Option.some.injEq]at hr;subst hr
       exact⟨by simp only;omega,by simp [pushI]⟩
      ·split at hr
       ·simp only [Option.some.injEq]at hr;subst hr
        exact⟨by simp only;omega,by simp [pushI]⟩
       ·cases hr
 | none=>
   rw [hr]at h
   simp only at h
   cases hk:knownM (l.drop k)with
   | some z=>
     rw [hk]at h
     simp only [Option.some.injEq]at h;subst h
     unfold knownM at hk
     have h1:opA (l.drop k) 1≠0→k+1 < l.length:=opA_drop
     split at hk
     ·simp only [Option.some.injEq]at hk;subst hk
      exact⟨by simp only;omega,by simp⟩
     ·split at hk
      ·split at hk
       ·simp only [Option.some.injEq]at hk;subst hk
        exact⟨by simp only;omega,by simp⟩
       ·simp only [Option.some.injEq]at hk;subst hk
        exact⟨by simp only;omega,by simp⟩
      ·split at hk
       ·simp only [Option.some.injEq]at hk;subst hk
        exact⟨by simp only;omega,by simp⟩
       ·cases hk
   | none=>
     rw [hk]at h
     simp only at h
     have h0:opA (l.drop k) 0≠0→k+0 < l.length:=opA_drop
     cases hg:goesR l (l.drop k)with
     | some z=>
       rw [hg]at h
       simp only [Option.some.injEq]at h;subst h
       unfold goesR at hg
       split at hg
       ·rename_i hc
        simp only [Option.some.injEq]at hg;subst hg
        have:k < l.length:=by have:=hc.1;unfold endsOp at this;omega
        have hd:=(dead_facts l (k+1) (by omega)).1
        rw [List.tail_drop]
        exact⟨by simp only;omega,by simp⟩
       ·split at hg
        ·split at hg
         ·simp only [Option.some.injEq]at hg;subst hg
          exact⟨by simp only;omega,by simp⟩
         ·obtain⟨x,hx,rfl⟩:=Option.map_eq_some_iff.1 hg
          unfold farM at hx
          split at hx
          ·cases hx
          ·split at hx
           ·simp only [Option.some.injEq]at hx;subst hx
            exact⟨by simp only;omega,by simp⟩
           ·cases hx
        ·cases hg
     | none=>
       rw [hg]at h
       simp only at h
       split at h
       ·simp only [Option.some.injEq]at h;subst h
        exact⟨by simp only;omega,by simp⟩
       ·cases h
theorem betterM_len {l l':List GIns} {k:Nat} (h:betterM l k=some l'):l'.length≤l.length:=by
 obtain⟨y,hy,rfl⟩:=Option.map_eq_some_iff.1 h
 have:=betterR_len hy
 exact swapM_len (by omega) this.2
theorem onceM_len {l l':List GIns} {n k:Nat} (h:onceM l n k=some l'):l'.length≤l.length:=by
 obtain⟨j,_,_,hj⟩:=onceM_some _ _ h
 exact betterM_len hj
theorem onceM_none {l:List GIns}:∀(n k:Nat),(∀j,k≤j→j < k+n→betterM l j=none)→onceM l n k=none
 | 0,k,_=>rfl
 | n+1,k,h=>by
   rw [onceM,h k (by omega) (by omega)]
   exact onceM_none n (k+1) (fun j h1 h2=>h j (by omega) (by omega))
theorem onceM_first {l x:List GIns} {j:Nat} (hx:betterM l j=some x):∀(n k:Nat),k≤j→j < k+n→(∀i,k≤i→i < j→betterM l i=none)→onceM l n k=some x
 | 0,k,h1,h2,_=>by omega
 | n+1,k,h1,h2,h3=>by
   rw [onceM]
   by_cases e:k=j
   ·rw [e,hx]
   ·rw [h3 k (by omega) (by omega)]
    exact onceM_first hx n (k+1) (by omega) (by omega) (fun i h4 h5=>h3 i (by omega) h5)
theorem once29_ok(l:List GIns) (hl:l.length≤10000000000):Pure prog 101 [insD l] (moreT l (onceM l l.length 0)):=by
 obtain⟨R,hR⟩:∃R,moreT l (onceM l l.length 0)=R:=⟨_,rfl⟩
 have hRon:V.on [] R=true:=by rw [←hR];rfl
 rw [hR]
 refine Pure.run func101 rfl (by simp [f101,hRon]) ?_;simp [-cB,f101,hRon]
 refine AWP.loopS [0,4] l.length (fun i=> [(4,iD i)]) (fun _=> []) (fun i=>∀j,j < i→betterM l j=none) (by rfl) (by simp) ?_
 intro i hi hH
 rcases Nat.lt_or_eq_of_le hi with hlt | heq
 ·have hb:=better29_ok l hl i hlt
  have h64:inR .i64 ((i:Int)+1):=iW
  have hlt':(i:Int) < l.length:=by omega
  cases hm:betterM l i with
  | some x=>
    rw [hm]at hb
    have ho:=onceM_first hm l.length 0 (by omega) (by omega) (fun j _ h=>hH j h)
    unfold moreT at hb
    simp [-cB,hlt]
    refine pC hb ?_
    simp
    rw [←hR,ho];rfl
  | none=>
    rw [hm]at hb
    unfold moreT at hb
    simp [-cB,hlt]
    refine pC hb ?_
    simp [h64,hlt]
    intro j hj
    by_cases e:j=i
    ·rw [e];exact hm
    ·exact hH j (by omega)
 ·have ho:=onceM_none l.length 0 (fun j _ h=>hH j (by omega))
  simp [heq]
  rw [←hR,ho];rfl
theorem allM_fix {l:List GIns} (h:onceM l l.length 0=none):∀n,allM n l=l
 | 0=>rfl
 | n+1=>by rw [allM,h]
theorem allM_succ:∀(n:Nat) (l:List GIns),allM (n+1) l=(onceM (allM n l) (allM n l).length 0).getD (allM n l)
 | 0,l=>by
   rw [allM,allM]
   cases onceM l l.length 0 <;> rfl
 | n+1,l=>by
   rw [allM]
   cases h:onceM l l.length 0 with
   | none=>simp only;rw [allM_fix h,h];rfl
   | some x=>
     simp only
     rw [allM_succ n x]
     conv=>rhs;rw [allM,h]
theorem allM_len:∀(n:Nat) (l:List GIns),(allM n l).length≤l.length
 | 0,l=>Nat.le_refl _
 | n+1,l=>by
   rw [allM]
   cases h:onceM l l.length 0 with
   | none=>exact Nat.le_refl _
   | some x=>exact Nat.le_trans (allM_len n x) (onceM_len h)
theorem all29_ok(l:List GIns) (hl:l.length≤10000000000):Pure prog 61 [insD l] (insD (peepM l)):=by
 have h16:inR .i64 (16 *(l.length:Int)):=iW
 refine rn func61 ?_;simp [-cB,f61]
 simp [-cB,h16]
 refine AWP.loopS [0,3,4] (16 *l.length) (fun i=> [(0,insD (allM i l)),(4,iD i)]) (fun _=> []) (fun _=>True) (by rfl) (by simp [allM]) ?_
 intro i hi _
 have ho:=once29_ok (allM i l) (by have:=allM_len i l;omega)
 have hs:=allM_succ i l
 rcases Nat.lt_or_eq_of_le hi with hlt | heq
 ·have hlt':(i:Int) < 16 *(l.length:Int):=by omega
  have h64:inR .i64 ((i:Int)+1):=iW
  cases hm:onceM (allM i l) (allM i l).length 0 with
  | some x=>
    rw [hm]at ho hs
    unfold moreT at ho
    simp [-cB,hlt']
    refine pC ho ?_
    simp [h64]
    refine⟨by omega,?_⟩
    rw [hs];rfl
  | none=>
    rw [hm]at ho
    unfold moreT at ho
    have hp:peepM l=allM i l:=by
     unfold peepM
     have:∀k,allM (i+k) l=allM i l:=by
      intro k
      induction k with
      | zero=>rfl
      | succ k ih=>rw [←Nat.add_assoc,allM_succ,ih,hm];rfl
     have h2:=this (16 *l.length-i)
     rw [show i+(16 *l.length-i)=16 *l.length by omega]at h2
     exact h2
    simp [-cB,hlt']
    refine pC ho ?_
    simp [hp]
 ·have hp:peepM l=allM i l:=by unfold peepM;rw [heq]
  have hlt':¬(i:Int) < 16 *(l.length:Int):=by omega
  simp [hlt',hp]
end Go.Ab
namespace Go.Ab
open Go.Proofs Go.Proofs.Tryz
set_option maxHeartbeats 8000000
set_option maxRecDepth 40000
theorem way_ok(l:List GIns) (hl:l.length≤100000000000) (i:Nat) (hi:i < l.length) (k:Nat) (hk:k < 10):WayOK l i k:=by
 match k,hk with
 | 0,_=>exact way0_ok l hl i hi
 | 1,_=>exact way1_ok l hl i hi
 | 2,_=>exact way2_ok l hl i hi
 | 3,_=>exact way3_ok l hl i hi
 | 4,_=>exact way4_ok l hl i hi
 | 5,_=>exact way5_ok l hl i hi
 | 6,_=>exact way6_ok l hl i hi
 | 7,_=>exact way7_ok l hl i hi
 | 8,_=>exact way8_ok l hl i hi
 | 9,_=>exact way9_ok l hl i hi
theorem better_none {l:List GIns} {i:Nat} (h:∀j,j < 10→wayR l (l.drop i) j=none):betterM l i=none:=by
 unfold betterM
 rw [←firstR_eq,firstR_skip l (l.drop i) 10 0 10 rfl h];rfl
theorem better_some {l:List GIns} {i k:Nat} (hk:k < 10) (h:∀j,j < k→wayR l (l.drop i) j=none) {y:Nat×Nat×List GIns} (hy:wayR l (l.drop i) k=some y):betterM l i=some (swapM l (i+y.1) y.2.1 y.2.2):=by
 unfold betterM
 rw [←firstR_eq,firstR_skip l (l.drop i) k (9-k+1) 10 (by omega) h,firstR,hy];rfl
theorem pOnce_ok(l:List GIns) (hl:l.length≤10000000000):Pure prog 56 [.d (.sl (l.map GIns.enc))] (.tup [.d (.sl (((onceM l l.length 0).getD l).map GIns.enc)),oD (onceM l l.length 0).isSome]):=by
 obtain⟨R,hR⟩:∃R,(V.tup [.d (.sl (((onceM l l.length 0).getD l).map GIns.enc)),oD (onceM l l.length 0).isSome])=R:=⟨_,rfl⟩
 have hRon:V.on [] R=true:=by rw [←hR];rfl
 rw [hR]
 refine Pure.run func56 rfl (by simp [f56,hRon]) ?_;simp [-cB,f56,hRon]
 refine AWP.loopS [0,9,10] l.length (fun i=> [(10,iD i)]) (fun _=> []) (fun i=>∀j,j < i→betterM l j=none) (by rfl) (by simp) ?_
 intro i hi hH
 rcases Nat.lt_or_eq_of_le hi with hlt | rfl
 ·have i64:inR .i64 ((i:Int)+1):=iW
  have hlt':(i:Int) < l.length:=by omega
  simp [-cB,hlt']
  refine AWP.loopS [0,4,9,10,13] 10 (fun k=> [(13,iD k)]) (fun _=> []) (fun k=>∀j,j < k→wayR l (l.drop i) j=none) (by rfl) (by simp) ?_
  intro k hk hK
  rcases Nat.lt_or_eq_of_le hk with hkl | rfl
  ·have hkl':(k:Int) < 10:=by omega
   have k64:inR .i64 ((k:Int)+1):=iW
   obtain⟨x,hx,hw⟩:=way_ok l (by omega) i hlt k hkl
   simp [-cB,hkl']
   refine pC hw ?_
   cases hy:wayR l (l.drop i) k with
   | none=>
     simp [-cB,k64,hkl]
     intro j hj
     rcases Nat.lt_or_eq_of_le (Nat.le_of_lt_succ hj)with h1 | rfl
     ·exact hK j h1
     ·exact hy
   | some y=>
     have hb:=better_some hkl hK hy
     have he:=hx y hy
     rw [←he]at hb
     have ho:=onceM_first hb l.length 0 (by omega) (by omega) (fun j _ h=>hH j h)
     rw [ho]at hR
     simp [-cB]
     exact hR
  ·have hb:=better_none hK
   simp [-cB,i64,hlt]
   intro j hj
   rcases Nat.lt_or_eq_of_le (Nat.le_of_lt_succ hj)with h1 | rfl
   ·exact hH j h1
   ·exact hb
 ·have ho:=onceM_none l.length 0 (fun j _ h=>hH j (by omega))
  rw [ho]at hR
  simp [-cB]
  exact hR
theorem allM_stop {l:List GIns} {i:Nat} (h:onceM (allM i l) (allM i l).length 0=none):∀k,allM (i+k) l=allM i l
 | 0=>rfl
 | k+1=>by rw [←Nat.add_assoc,allM_succ,allM_stop h k,h];rfl
theorem cloneN_ok(h:Nat) (l:List GIns) (hl:l.length *16≤140737488355328):ACalls prog 57 [.d (.sl (l.map GIns.enc))] [] (fun r L=>r= .ret (.rv h)∧L=[(h,.row 93 2 (dd (l.map GIns.enc)))]):=by
 refine ACalls.rowR h ?_
 refine ACalls.run func57 rfl (by simp [f57]) ?_;simp [f57]
 refine AOps.slNil rfl (by simp;exact⟨rfl,rfl⟩) rfl rfl rfl (by simp) ?_
 intro b hb
 refine AOps.nil ?_
 cases b with
 | true=>
   have hl:l=[]:=by have:=hb rfl;simpa using this
   subst hl
   simp [-cB]
 | false=>
   simp [-cB]
   omega
theorem pAll_ok(l:List GIns) (hl:l.length≤1000000000):Pure prog 22 [.d (.sl (l.map GIns.enc))] (.d (.sl ((peepM l).map GIns.enc))):=by
 unfold peepM
 obtain⟨R,hR⟩:∃R,(V.d (.sl ((allM (16 *l.length) l).map GIns.enc)))=R:=⟨_,rfl⟩
 have hRon:V.on [] R=true:=by rw [←hR];rfl
 rw [hR]
 have i16:inR .i64 (16 *(l.length:Int)):=iW
 refine Pure.run func22 rfl (by simp [f22,hRon]) ?_;simp [-cB,f22,hRon]
 simp [-cB,i16]
 refine AWP.loopS [3,8,9] (16 *l.length) (fun i=> [(9,iD i),(3,.d (.sl ((allM i l).map GIns.enc)))]) (fun _=> []) (fun _=>True) (by rfl) (by simp [allM]) ?_
 intro i hi _
 have hle:(allM i l).length≤l.length:=allM_len i l
 have hon:=pOnce_ok (allM i l) (by omega)
 rcases Nat.lt_or_eq_of_le hi with hlt | rfl
 ·have hlt':(i:Int) < 16 *l.length:=by omega
  have i64:inR .i64 ((i:Int)+1):=iW
  simp [-cB,hlt']
  refine pC hon ?_
  have hs:=allM_succ i l
  cases ho:onceM (allM i l) (allM i l).length 0 with
  | some x=>
    rw [ho]at hs
    simp only [Option.getD_some]at hs
    simp [-cB,i64,hlt,hs]
  | none=>
    have hfix:=allM_stop ho (16 *l.length-i)
    rw [show i+(16 *l.length-i)=16 *l.length by omega]at hfix
    rw [hfix]at hR
    simp [-cB]
    refine AOps.effD [] rfl ((cloneN_ok 5101 (allM i l) (by omega))) (by simp) rfl (by simp) rfl (by kernel_rfl) (by simp) (by simp) (by simp) (by simp) (by simp) ?_
    simp [-cB]
    exact hR
 ·have hlt':¬((16 *l.length:Nat):Int) < 16 *l.length:=by omega
  simp [-cB]
  refine AOps.effD [] rfl ((cloneN_ok 5101 (allM (16 *l.length) l) (by omega))) (by simp) rfl (by simp) rfl (by kernel_rfl) (by simp) (by simp) (by simp) (by simp) (by simp) ?_
  simp [-cB]
  exact hR
end Go.Ab
namespace Go.Ab
open Go.Proofs Go.Proofs.Tryz
theorem among27_ok(n:Int) (l:List Int) (hl:l.length≤1000000):Pure prog 194 [iD n,.d (.sl (encI l))] (oD (l.contains n)):=by
 refine rn func194 ?_;simp [-cB,f194]
 refine AWP.loopS [0,1,5] l.length (fun i=> [(5,iD i)]) (fun _=> []) (fun i=>(l.take i).contains n=false) (by rfl) (by simp [encI]) ?_
 intro i hi hH
 rcases Nat.lt_or_eq_of_le hi with hlt | heq
 ·have hx:l[i]?=some l[i]:=List.getElem?_eq_getElem hlt
  have h64:inR .i64 ((i:Int)+1):=iW
  by_cases hp:l[i]=n
  ·have hv:l.contains n=true:=by simp only [List.contains_iff_mem];exact hp ▸ List.getElem_mem hlt
   have hv2:n∈l:=by simpa using hv
   simp [hlt,hp,hv2]
  ·have hn:(l.take (i+1)).contains n=false:=by
    rw [List.take_add_one,hx]
    simp only [Option.toList,List.contains_append,hH,Bool.false_or]
    simpa using fun h=>hp h.symm
   have hpb:(l[i]==n)=false:=by simpa using hp
   simp [hlt,hp,h64]
   simpa using hn
 ·have hv:l.contains n=false:=by rw [heq,List.take_length]at hH;exact hH
  simp [heq]
  simpa using hv
theorem has27_ok(n:Int):Pure prog 157 [iD n] (oD (hasA n)):=by
 have h:=among27_ok n [1,3,4,5,6,7,8,12,13,14,15,16,19,21,24,25,26,32,33,38] (by simp)
 unfold hasA
 refine rn func157 ?_;simp [-cB,f157]
 refine AOps.weaken (Wk.freeze 4 (ys:=encI [1,3,4,5,6,7,8,12,13,14,15,16,19,21,24,25,26,32,33,38]) rfl) ?_
 simp [-cB]
 refine pC h ?_
 simp
theorem bytes27_ok(n:Int):Pure prog 161 [iD n] (iD (bytesM n)):=by
 unfold bytesM
 by_cases h0:n=0
 ·subst h0
  refine rn func161 ?_;simp [-cB,f161]
 ·by_cases h1: -128≤n∧n≤127
  ·refine rn func161 ?_;simp [-cB,f161]
   repeat' (first
    | (with_reducible refine And.intro ?_ ?_)
    | (refine condC_split (fun h=>?_) (fun h=>?_) <;> (try simp at h) <;> (try simp [-cB, *]))
    | (with_reducible intro _))
   all_goals (try omega)
  ·refine rn func161 ?_;simp [-cB,f161]
   repeat' (first
    | (with_reducible refine And.intro ?_ ?_)
    | (refine condC_split (fun h=>?_) (fun h=>?_) <;> (try simp at h) <;> (try simp [-cB, *]))
    | (with_reducible intro _))
   all_goals (try omega)
theorem jumps30_ok(i:GIns):Pure prog 97 [.agg (i.enc.map .d)] (oD (jmp i.Op)):=by
 unfold jmp
 refine rn func97 ?_;simp [-cB,f97]
def labN(l:List GIns) (k:Nat) (n:Int):Int:=labI (l.take k) n
theorem stands30_ok(l:List GIns) (hl:l.length≤100000000000) (k:Nat) (hk:k≤l.length) (n:Int):Pure prog 155 [insD l,iD k,iD n] (iD (labN l k n)):=by
 refine rn func155 ?_;simp [-cB,f155]
 refine AWP.loopS [0,1,2,7] k (fun i=> [(7,iD i)]) (fun _=> []) (fun i=>∀y∈l.take i,(decide (y.Op=38) && decide (y.Arg=n))=false) (by rfl) (by simp) ?_
 intro i hi hH
 rcases Nat.lt_or_eq_of_le hi with hlt' | heq
 ·have hlt:i < l.length:=by omega
  have hx:l[i]?=some l[i]:=List.getElem?_eq_getElem hlt
  have hxk:(l.take k)[i]?=some l[i]:=by rw [List.getElem?_take,if_pos hlt'];exact hx
  have h64:inR .i64 ((i:Int)+1):=iW
  have hki:(i:Int) < k:=by omega
  by_cases hp:(decide (l[i].Op=38) && decide (l[i].Arg=n))=true
  ·have hv:labN l k n=i:=by
    unfold labN labI
    have:(l.take k).findIdx? (fun i=>decide (i.Op=38) && decide (i.Arg=n))=some i:=by
     rw [List.findIdx?_eq_some_iff_getElem]
     refine⟨by simp;omega,by simpa using hp,fun j hj=>?_⟩
     have hjl:j < l.length:=by omega
     have:=hH l[j] (List.mem_take_iff_getElem.2 ⟨j,by omega,rfl⟩)
     simpa using this
    rw [this]
   rw [Bool.and_eq_true,decide_eq_true_eq,decide_eq_true_eq]at hp
   simp [hlt,hki,hp.1,hp.2,hv]
  ·have hn:∀y∈l.take (i+1),(decide (y.Op=38) && decide (y.Arg=n))=false:=by
    intro y hy
    rcases take_mem_snoc hx hy with h | rfl
    ·exact hH y h
    ·simpa using hp
   simp [-cB,hlt,hki,h64]
   refine condC_split (fun h=>?_) (fun h=>?_)
   ·exact(hp h).elim
   ·simp [-cB,h64,hlt]
    exact⟨by omega,fun y hy=>by simpa using hn y hy⟩
 ·have hv:labN l k n= -1:=by
   unfold labN labI
   have:(l.take k).findIdx? (fun i=>decide (i.Op=38) && decide (i.Arg=n))=none:=by
    rw [List.findIdx?_eq_none_iff]
    intro y hy
    exact hH y (by rw [heq];exact hy)
   rw [this]
  simp [heq,hv]
end Go.Ab
namespace Go.Ab
open Go.Proofs Go.Proofs.Tryz
def encY(l:List Int):List (List D):=l.map fun c=> [.v (.int .u8 c)]
@[simp] theorem encY_length(l:List Int):(encY l).length=l.length:=by simp [encY]
@[simp] theorem encY_append(a b:List Int):encY a++encY b=encY (a++b):=by simp [encY]
abbrev bytD(l:List Int):V:= .d (.sl (encY l))
theorem wrapU8(n:Int):IntKind.wrap .u8 n=n % 256:=by
 unfold IntKind.wrap
 simp [IntKind.signed,IntKind.bits]
theorem argE_bd(i:GIns): -32768≤argE i∧argE i≤32767:=by
 unfold argE
 split
 ·exact wrapM_bd _
 ·omega
theorem encode27_ok(i:GIns):Pure prog 98 [.agg (i.enc.map .d)] (bytD (encM i)):=by
 obtain⟨o,a⟩:=i
 by_cases ho:o < 1∨38≤o
 ·have hv:encM ⟨o,a⟩=[]:=by unfold encM;rw [if_pos ho]
  rw [hv]
  refine Pure.run func98 rfl (by simp [f98,GIns.enc]) ?_;simp [-cB,f98,GIns.enc]
  repeat' (first
   | (with_reducible refine And.intro ?_ ?_)
   | (refine condC_split (fun h=>?_) (fun h=>?_) <;> (try simp at h) <;> (try simp [-cB, *,GIns.enc]))
   | (with_reducible intro _))
  all_goals (first | rfl | omega)
 ·have h1:=argE_bd ⟨o,a⟩
  have hv:encM ⟨o,a⟩=encK o (argE ⟨o,a⟩) (bytesM (argE ⟨o,a⟩)):=by unfold encM;rw [if_neg ho]
  rw [hv]
  have hw:=refWrap_ok a
  have hh:=has27_ok o
  obtain⟨n,hn⟩:∃n,argE ⟨o,a⟩=n:=⟨_,rfl⟩
  rw [hn]at h1 ⊢
  unfold argE at hn
  simp only at hn
  have hl1:¬o < 1:=by omega
  have hl2:¬38≤o:=by omega
  have e1:inR .i64 (4 *o):=iW
  have e4:inR .i64 (4 *o+1):=iW
  have e5:inR .i64 (4 *o+2):=iW
  have e6:(4 *o) % 256=4 *o:=by omega
  have e7:(4 *o+1) % 256=4 *o+1:=by omega
  have e8:(4 *o+2) % 256=4 *o+2:=by omega
  have hb27:=bytes27_ok n
  have hb:=bytesM_le n
  obtain⟨k,hk⟩:∃k,bytesM n=k:=⟨_,rfl⟩
  rw [hk]at hb hb27 ⊢
  have hgo:Pure prog 157 [iD o] (oD false)∧n=0∨Pure prog 157 [iD o] (oD true)∧wrapM a=n:=by
   cases hA:hasA o
   ·left;rw [hA]at hh hn;exact⟨hh,by simpa using hn.symm⟩
   ·right;rw [hA]at hh hn;exact⟨hh,by simpa using hn⟩
  have e64:inR .i64 (n+65536):=iW
  have q1:0≤n→n.tdiv 256=n / 256:=fun h=>Int.tdiv_eq_ediv_of_nonneg h
  have q2:0≤n+65536:=by omega
  have q3:(n+65536).tdiv 256=(n+65536) / 256:=Int.tdiv_eq_ediv_of_nonneg q2
  have q4:(n+65536) / 256 % 256=n / 256 % 256:=by omega
  have q5:0≤n→n.tmod 256=n % 256:=fun h=>Int.tmod_eq_emod_of_nonneg h
  have q6:(n+65536).tmod 256=n % 256:=by rw [Int.tmod_eq_emod_of_nonneg q2];omega
  clear hh hv
  have hk3:k=0∨k=1∨k=2:=by omega
  rcases hk3 with rfl | rfl | rfl
  ·have hn0:n=0:=by unfold bytesM at hk;split at hk;assumption;split at hk <;> omega
   subst hn0
   have hbk:Pure prog 161 [iD 0] (iD 0):=hb27
   clear hb27 hb hk q1 q2 q3 q4 q5 q6
   rcases hgo with⟨hh,_⟩ | ⟨hh,hw2⟩
   ·have e9:True:=trivial
    refine Pure.run func98 rfl (by simp [f98,hl1,hl2,GIns.enc]) ?_;simp [-cB,f98,hl1,hl2,GIns.enc]
    intro bs
    refine pC hw ?_
    simp [-cB]
    refine pC hh ?_
    simp [-cB,e1]
    refine AWP.regionM0 [some (0,0),some (0,0),some (0,0),some (0,0),some (0,0),some (0,0),some (0,0),none,some (1,1)] [iD 0] tmix (by kernel_rfl) ?_
    simp [-cB,e1,e6,hbk.ok,wrapU8,e9]
    refine pC hbk ?_
    simp [-cB,wrapU8,e9]
    refine pC hbk ?_
    simp [wrapU8,e9,encY,encK,argB]
   ·have e9:True:=trivial
    rw [hw2]at hw
    refine Pure.run func98 rfl (by simp [f98,hl1,hl2,GIns.enc]) ?_;simp [-cB,f98,hl1,hl2,GIns.enc]
    intro bs
    refine pC hw ?_
    simp [-cB]
    refine pC hh ?_
    simp [-cB,e1]
    refine AWP.regionM0 [some (0,0),some (0,0),some (0,0),some (0,0),some (0,0),some (0,0),some (0,0),none,some (1,1)] [iD 0] tmix (by kernel_rfl) ?_
    simp [-cB,e1,e6,hbk.ok,wrapU8,e9]
    refine pC hbk ?_
    simp [-cB,wrapU8,e9]
    refine pC hbk ?_
    simp [wrapU8,e9,encY,encK,argB]
  ·have hbk:Pure prog 161 [iD n] (iD 1):=hb27
   have hnz:n≠0:=by rintro rfl;simp [bytesM]at hk
   clear hb27 hb hk
   rcases hgo with⟨hh,hn0⟩ | ⟨hh,hw2⟩
   ·exact absurd hn0 hnz
   ·rw [hw2]at hw
    by_cases hs:n < 0
    ·clear q1 q5
     refine Pure.run func98 rfl (by simp [f98,hl1,hl2,GIns.enc]) ?_;simp [-cB,f98,hl1,hl2,GIns.enc]
     intro bs
     refine pC hw ?_
     simp [-cB]
     refine pC hh ?_
     simp [-cB,e1]
     refine AWP.regionM0 [some (0,0),some (0,0),some (0,0),some (0,0),some (0,0),some (0,0),some (0,0),none,some (1,1)] [iD 1] tmix (by kernel_rfl) ?_
     simp [-cB,e1,e4,e5,e7,hbk.ok,wrapU8,hs,e64,q6]
     refine pC hbk ?_
     simp [-cB,wrapU8,hs,e64,q6]
     refine pC hbk ?_
     simp [wrapU8,hs,e64,q6,encY,encK,argB]
    ·have q5':=q5 (by omega)
     clear q1 q5
     refine Pure.run func98 rfl (by simp [f98,hl1,hl2,GIns.enc]) ?_;simp [-cB,f98,hl1,hl2,GIns.enc]
     intro bs
     refine pC hw ?_
     simp [-cB]
     refine pC hh ?_
     simp [-cB,e1]
     refine AWP.regionM0 [some (0,0),some (0,0),some (0,0),some (0,0),some (0,0),some (0,0),some (0,0),none,some (1,1)] [iD 1] tmix (by kernel_rfl) ?_
     simp [-cB,e1,e4,e5,e7,hbk.ok,wrapU8,hs,q5']
     refine pC hbk ?_
     simp [-cB,wrapU8,hs,q5']
     refine pC hbk ?_
     simp [wrapU8,hs,q5',encY,encK,argB]
  ·have hbk:Pure prog 161 [iD n] (iD 2):=hb27
   have hnz:n≠0:=by rintro rfl;simp [bytesM]at hk
   clear hb27 hb hk
   rcases hgo with⟨hh,hn0⟩ | ⟨hh,hw2⟩
   ·exact absurd hn0 hnz
   ·rw [hw2]at hw
    by_cases hs:n < 0
    ·clear q1 q5
     refine Pure.run func98 rfl (by simp [f98,hl1,hl2,GIns.enc]) ?_;simp [-cB,f98,hl1,hl2,GIns.enc]
     intro bs
     refine pC hw ?_
     simp [-cB]
     refine pC hh ?_
     simp [-cB,e1]
     refine AWP.regionM0 [some (0,0),some (0,0),some (0,0),some (0,0),some (0,0),some (0,0),some (0,0),none,some (1,1)] [iD 2] tmix (by kernel_rfl) ?_
     simp [-cB,e1,e4,e5,e8,hbk.ok,wrapU8,hs,e64,q6,q3,q4]
     refine pC hbk ?_
     simp [-cB,wrapU8,hs,e64,q6,q3,q4]
     refine pC hbk ?_
     simp [wrapU8,hs,e64,q6,q3,q4,encY,encK,argB]
     rw [wrap64 iW,q4]
    ·have q5':=q5 (by omega)
     have q1':=q1 (by omega)
     clear q1 q5
     refine Pure.run func98 rfl (by simp [f98,hl1,hl2,GIns.enc]) ?_;simp [-cB,f98,hl1,hl2,GIns.enc]
     intro bs
     refine pC hw ?_
     simp [-cB]
     refine pC hh ?_
     simp [-cB,e1]
     refine AWP.regionM0 [some (0,0),some (0,0),some (0,0),some (0,0),some (0,0),some (0,0),some (0,0),none,some (1,1)] [iD 2] tmix (by kernel_rfl) ?_
     simp [-cB,e1,e4,e5,e8,hbk.ok,wrapU8,hs,q5',q1']
     refine pC hbk ?_
     simp [-cB,wrapU8,hs,q5',q1']
     refine pC hbk ?_
     simp [wrapU8,hs,q5',q1',encY,encK,argB]
     rw [wrap64 iW]
theorem fits30_ok(n:Int):Pure prog 159 [iD n] (iD (fitsM n)):=by
 have hi:=refIs_ok n
 have he:=encode27_ok ⟨24,n⟩
 have hf:fitsM n=if int16B n then bytesM n else 3:=rfl
 have hbd:=bytesM_le n
 have hI:int16 n=int16B n:=by simp [int16,int16B,fromB]
 rw [hI]at hi
 obtain⟨F,hF⟩:∃F,fitsM n=F:=⟨_,rfl⟩
 rw [hF]at hf ⊢
 by_cases h:int16B n=true
 ·have hn: -32768≤n∧n≤32767:=by simpa [int16B]using h
  rw [h]at hi hf
  simp only [if_true]at hf
  have hlen:(encM ⟨24,n⟩).length=1+F:=by
   have hA:hasA 24=true:=by decide
   rw [hf]
   simp only [encM,argE,hA,if_true,wrapM_id hn]
   rw [if_neg (by omega)]
   simp only [encK,List.length_cons,argB_len n _ hbd];omega
  refine Pure.run func159 rfl (by simp [f159,GIns.enc]) ?_;simp [-cB,f159,GIns.enc]
  refine pC hi ?_
  simp [GIns.enc]
  refine pC he ?_
  simp [hlen]
  exact⟨iW,by omega⟩
 ·have h':int16B n=false:=by simpa using h
  rw [h']at hi hf
  simp at hf
  refine Pure.run func159 rfl (by simp [f159,GIns.enc]) ?_;simp [-cB,f159,GIns.enc]
  refine pC hi ?_
  simp [hf]
theorem jump30_ok(o n:Int) (k:Nat) (ho:1≤o∧o < 38) (hk:k≤2):Pure prog 99 [iD o,iD n,iD k] (bytD (encK o n k)):=by
 have e1:inR .i64 (4 *o):=iW
 have e2:inR .i64 (4 *o+1):=iW
 have e3:inR .i64 (4 *o+2):=iW
 have e6:(4 *o) % 256=4 *o:=by omega
 have e7:(4 *o+1) % 256=4 *o+1:=by omega
 have e8:(4 *o+2) % 256=4 *o+2:=by omega
 have hk3:k=0∨k=1∨k=2:=by omega
 rcases hk3 with rfl | rfl | rfl
 ·refine Pure.run func99 rfl (by simp [f99,e1,e6,wrapU8]) ?_;simp [-cB,f99,e1,e6,wrapU8]
  simp [encY,encK,argB]
 ·refine Pure.run func99 rfl (by simp [f99,e1,e2,e7,wrapU8]) ?_;simp [-cB,f99,e1,e2,e7,wrapU8]
  simp [encY,encK,argB]
 ·refine Pure.run func99 rfl (by simp [f99,e1,e3,e8,wrapU8]) ?_;simp [-cB,f99,e1,e3,e8,wrapU8]
  simp [encY,encK,argB]
  show n.fdiv 256 % 256=_
  rw [Int.fdiv_eq_ediv_of_nonneg _ (by decide)]
end Go.Ab
namespace Go.Ab
open Go.Proofs Go.Proofs.Tryz
set_option maxHeartbeats 4000000
set_option maxRecDepth 8000
end Go.Ab
namespace Go.Ab
open Go.Proofs Go.Proofs.Tryz
set_option maxHeartbeats 4000000
set_option maxRecDepth 8000
def ixM(n:Int):List Int→Nat→Int
 | [],_=> -1
 | x::l,i=>if n=x then(i:Int)else ixM n l (i+1)
theorem ixM_iff(n:Int):∀(l:List Int) (i:Nat),decide (0≤ixM n l i)=l.contains n
 | [],i=>by simp [ixM]
 | x::l,i=>by
   rw [ixM,List.contains_cons]
   by_cases h:n=x
   ·subst h;simp
   ·rw [if_neg h,ixM_iff n l];simp [h]
theorem indexI_ok(l:List Int) (n:Int) (hl:l.length≤1000000):Pure prog 206 [.d (.sl (encI l)),iD n] (iD (ixM n l 0)):=by
 refine rn func206 ?_;simp [-cB,f206]
 refine AWP.loopS [0,1,7,8] l.length (fun i=> [(8,iD i)]) (fun _=> []) (fun i=>ixM n (l.drop i) i=ixM n l 0) (by rfl) (by simp [encI]) ?_
 intro i hi hH
 rcases Nat.lt_or_eq_of_le hi with hlt | heq
 ·have hx:l[i]?=some l[i]:=List.getElem?_eq_getElem hlt
  have h64:inR .i64 ((i:Int)+1):=iW
  rw [List.drop_eq_getElem_cons hlt,ixM]at hH
  by_cases hp:n=l[i]
  ·rw [if_pos hp]at hH
   simp [hlt,←hp]
   exact hH
  ·rw [if_neg hp]at hH
   simp [hlt,hp,h64]
   exact hH
 ·have:l.drop i=[]:=by rw [heq];simp
  rw [this]at hH
  simp [heq]
  exact hH
theorem containsI_ok(l:List Int) (n:Int) (hl:l.length≤1000000):Pure prog 180 [.d (.sl (encI l)),iD n] (oD (l.contains n)):=by
 have h:=indexI_ok l n hl
 rw [←ixM_iff n l 0]
 refine rn func180 ?_;simp [-cB,f180]
 refine pC h ?_
 simp
theorem opOne_ok(l:List Int) (n:Int) (hl:l.length≤1000000):Pure prog 136 [iD n,.d (.sl (encI l))] (oD (l.contains n)):=by
 have h:=containsI_ok l n hl
 refine rn func136 ?_;simp [-cB,f136]
 refine pC h ?_
 simp
theorem opHas_ok(n:Int):Pure prog 86 [iD n] (oD (hasA n)):=by
 have h:=opOne_ok [1,3,4,5,6,7,8,12,13,14,15,16,19,21,24,25,26,32,33,38] n (by simp)
 unfold hasA
 refine rn func86 ?_;simp [-cB,f86]
 refine AOps.weaken (Wk.freeze 4 (ys:=encI [1,3,4,5,6,7,8,12,13,14,15,16,19,21,24,25,26,32,33,38]) rfl) ?_
 simp [-cB]
 refine pC h ?_
 simp
theorem opSize_ok(n:Int):Pure prog 89 [iD n] (iD (bytesM n)):=by
 unfold bytesM
 by_cases h0:n=0
 ·subst h0
  refine rn func89 ?_;simp [-cB,f89]
 ·by_cases h1: -128≤n∧n≤127
  ·refine rn func89 ?_;simp [-cB,f89]
   repeat' (first
    | (with_reducible refine And.intro ?_ ?_)
    | (refine condC_split (fun h=>?_) (fun h=>?_) <;> (try simp at h) <;> (try simp [-cB, *]))
    | (with_reducible intro _))
   all_goals (try omega)
  ·refine rn func89 ?_;simp [-cB,f89]
   repeat' (first
    | (with_reducible refine And.intro ?_ ?_)
    | (refine condC_split (fun h=>?_) (fun h=>?_) <;> (try simp at h) <;> (try simp [-cB, *]))
    | (with_reducible intro _))
   all_goals (try omega)
theorem opKnown_ok(n:Int):Pure prog 87 [iD n] (oD (decide (1≤n) && decide (n≤38))):=by
 refine rn func87 ?_;simp [f87]
theorem encY_one(b:List Int):∀x∈encY b,x.length=1:=by
 intro x hx
 obtain⟨y,_,rfl⟩:=List.mem_map.1 hx
 rfl
end Go.Ab
namespace Go.Ab
open Go.Proofs Go.Proofs.Tryz
set_option maxHeartbeats 4000000
set_option maxRecDepth 20000
theorem growB_ok(h:Nat) (N:Nat) (hn:N≤1000000000000):ACalls prog 137 [.d (.v (.slice none 0 0)),iD N] [] (fun r L=>r= .ret (.rv h)∧L=[(h,.row 5 1 (dd []))]):=by
 refine ACalls.rowR h ?_
 have h0:¬(N:Int) < 0:=by omega
 have h64:inR .i64 (N:Int):=iW
 refine ACalls.run func137 rfl (by simp [f137]) ?_;simp [f137]
 refine⟨fun h=>absurd h h0,?_⟩
 refine AOps.quietT rfl (by simp) (OpT.capNil rfl rfl (by simp)) (runC_sound _ _ [] rfl fun bs=>?_)
 have e0:inR .i64 0:=iW
 by_cases hN:0 < N
 ·simp [-cB,e0,h64,hN]
  refine AOps.quietT rfl (by simp) (OpT.capNil rfl rfl (by simp)) (runC_sound _ _ [] rfl fun bs=>?_)
  simp [-cB]
  refine AOps.quietT rfl (by simp) (OpT.cutNil rfl rfl (by simp) (by simp)) (runC_sound _ _ [] rfl fun bs=>?_)
  simp [-cB]
  refine AOps.loud rfl (by simp) (growZL (h:=22) (N:=N) (k:=1) (by_:=1) (kq:= .i64) (kn:= .i64) tySl_34 (by kernel_rfl) (by simp) (by simp) (by decide) (by simp) hN (by omega)) ?_
  rintro x s' ⟨rfl,rfl⟩
  refine runC_sound _ _ [] rfl fun bs=>?_
  simp [-cB]
 ·simp [-cB,e0,h64,hN]
def sumB(ll:List (List Int)):Nat:=(ll.map List.length).sum
theorem concatB_ok(ll:List (List Int)) (hl:ll.length≤1000) (hs:sumB ll≤1000000000000):Pure prog 90 [.d (.sl (encSl encY ll))] (.d (.sl (encY ll.flatten))):=by
 refine rn func90 ?_;simp [-cB,f90]
 refine AWP.loopL [0,3,9,10,11] ll (fun pre=> [(3,iD (sumB pre)),(11,iD pre.length)]) (fun _=> []) (fun _=>True) (by rfl) (by omega) (by simp [sumB]) ?_ ?_
 ·rintro pre x post hsp-hlt hge a4
  have hsx:sumB (pre++ [x])=sumB pre+x.length:=by simp [sumB]
  have hle:sumB pre+x.length≤sumB ll:=by rw [hsp];simp [sumB]
  clear hsp
  have h64:inR .i64 ((sumB pre:Int)+x.length):=iW
  have h0:¬((sumB pre:Int)+x.length) < 0:=by omega
  simp [-cB, *]
 ·intro _
  simp [-cB]
  refine eD [] ((growB_ok 5101 (sumB ll) hs)) ?_
  simp [-cB]
  refine AWP.loopL [6,25,26,27] ll (fun pre=> [(6,.rv 5101),(27,iD pre.length)]) (fun pre=> [(5101,.row 5 1 (dd (encY pre.flatten)))]) (fun _=>True) (by rfl) (by omega) (by simp;rfl) ?_ ?_
  ·rintro pre x post hsp-hlt hge a4
   have hle:pre.flatten.length+x.length≤sumB ll:=by rw [hsp];simp [sumB,List.length_flatten]
   clear hsp
   simp [-cB, *]
   rw [List.length_flatten]at hle
   exact⟨encY_one _,by omega⟩
  ·intro _
   simp [-cB]
theorem enc3(k:Nat) (a b c:Int):List.drop k (List.take 3 (encY [a,b,c]))=encY (List.drop k [a,b,c]):=by
 rw [List.take_of_length_le (by simp)]
 exact List.map_drop.symm
theorem opEncode_ok(i:GIns):Pure prog 50 [.agg (i.enc.map .d)] (.d (.sl (encY (encM i)))):=by
 have hk:=opKnown_ok i.Op
 have hh:=opHas_ok i.Op
 have hw:=wrap_ok i.Arg
 unfold encM
 by_cases h1:i.Op < 1∨38≤i.Op
 ·rw [if_pos h1]
  refine rn func50 ?_;simp [-cB,f50]
  intro bs
  refine pC hk ?_
  by_cases h2:i.Op=38
  ·simp [-cB,h2]
   rfl
  ·have hkb:(decide (1≤i.Op) && decide (i.Op≤38))=false:=by simp;omega
   simp [-cB,hkb]
   rfl
 ·rw [if_neg h1]
  have hkb:(decide (1≤i.Op) && decide (i.Op≤38))=true:=by simp;omega
  have h38:¬i.Op=38:=by omega
  have hs:=opSize_ok (argE i)
  have hb:=argE_bd i
  have h64a:inR .i64 (4 *i.Op):=iW
  obtain⟨n,hn⟩:∃n,bytesM (argE i)=n:=⟨_,rfl⟩
  have hn2:n≤2:=by rw [←hn];exact bytesM_le _
  rw [hn]at hs ⊢
  obtain⟨A,hA⟩:∃A,argE i=A:=⟨_,rfl⟩
  rw [hA]at hs hb ⊢
  have h64b:inR .i64 (4 *i.Op+n):=iW
  have h64c:inR .i64 (3-(n:Int)):=iW
  have hn3:(3-(n:Int)).toNat=3-n:=by omega
  have u2:IntKind.u8.wrap (A.fdiv (2 ^ min 8 IntKind.i64.bits))=A / 256 % 256:=by
   rw [show((2:Int) ^ min 8 IntKind.i64.bits)=256 by decide,Int.fdiv_eq_ediv_of_nonneg _ (by decide)];rfl
  have u3:IntKind.u8.wrap A=A % 256:=rfl
  have hc:=concatB_ok [[4 *i.Op+n],[4 *i.Op+n,A / 256 % 256,A % 256].drop (3-n)] (by simp) (by simp [sumB];omega)
  have hfl:[[4 *i.Op+(n:Int)],[4 *i.Op+n,A / 256 % 256,A % 256].drop (3-n)].flatten=encK i.Op A n:=by
   match n,hn2 with
   | 0,_=>simp [encK,argB]
   | 1,_=>simp [encK,argB]
   | 2,_=>simp [encK,argB]
  rw [hfl]at hc
  have u1:IntKind.u8.wrap (4 *i.Op+n)=4 *i.Op+n:=inR_wrap ⟨by show(0:Int)≤_;omega,by show _≤(255:Int);omega⟩
  refine rn func50 ?_;simp [-cB,f50]
  intro bs
  refine pC hk ?_
  simp [-cB,hkb,h38]
  refine pC hh ?_
  unfold argE at hA
  cases hha:hasA i.Op with
  | true=>
    rw [hha,if_pos rfl]at hA
    rw [hA]at hw
    simp [-cB]
    refine pC hw ?_
    simp [-cB]
    refine pC hs ?_
    simp [-cB,h64a,h64b,u1,u2,u3]
    refine AWP.weaken (Wk.freeze 34 (ys:=encY [4 *i.Op+n,A / 256 % 256,A % 256]) (by rfl)) ?_
    simp [-cB]
    refine AWP.regionT [some (0,0),some (0,0),some (0,0),some (0,0),some (0,0),some (0,0),some (0,0),some (0,0),some (0,0)] [36,40,41] [.d (.sl (encY [4 *i.Op+n])),.d (.sl (encY ([4 *i.Op+n,A / 256 % 256,A % 256].drop (3-n)))),.d (.sl (encSl encY [[4 *i.Op+n],[4 *i.Op+n,A / 256 % 256,A % 256].drop (3-n)])),.d (.sl (encY (encK i.Op A n)))] tmix (by kernel_rfl) ?_
    simp [-cB,h64c]
    exact⟨yop_slice rfl rfl (by simp [sliceV,bndV];exact⟨rfl,Iff.rfl⟩) (encY_one _),yop_slice rfl rfl (by simp [sliceV,bndV,hn3];exact⟨enc3 _ _ _ _,Iff.rfl⟩) (by exact⟨by omega,encY_one _⟩),yop_build tySl_153 (by decide) (by decide) rfl (by first | (simp;done) | (simp;decide)) (by simp [dd,encSl]) rfl (by simp [encSl]),hc.ok _⟩
  | false=>
    rw [hha]at hA
    simp only [Bool.false_eq_true,if_false]at hA
    subst hA
    simp [-cB]
    refine pC hs ?_
    simp [-cB,h64a,h64b,u1]
    refine AWP.weaken (Wk.freeze 34 (ys:=encY [4 *i.Op+n,(0:Int) / 256 % 256,(0:Int) % 256]) (by rfl)) ?_
    simp [-cB]
    refine AWP.regionT [some (0,0),some (0,0),some (0,0),some (0,0),some (0,0),some (0,0),some (0,0),some (0,0),some (0,0)] [36,40,41] [.d (.sl (encY [4 *i.Op+n])),.d (.sl (encY ([4 *i.Op+n,(0:Int) / 256 % 256,(0:Int) % 256].drop (3-n)))),.d (.sl (encSl encY [[4 *i.Op+n],[4 *i.Op+n,(0:Int) / 256 % 256,(0:Int) % 256].drop (3-n)])),.d (.sl (encY (encK i.Op 0 n)))] tmix (by kernel_rfl) ?_
    simp [-cB,h64c]
    exact⟨yop_slice rfl rfl (by simp [sliceV,bndV];exact⟨rfl,Iff.rfl⟩) (encY_one _),yop_slice rfl rfl (by simp [sliceV,bndV,hn3];exact⟨enc3 _ _ _ _,Iff.rfl⟩) (by exact⟨by omega,encY_one _⟩),yop_build tySl_153 (by decide) (by decide) rfl (by first | (simp;done) | (simp;decide)) (by simp [dd,encSl]) rfl (by simp [encSl]),hc.ok _⟩
end Go.Ab
namespace Go.Ab
def farI(z:Zl) (i:Nat) (x:GIns):Int:=farZ z x.Arg (lenZ (z.take (i+1)))
def growP(z:Zl) (i:Nat):Option Zl:=
 match z[i]? with
 | some p=>if jmp p.1.Op=true∧p.2 < bytesM (farI z i p.1)then some (z.set i (p.1,bytesM (farI z i p.1)))else none
 | none=>none
def passP:Nat→Nat→Zl→Bool→Zl×Bool
 | 0,_,z,b=>(z,b)
 | n+1,i,z,b=>match growP z i with
   | some z'=>passP n (i+1) z' true
   | none=>passP n (i+1) z b
def sizesP:Nat→Zl→Option Zl
 | 0,_=>none
 | g+1,z=>if(passP z.length 0 z false).2=true then sizesP g (passP z.length 0 z false).1 else some (passP z.length 0 z false).1
def OutZ(z:Zl):Prop:=∃i p,z[i]?=some p∧jmp p.1.Op=true∧int16B (farI z i p.1)=false
instance (z:Zl) (i:Nat) (p:GIns×Nat):Decidable (jmp p.1.Op=true∧int16B (farI z i p.1)=false):=inferInstance
def outF(w:Zl):Nat→Zl→Bool
 | _,[]=>false
 | i,p::z=>(jmp p.1.Op &&!int16B (farI w i p.1)) || outF w (i+1) z
def asmP(l:List GIns):List Int×Int:=
 if wrongM l≠0 then([],wrongM l)
 else match sizesP (3 *l.length+1) (zipZ l)with
  | some z=>if 65536 < lenZ z then([],3)else if outF z 0 z=true then([],3)else(codeZ z 0 z,0)
  | none=>([],3)
def leZ:Zl→Zl→Prop
 | [],[]=>True
 | p::a,q::b=>p.1=q.1∧p.2≤q.2∧leZ a b
 | _,_=>False
theorem leZ_refl:∀z,leZ z z
 | []=>trivial
 | p::z=>⟨rfl,Nat.le_refl _,leZ_refl z⟩
theorem leZ_trans:∀{a b c:Zl},leZ a b→leZ b c→leZ a c
 | [],[],[],_,_=>trivial
 | p::a,q::b,r::c,h,k=>⟨h.1.trans k.1,Nat.le_trans h.2.1 k.2.1,leZ_trans h.2.2 k.2.2⟩
 | [],[],_::_,_,k=>k.elim
 | [],_::_,_,h,_=>h.elim
 | _::_,[],_,h,_=>h.elim
 | _::_,_::_,[],_,k=>k.elim
theorem leZ_len:∀{a b:Zl},leZ a b→a.length=b.length
 | [],[],_=>rfl
 | p::a,q::b,h=>by simp [leZ_len h.2.2]
 | [],_::_,h=>h.elim
 | _::_,[],h=>h.elim
theorem leZ_get:∀{a b:Zl},leZ a b→∀(i:Nat) (p:GIns×Nat),a[i]?=some p→∃q,b[i]?=some q∧p.1=q.1∧p.2≤q.2
 | [],[],_,i,p,h=>by simp at h
 | x::a,y::b,h,0,p,hp=>by simp at hp;subst hp;exact⟨y,by simp,h.1,h.2.1⟩
 | x::a,y::b,h,i+1,p,hp=>by simpa using leZ_get h.2.2 i p (by simpa using hp)
 | [],_::_,h,_,_,_=>h.elim
 | _::_,[],h,_,_,_=>h.elim
theorem leZ_set:∀{z:Zl} {i:Nat} {p:GIns×Nat} {n:Nat},z[i]?=some p→p.2≤n→leZ z (z.set i (p.1,n))
 | [],i,p,n,h,_=>by simp at h
 | x::z,0,p,n,h,hn=>by simp at h;subst h;exact⟨rfl,hn,leZ_refl z⟩
 | x::z,i+1,p,n,h,hn=>⟨rfl,Nat.le_refl _,leZ_set (by simpa using h) hn⟩
theorem lenP_mono {p q:GIns×Nat} (h:p.1=q.1) (k:p.2≤q.2):lenP p≤lenP q:=by
 unfold lenP;rw [h];split
 ·exact Nat.le_refl _
 ·split <;> omega
theorem leZ_seg:∀{a b:Zl},leZ a b→∀i j,i≤j→lenZ (a.take j)+lenZ (b.take i)≤lenZ (b.take j)+lenZ (a.take i)
 | [],[],_,i,j,_=>by simp
 | p::a,q::b,h,0,0,_=>by simp
 | p::a,q::b,h,0,j+1,_=>by
   have:=leZ_seg h.2.2 0 j (by omega)
   have:=lenP_mono h.1 h.2.1
   simp only [List.take_succ_cons,lenZ_cons,List.take_zero]at *
   simp [lenZ]at *;omega
 | p::a,q::b,h,i+1,j+1,hij=>by
   have:=leZ_seg h.2.2 i j (by omega)
   simp only [List.take_succ_cons,lenZ_cons];omega
 | p::a,q::b,h,i+1,0,hij=>by omega
 | [],_::_,h,_,_,_=>h.elim
 | _::_,[],h,_,_,_=>h.elim
theorem lenZ_take_le:∀(z:Zl) (i j:Nat),i≤j→lenZ (z.take i)≤lenZ (z.take j)
 | [],i,j,_=>by simp
 | p::z,0,j,_=>by simp [lenZ]
 | p::z,i+1,j+1,h=>by
   have:=lenZ_take_le z i j (by omega)
   simp only [List.take_succ_cons,lenZ_cons];omega
 | p::z,i+1,0,h=>by omega
def labX(n:Int):Zl→Option Nat
 | []=>none
 | p::z=>if p.1.Op=38∧p.1.Arg=n then some 0 else(labX n z).map (· +1)
theorem labX_at(n:Int):∀z:Zl,labAt z n=(labX n z).map fun j=>lenZ (z.take j)
 | []=>rfl
 | p::z=>by
   rw [labAt,labX,labX_at n z]
   split
   ·simp [lenZ]
   ·cases labX n z with
    | none=>rfl
    | some j=>simp [lenZ_cons]
theorem leZ_labX(n:Int):∀{a b:Zl},leZ a b→labX n a=labX n b
 | [],[],_=>rfl
 | p::a,q::b,h=>by rw [labX,labX,h.1,leZ_labX n h.2.2]
 | [],_::_,h=>h.elim
 | _::_,[],h=>h.elim
theorem far_mono {a b:Zl} (h:leZ a b) (i:Nat) (x:GIns) (ho:int16B (farI a i x)=false):int16B (farI b i x)=false:=by
 have e:∀z:Zl,((labAt z x.Arg).getD 0:Nat)=lenZ (z.take ((labX x.Arg z).getD 0)):=fun z=>by
  rw [labX_at];cases labX x.Arg z <;> simp [lenZ]
 unfold int16B farI farZ at *
 rw [e]at *
 rw [←leZ_labX x.Arg h]
 generalize (labX x.Arg a).getD 0=j at *
 simp only [Bool.and_eq_false_iff,decide_eq_false_iff_not]at *
 rcases Nat.le_total j (i+1)with hji | hji
 ·have h1:=leZ_seg h j (i+1) hji
  have h3:=lenZ_take_le a j (i+1) hji
  omega
 ·have h1:=leZ_seg h (i+1) j hji
  have h3:=lenZ_take_le a (i+1) j hji
  omega
theorem growI_far(z:Zl) (i:Nat):growI z i=match z[i]? with
 | some p=>if jmp p.1.Op=true∧p.2 < fitsM (farI z i p.1)then some (z.set i (p.1,fitsM (farI z i p.1)))else none
 | none=>none:=rfl
theorem bytes_two {n:Int} (h:int16B n=false):bytesM n=2:=by unfold int16B at h;unfold bytesM;simp at h;split <;> (try split) <;> omega
theorem bytesM_two(n:Int):bytesM n≤2:=by unfold bytesM;split <;> (try split) <;> omega
def small2(z:Zl):Prop:=∀p∈z,p.2≤2
def badZ(z:Zl):Prop:=∃(i:Nat) (p:GIns×Nat),z[i]?=some p∧jmp p.1.Op=true∧3≤p.2
theorem growI_le {z z':Zl} {i:Nat} (h:growI z i=some z'):leZ z z':=by
 rw [growI_far]at h
 split at h
 ·rename_i p hp
  split at h
  ·rename_i hc;cases h;exact leZ_set hp (by omega)
  ·cases h
 ·cases h
theorem growP_le {z z':Zl} {i:Nat} (h:growP z i=some z'):leZ z z':=by
 unfold growP at h
 split at h
 ·rename_i p hp
  split at h
  ·rename_i hc;cases h;exact leZ_set hp (by omega)
  ·cases h
 ·cases h
theorem bad_le {a b:Zl} (h:leZ a b) (k:badZ a):badZ b:=by
 obtain⟨i,p,h1,h2,h3⟩:=k
 obtain⟨q,h4,h5,h6⟩:=leZ_get h i p h1
 exact⟨i,q,h4,by rw [←h5];exact h2,by omega⟩
theorem out_le {a b:Zl} (h:leZ a b) (k:OutZ a):OutZ b:=by
 obtain⟨i,p,h1,h2,h3⟩:=k
 obtain⟨q,h4,h5,h6⟩:=leZ_get h i p h1
 exact⟨i,q,h4,by rw [←h5];exact h2,by rw [←h5];exact far_mono h i p.1 h3⟩
def R3(a:Zl×Bool) (b:Zl×Bool):Prop:=(a=b∧small2 a.1)∨(badZ a.1∧OutZ b.1)
theorem grow_rel {z:Zl} (hs:small2 z) (i:Nat):(growI z i=growP z i∧∀z',growP z i=some z'→small2 z')∨(badZ ((growI z i).getD z)∧OutZ ((growP z i).getD z)):=by
 rw [growI_far]
 unfold growP
 cases hp:z[i]? with
 | none=>exact .inl ⟨rfl,fun z' h=>by cases h⟩
 | some p=>
   dsimp only
   obtain⟨hi,he⟩:=List.getElem?_eq_some_iff.1 hp
   by_cases hj:jmp p.1.Op=true
   ·cases ho:int16B (farI z i p.1)with
    | true=>
      have e:fitsM (farI z i p.1)=bytesM (farI z i p.1):=by unfold fitsM;rw [if_pos ho]
      rw [e]
      refine .inl ⟨rfl,fun z' h=>?_⟩
      split at h
      ·cases h
       intro q hq
       rcases List.mem_or_eq_of_mem_set hq with hq | hq
       ·exact hs q hq
       ·rw [hq];exact bytesM_two _
      ·cases h
    | false=>
      have e:fitsM (farI z i p.1)=3:=by unfold fitsM;rw [ho];rfl
      have hp2:=hs p (List.mem_of_getElem? hp)
      rw [e,bytes_two ho,if_pos ⟨hj,by omega⟩]
      have oz:OutZ z:=⟨i,p,hp,hj,ho⟩
      refine .inr ⟨⟨i,(p.1,3),by simp [hi],hj,Nat.le_refl _⟩,?_⟩
      split
      ·rename_i hc
       exact out_le (leZ_set hp (by omega)) oz
      ·exact oz
   ·rw [if_neg (fun h=>hj h.1),if_neg (fun h=>hj h.1)]
    exact .inl ⟨rfl,fun z' h=>by cases h⟩
theorem passM_le:∀(n i:Nat) (z:Zl) (f:Bool),leZ z (passM n i z f).1
 | 0,i,z,f=>leZ_refl z
 | n+1,i,z,f=>by
   rw [passM]
   cases hg:growI z i with
   | none=>exact passM_le n (i+1) z f
   | some z'=>exact leZ_trans (growI_le hg) (passM_le n (i+1) z' true)
theorem passP_le:∀(n i:Nat) (z:Zl) (f:Bool),leZ z (passP n i z f).1
 | 0,i,z,f=>leZ_refl z
 | n+1,i,z,f=>by
   rw [passP]
   cases hg:growP z i with
   | none=>exact passP_le n (i+1) z f
   | some z'=>exact leZ_trans (growP_le hg) (passP_le n (i+1) z' true)
theorem pass_rel:∀(n i:Nat) (z:Zl) (f:Bool),small2 z→R3 (passM n i z f) (passP n i z f)
 | 0,i,z,f,h=> .inl ⟨rfl,h⟩
 | n+1,i,z,f,h=>by
   rw [passM,passP]
   rcases grow_rel h i with⟨e,hs⟩ | ⟨h1,h2⟩
   ·rw [e]
    cases hg:growP z i with
    | none=>exact pass_rel n (i+1) z f h
    | some z'=>exact pass_rel n (i+1) z' true (hs z' hg)
   ·refine .inr ⟨?_,?_⟩
    ·cases hg:growI z i with
     | none=>rw [hg]at h1;exact bad_le (passM_le ..) h1
     | some z'=>rw [hg]at h1;exact bad_le (passM_le ..) h1
    ·cases hg:growP z i with
     | none=>rw [hg]at h2;exact out_le (passP_le ..) h2
     | some z'=>rw [hg]at h2;exact out_le (passP_le ..) h2
theorem sizesM_le:∀(g:Nat) (z z':Zl),sizesM g z=some z'→leZ z z'
 | 0,z,z',h=>by cases h
 | g+1,z,z',h=>by
   rw [sizesM]at h
   split at h
   ·exact leZ_trans (passM_le ..) (sizesM_le g _ _ h)
   ·cases h;exact passM_le ..
theorem sizesP_le:∀(g:Nat) (z z':Zl),sizesP g z=some z'→leZ z z'
 | 0,z,z',h=>by cases h
 | g+1,z,z',h=>by
   rw [sizesP]at h
   split at h
   ·exact leZ_trans (passP_le ..) (sizesP_le g _ _ h)
   ·cases h;exact passP_le ..
theorem sizes_rel:∀(g g':Nat) (z a b:Zl),small2 z→sizesM g z=some a→sizesP g' z=some b→(a=b∧small2 a)∨(badZ a∧OutZ b)
 | 0,g',z,a,b,_,h,_=>by cases h
 | g+1,0,z,a,b,_,_,h=>by cases h
 | g+1,g'+1,z,a,b,hs,h,k=>by
   rw [sizesM]at h
   rw [sizesP]at k
   rcases pass_rel z.length 0 z false hs with⟨e,h2⟩ | ⟨h1,h2⟩
   ·rw [←e]at k
    split at h
    ·rename_i hf
     rw [if_pos hf]at k
     exact sizes_rel g g' _ a b h2 h k
    ·rename_i hf
     rw [if_neg hf]at k
     cases h;cases k
     exact .inl ⟨rfl,h2⟩
   ·refine .inr ⟨?_,?_⟩
    ·split at h
     ·exact bad_le (sizesM_le _ _ _ h) h1
     ·cases h;exact h1
    ·split at k
     ·exact out_le (sizesP_le _ _ _ k) h2
     ·cases k;exact h2
theorem growP_sz {z z':Zl} {i:Nat} (h:growP z i=some z'):szZ z < szZ z'∧(small2 z→small2 z'):=by
 unfold growP at h
 split at h
 ·rename_i p hp
  obtain⟨hi,he⟩:=List.getElem?_eq_some_iff.1 hp
  split at h
  ·rename_i hc
   cases h
   refine⟨?_,fun hs q hq=>?_⟩
   ·unfold szZ
    rw [List.map_set]
    have:=set_sum (z.map Prod.snd) i (bytesM (farI z i p.1)) (by simpa using hi)
    simp only [List.getElem_map,he]at this
    have h7:=hc.2
    simp only at this ⊢
    omega
   ·rcases List.mem_or_eq_of_mem_set hq with hq | hq
    ·exact hs q hq
    ·rw [hq];exact bytesM_two _
  ·cases h
 ·cases h
theorem passP_sz:∀(n i:Nat) (z:Zl) (f:Bool),small2 z→small2 (passP n i z f).1∧szZ z≤szZ (passP n i z f).1∧((passP n i z f).2=true→f=true∨szZ z < szZ (passP n i z f).1)
 | 0,i,z,f,h=>⟨h,Nat.le_refl _,.inl⟩
 | n+1,i,z,f,h=>by
   rw [passP]
   cases hg:growP z i with
   | none=>exact passP_sz n (i+1) z f h
   | some z'=>
     obtain⟨s1,s2⟩:=growP_sz hg
     obtain⟨a1,a2,a3⟩:=passP_sz n (i+1) z' true (s2 h)
     exact⟨a1,by simp only;omega,fun _=> .inr (by simp only;omega)⟩
theorem szZ_two:∀(z:Zl),small2 z→szZ z≤2 *z.length
 | [],_=>by simp [szZ]
 | p::z,h=>by
   have h1:=szZ_two z (fun q hq=>h q (by simp [hq]))
   have h2:=h p (by simp)
   simp only [szZ,List.map_cons,List.sum_cons,List.length_cons]at h1 ⊢
   omega
theorem sizesP_ok:∀(g:Nat) (z:Zl),small2 z→2 *z.length < g+szZ z→∃z',sizesP g z=some z'
 | 0,z,h,hg=>by have:=szZ_two z h;omega
 | g+1,z,h,hg=>by
   obtain⟨a1,a2,a3⟩:=passP_sz z.length 0 z false h
   have hl:=leZ_len (passP_le z.length 0 z false)
   rw [sizesP]
   by_cases hb:(passP z.length 0 z false).2=true
   ·rw [if_pos hb]
    have h4:=(a3 hb).resolve_left (by simp)
    exact sizesP_ok g _ a1 (by rw [←hl];omega)
   ·rw [if_neg hb];exact⟨_,rfl⟩
theorem outF_iff(w:Zl):∀(i:Nat) (z:Zl),outF w i z=true↔∃(j:Nat) (p:GIns×Nat),z[j]?=some p∧jmp p.1.Op=true∧int16B (farI w (i+j) p.1)=false
 | i,[]=>by simp [outF]
 | i,p::z=>by
   rw [outF,Bool.or_eq_true,outF_iff w (i+1) z]
   constructor
   ·rintro(h | ⟨j,q,h1,h2,h3⟩)
    ·simp only [Bool.and_eq_true,Bool.not_eq_true']at h
     exact⟨0,p,rfl,h.1,by simpa using h.2⟩
    ·exact⟨j+1,q,by simpa using h1,h2,by rw [show i+(j+1)=i+1+j by omega];exact h3⟩
   ·rintro⟨j,q,h1,h2,h3⟩
    cases j with
    | zero=>
      simp at h1;subst h1
      exact .inl (by simp only [Bool.and_eq_true,Bool.not_eq_true'];exact⟨h2,by simpa using h3⟩)
    | succ j=>exact .inr ⟨j,q,by simpa using h1,h2,by rw [show i+1+j=i+(j+1) by omega];exact h3⟩
theorem asmP_eq(l:List GIns):asmP l=asmM l:=by
 unfold asmP asmM
 by_cases hw:wrongM l=0
 ·rw [if_neg (by simpa using hw),if_neg (by simpa using hw)]
  have hs:small2 (zipZ l):=by intro p hp;obtain⟨i,_,rfl⟩:=List.mem_map.1 hp;simp
  have hz:(zipZ l).length=l.length:=by simp [zipZ]
  obtain⟨a,ha,hf,h3,hg⟩:=sizesM_ok (3 *l.length+1) (zipZ l) (by intro p hp;obtain⟨i,_,rfl⟩:=List.mem_map.1 hp;exact⟨by simp,fun _=>by simp⟩) (by rw [hz];omega)
  obtain⟨b,hb⟩:=sizesP_ok (3 *l.length+1) (zipZ l) hs (by rw [hz];omega)
  rw [ha,hb]
  dsimp only
  rcases sizes_rel _ _ _ _ _ hs ha hb with⟨rfl,h2⟩ | ⟨h1,h2⟩
  ·have e1:outF a 0 a=false:=by
    rw [Bool.eq_false_iff]
    intro ho
    obtain⟨j,p,k1,k2,k3⟩:=(outF_iff a 0 a).1 ho
    rw [Nat.zero_add]at k3
    have:=hg j
    rw [growI_far,k1]at this
    dsimp only at this
    have e:fitsM (farI a j p.1)=3:=by unfold fitsM;rw [k3];rfl
    have h5:=h2 p (List.mem_of_getElem? k1)
    rw [e,if_pos ⟨k2,by omega⟩]at this
    cases this
   have e2:(a.any fun p=>jmp p.1.Op && decide (p.2=3))=false:=by
    rw [List.any_eq_false]
    intro p hp
    have h5:=h2 p hp
    have:¬p.2=3:=by omega
    simp [this]
   rw [e1,e2]
  ·have e1:outF b 0 b=true:=(outF_iff b 0 b).2 (by obtain⟨j,p,k1,k2,k3⟩:=h2;exact⟨j,p,k1,k2,by rw [Nat.zero_add];exact k3⟩)
   have e2:(a.any fun p=>jmp p.1.Op && decide (p.2=3))=true:=by
    obtain⟨i,p,k1,k2,k3⟩:=h1
    have hm:=List.mem_of_getElem? k1
    have h5:=(h3 p hm).1
    rw [List.any_eq_true]
    exact⟨p,hm,by simp only [Bool.and_eq_true,decide_eq_true_eq];exact⟨k2,by omega⟩⟩
   rw [e1,e2]
   simp
 ·rw [if_pos hw,if_pos hw]
end Go.Ab
namespace Go.Ab
open Go.Proofs Go.Proofs.Tryz
set_option maxHeartbeats 4000000
set_option maxRecDepth 20000
def namesW:List ByteArray:=[⟨#[]⟩,⟨#[112,117,115,104]⟩,⟨#[112,111,112]⟩,⟨#[103,108,111,98,97,108]⟩,⟨#[112,117,116,103,108,111,98,97,108]⟩,⟨#[108,111,99,97,108]⟩,⟨#[112,117,116,108,111,99,97,108]⟩,⟨#[115,101,108,102]⟩,⟨#[98,105,110]⟩,⟨#[110,101,103]⟩,⟨#[110,111,116]⟩,⟨#[116,101,115,116]⟩,⟨#[104,97,115]⟩,⟨#[112,114,111,112]⟩,⟨#[112,117,116]⟩,⟨#[115,101,116]⟩,⟨#[117,110,115,101,116]⟩,⟨#[109,111,118,101]⟩,⟨#[114,101,109,111,118,101]⟩,⟨#[116,114,101,101]⟩,⟨#[114,97,110,100,111,109]⟩,⟨#[116,101,120,116]⟩,⟨#[110,117,109]⟩,⟨#[116,105,116,108,101]⟩,⟨#[106,117,109,112]⟩,⟨#[122,101,114,111]⟩,⟨#[99,97,108,108]⟩,⟨#[114,101,116,117,114,110]⟩,⟨#[115,116,111,112]⟩,⟨#[119,105,110]⟩,⟨#[108,111,115,101]⟩,⟨#[97,119,97,114,100]⟩,⟨#[115,116,97,114,116]⟩,⟨#[104,97,108,116]⟩,⟨#[116,114,97,118,101,108]⟩,⟨#[108,111,111,107]⟩,⟨#[108,105,115,116]⟩,⟨#[116,105,99,107]⟩,⟨#[108,97,98,101,108]⟩]
@[simp] theorem names_ons:V.ons [] (List.map (fun s=>V.d (D.v (Value.string s))) namesW)=true:=rfl
theorem opNames_ok:Pure prog 135 [] (.agg (namesW.map fun s=> .d (.v (.string s)))):=by
 refine rn func135 ?_;simp [-cB,f135]
 rfl
def nameW(n:Int):ByteArray:=if 1≤n∧n≤38 then(namesW[n.toNat]?).getD ⟨#[]⟩else⟨#[]⟩
theorem names_no:∀k:Fin 39,1≤k.1→(namesW[k.1]?).getD ⟨#[]⟩≠(⟨#[]⟩:ByteArray):=by decide
theorem nameW_nil(n:Int):nameW n=⟨#[]⟩↔¬(1≤n∧n≤38):=by
 unfold nameW
 by_cases h:1≤n∧n≤38
 ·rw [if_pos h]
  have:=names_no ⟨n.toNat,by omega⟩ (by show 1≤n.toNat;omega)
  exact⟨fun e=>absurd e this,fun e=>absurd h e⟩
 ·rw [if_neg h];simp [h]
theorem opName_ok(n:Int):Pure prog 85 [iD n] (.d (.v (.string (nameW n)))):=by
 have hk:=opKnown_ok n
 by_cases h:1≤n∧n≤38
 ·have hkb:(decide (1≤n) && decide (n≤38))=true:=by simp;omega
  have hl:n.toNat < namesW.length:=by simp [namesW];omega
  have e:nameW n=namesW[n.toNat]:=by unfold nameW;rw [if_pos h];simp [hl]
  rw [e]
  refine rn func85 ?_;simp [-cB,f85]
  refine pC hk ?_
  simp [-cB,hkb]
  refine pC opNames_ok ?_
  simp [-cB]
  refine⟨⟨by omega,rfl⟩,?_⟩
  rw [List.getElem?_eq_getElem hl];rfl
 ·have hkb:(decide (1≤n) && decide (n≤38))=false:=by simp;omega
  have e:nameW n=⟨#[]⟩:=(nameW_nil n).2 h
  rw [e]
  refine rn func85 ?_;simp [-cB,f85]
  refine pC hk ?_
  simp [-cB,hkb]
theorem asks_ok(i:GIns):Pure prog 51 [.agg (i.enc.map .d)] (oD (jmp i.Op)):=by
 unfold jmp
 refine rn func51 ?_;simp [-cB,f51]
theorem need_ok(n:Int):Pure prog 91 [iD n] (iD (bytesM n)):=by
 unfold bytesM
 by_cases h0:n=0
 ·subst h0
  refine rn func91 ?_;simp [-cB,f91]
 ·by_cases h1: -128≤n∧n≤127
  ·refine rn func91 ?_;simp [-cB,f91]
   repeat' (first
    | (with_reducible refine And.intro ?_ ?_)
    | (refine condC_split (fun h=>?_) (fun h=>?_) <;> (try simp at h) <;> (try simp [-cB, *]))
    | (with_reducible intro _))
   all_goals (try omega)
  ·refine rn func91 ?_;simp [-cB,f91]
   repeat' (first
    | (with_reducible refine And.intro ?_ ?_)
    | (refine condC_split (fun h=>?_) (fun h=>?_) <;> (try simp at h) <;> (try simp [-cB, *]))
    | (with_reducible intro _))
   all_goals (try omega)
def setK(ks:List Int):List (Int×Bool):=ks.foldl (fun m k=>lput m k true) []
theorem map_look {α:Type} (k j:Int) (a:α):∀l:List (Int×α),(l.map (fun p=>if p.1==k then(k,a)else p)).lookup j=if j=k then(if l.any (fun p=>p.1==k)=true then some a else none)else l.lookup j
 | []=>by simp
 | p::l=>by
   rw [List.map_cons]
   by_cases hp:p.1=k
   ·have e:(p.1==k)=true:=by simpa using hp
    simp only [e,if_true,List.any_cons,Bool.true_or]
    by_cases hj:j=k
    ·simp [hj,List.lookup_cons]
    ·have e1:(j==k)=false:=by simpa using hj
     rw [if_neg hj,List.lookup_cons,List.lookup_cons,e1,hp,e1]
     simp only [Bool.false_eq_true,if_false]
     rw [map_look k j a l,if_neg hj]
   ·have e:(p.1==k)=false:=by simpa using hp
    simp only [e,Bool.false_eq_true,if_false,List.any_cons,Bool.false_or]
    obtain⟨x,y⟩:=p
    by_cases hj:j=x
    ·have hjk:¬j=k:=by rw [hj];exact hp
     simp [hj,List.lookup_cons,hp]
     try (intro h;exact absurd h hp)
    ·have e1:(j==x)=false:=by simpa using hj
     rw [List.lookup_cons,List.lookup_cons,e1]
     simp only [Bool.false_eq_true,if_false]
     exact map_look k j a l
theorem lput_look {α:Type} (l:List (Int×α)) (k j:Int) (a:α):(lput l k a).lookup j=if j=k then some a else l.lookup j:=by
 unfold lput
 split
 ·next h=>
  rw [map_look,h];rfl
 ·next h=>
  rw [List.lookup_append]
  by_cases hj:j=k
  ·have:l.lookup j=none:=by
    rw [List.lookup_eq_none_iff]
    intro p hp
    rw [Bool.not_eq_true,List.any_eq_false]at h
    have:=h p hp
    simp at this ⊢
    rw [hj];exact fun e=>this e.symm
   rw [this,if_pos hj];simp [hj]
  ·have e1:(j==k)=false:=by simpa using hj
   rw [if_neg hj];simp [List.lookup_cons,e1]
theorem setK_app(a:List Int) (k:Int):setK (a++ [k])=lput (setK a) k true:=by simp [setK]
theorem fold_look(j:Int):∀(a:List Int) (m:List (Int×Bool)),(a.foldl (fun m k=>lput m k true) m).lookup j=if a.contains j=true then some true else m.lookup j
 | [],m=>by simp
 | k::a,m=>by
   rw [List.foldl_cons,fold_look j a,lput_look,List.contains_cons]
   by_cases hj:j=k
   ·simp [hj]
   ·have e:(j==k)=false:=by simpa using hj
    simp [hj,e]
theorem setK_look(a:List Int) (j:Int):(setK a).lookup j=if a.contains j=true then some true else none:=by
 unfold setK;rw [fold_look];rfl
end Go.Ab
namespace Go.Ab
open Go.Proofs Go.Proofs.Tryz
set_option maxHeartbeats 4000000
set_option maxRecDepth 20000
def bolE(b:Bool):D:= .v (.bool b)
def setM(a:List Int):List ME:=encM1 bolE (setK a)
@[simp] theorem setM_fits(a:List Int):fitsAll (.int .i64) (setM a)=true:=fits_encM1 _ _
@[simp] theorem setM_look(a:List Int) (j:Int):mlook (setM a) (.int .i64 j)=if a.contains j=true then some (boolV true)else none:=by
 unfold setM
 rw [mlook_encM1,setK_look]
 split <;> rfl
@[simp] theorem setM_put(a:List Int) (j:Int):mput (setM a) (.int .i64 j) false [.v (.bool true)]=setM (a++ [j]):=by
 unfold setM
 rw [setK_app];exact mput_encM1 bolE _ _ _
@[simp] theorem getD_set(b:Prop) [Decidable b]:(if b then some (V.d (D.v (Value.bool true)))else none).getD (V.d (D.v (Value.bool false)))=V.d (D.v (Value.bool (decide b))):=by by_cases h:b <;> simp [h]
theorem j38:jmp 38=false:=rfl
@[simp] theorem setM_nil:setM []=[]:=rfl
theorem labsL_snoc(l:List GIns) (x:GIns):labsL (l++ [x])=labsL l++(if x.Op=38 then [x.Arg]else []):=by
 rw [labsL_app]
 congr 1
 unfold labsL isLab
 by_cases h:x.Op=38 <;> simp [h]
theorem empB:(⟨#[]⟩:ByteArray).toList=[]:=by rw [ByteArray.toList_eq]
theorem int16_eq(n:Int):int16 n=int16B n:=rfl
theorem nameE(n:Int):(nameW n).toList.isEmpty=decide (n < 1∨38 < n):=by
 rw [Bool.eq_iff_iff,List.isEmpty_iff,decide_eq_true_eq]
 have h:=nameW_nil n
 constructor
 ·intro e
  have:nameW n=⟨#[]⟩:=(bytes_toList _ _).1 (e.trans empB.symm)
  have:=h.1 this
  omega
 ·intro e
  rw [h.2 (by omega)]
  exact empB
theorem wrongI_rest {l pre:List GIns} {x:GIns} (hj:jmp x.Op=false) (h38:¬x.Op=38):wrongI l pre x=if((nameW x.Op).toList.isEmpty || (!int16B x.Arg || (!hasA x.Op &&!decide (x.Arg=0))))=true then 16 else 0:=by
 unfold wrongI
 rw [nameE,if_neg (by rw [hj];simp),if_neg (fun h=>h38 h.1),if_neg (by rw [hj];simp [h38])]
 cases int16B x.Arg <;> cases hasA x.Op <;> by_cases h0:x.Arg=0 <;> by_cases h1:x.Op < 1 <;> by_cases h2:38 < x.Op <;> simp [h0,h1,h2]
theorem wrong_ok(l:List GIns) (hl:l.length≤1000000000):Pure prog 49 [.d (.sl (l.map GIns.enc))] (iD (wrongM l)):=by
 refine rn func49 ?_;simp [-cB,f49]
 refine AWP.loopL [0,3,10,11,12] l (fun pre=> [(12,iD pre.length)]) (fun pre=> [(9,.mp (setM (labsL pre)))]) (fun _=>True) (by rfl) (by omega) (by simp [labsL]) ?_ ?_
 ·rintro pre x post hsp-hlt hge a4
  clear hsp
  have hs:=labsL_snoc pre x
  by_cases h38:x.Op=38
  ·simp [h38]at hs
   simp [-cB, *]
  ·simp [h38]at hs
   simp [-cB, *]
 ·intro _
  simp [-cB]
  refine AWP.loopL [3,6,24,25,26] l (fun pre=> [(26,iD pre.length)]) (fun pre=> [(9,.mp (setM (labsL l))),(23,.mp (setM (labsL pre)))]) (fun pre=>wrongF l pre (l.drop pre.length)=wrongM l) (by rfl) (by omega) (by simp [labsL,wrongM]) ?_ ?_
  ·rintro pre x post hsp hw hlt hge a4
   have hpost:l.drop pre.length=x::post:=by rw [hsp];simp
   rw [hpost,wrongF]at hw
   have hs:=labsL_snoc pre x
   have hpx:l.drop (pre.length+1)=post:=by rw [hsp];simp
   have ha:=asks_ok x
   clear hsp hpost
   cases hj:jmp x.Op with
   | true=>
     have h38:¬x.Op=38:=by unfold jmp at hj;simp at hj;omega
     rw [if_neg h38,List.append_nil]at hs
     cases hc:(labsL l).contains x.Arg with
     | false=>
       have hw2:wrongI l pre x=11:=by unfold wrongI;rw [if_pos ⟨hj,hc⟩]
       rw [hw2,if_neg (by decide)]at hw
       simp [-cB,hlt,hge,a4]
       intro bs
       refine pC ha ?_
       simp only [List.contains_eq_mem]at hc
       simp [-cB,hj,hc,←hw]
     | true=>
       have hw2:wrongI l pre x=0:=by unfold wrongI;rw [if_neg (by rw [hc];simp),if_neg (fun h=>h38 h.1),if_pos (.inr hj)]
       rw [hw2,if_pos rfl]at hw
       simp [-cB,hlt,hge,a4]
       intro bs
       refine pC ha ?_
       simp only [List.contains_eq_mem]at hc
       simp [-cB,hj,hc,h38,j38]
       refine pC ha ?_
       simp [-cB,hj,hc,h38,j38,hs,a4,hpx,hw]
   | false=>
     by_cases h38:x.Op=38
     ·rw [if_pos h38]at hs
      cases hc:(labsL pre).contains x.Arg with
      | true=>
        have hw2:wrongI l pre x=10:=by unfold wrongI;rw [if_neg (by rw [hj];simp),if_pos ⟨h38,hc⟩]
        rw [hw2,if_neg (by decide)]at hw
        simp [-cB,hlt,hge,a4]
        intro bs
        refine pC ha ?_
        simp only [List.contains_eq_mem]at hc
        simp [-cB,hj,hc,h38,j38,←hw]
      | false=>
        have hw2:wrongI l pre x=0:=by unfold wrongI;rw [if_neg (by rw [hj];simp),if_neg (by rw [hc];simp),if_pos (.inl h38)]
        rw [hw2,if_pos rfl]at hw
        simp [-cB,hlt,hge,a4]
        intro bs
        refine pC ha ?_
        simp only [List.contains_eq_mem]at hc
        simp [-cB,hj,hc,h38,j38,hs,a4,hpx,hw]
     ·rw [if_neg h38,List.append_nil]at hs
      have hw2:=wrongI_rest (l:=l) (pre:=pre) hj h38
      have hI:=wIs_ok x.Arg
      have hH:=opHas_ok x.Op
      rw [int16_eq]at hI
      obtain⟨E,hE⟩:∃E,(nameW x.Op).toList.isEmpty=E:=⟨_,rfl⟩
      obtain⟨I,hI2⟩:∃I,int16B x.Arg=I:=⟨_,rfl⟩
      obtain⟨H,hH2⟩:∃H,hasA x.Op=H:=⟨_,rfl⟩
      rw [hE,hI2,hH2]at hw2
      rw [hI2]at hI
      rw [hH2]at hH
      rw [hw2]at hw
      clear hw2
      simp [-cB,hlt,hge,a4]
      intro bs
      refine pC ha ?_
      simp [-cB,hj,h38]
      refine pC ha ?_
      simp [-cB,hj,h38]
      refine pC ((opName_ok x.Op)) ?_
      simp [-cB,hE]
      cases E with
      | true=>
        refine AOps.pureG rfl (fun h=>hI) rfl (by first | rfl | (simp;done) | (simp;rfl)) (by simp) (by simp) rfl ?_
        simp [-cB]
        refine AOps.pureG rfl (fun h=>hH) rfl (by first | rfl | (simp;done) | (simp;rfl)) (by simp) (by simp) rfl ?_
        simp [-cB]at hw ⊢
        exact hw
      | false=>
        refine AOps.pureG rfl (fun h=>hI) rfl (by first | rfl | (simp;done) | (simp;rfl)) (by simp) (by simp) rfl ?_
        simp [-cB]
        cases I with
        | false=>
          refine AOps.pureG rfl (fun h=>hH) rfl (by first | rfl | (simp;done) | (simp;rfl)) (by simp) (by simp) rfl ?_
          simp [-cB]at hw ⊢
          exact hw
        | true=>
          refine AOps.pureG rfl (fun h=>hH) rfl (by first | rfl | (simp;done) | (simp;rfl)) (by simp) (by simp) rfl ?_
          simp [-cB]at hw ⊢
          cases H with
          | true=>
            simp [-cB]at hw ⊢
            exact⟨a4,by rw [hs],by rw [hpx];exact hw⟩
          | false=>
            by_cases h0:x.Arg=0
            ·simp [-cB,h0]at hw ⊢
             exact⟨a4,by rw [hs],by rw [hpx];exact hw⟩
            ·have hb:(x.Arg !=0)=true:=by simpa using h0
             simp [-cB,h0,hb]at hw ⊢
             exact hw
  ·intro hw
   rw [List.drop_length]at hw
   have hw2:0=wrongM l:=hw
   simp [-cB,hw2]
end Go.Ab
namespace Go.Ab
section
variable {P : Program} {n : Nat} {s : St} {Q : AX → St → Prop} {L : Heap}
def plainD:D→Bool
 | .v _=>true
 | _=>false
theorem row_plain {ty} {k} {ys} {w} {O O'} {m m'} {x} (h:(Res.row ty k (dd ys)).Holds w O m x) (hp:ys.all (fun y=>y.all plainD)=true):
  (Res.row ty k (dd ys)).Holds w O' m' x:=by
 rcases h with h | ⟨b,off,cap,cur,h1,h2,h3,h4,h5,h6,h7,h8⟩
 ·exact .inl h
 ·refine .inr ⟨b,off,cap,cur,h1,h2,h3,h4,h5,h6,h7,fun i j x y v hx hy hv=>?_⟩
  refine scal_rel (h8 i j x y v hx hy hv) ?_
  rw [dd_get]at hx
  obtain⟨y0,hy0,rfl⟩:=Option.map_eq_some_iff.1 hx
  rw [List.getElem?_map]at hy
  obtain⟨z,hz,rfl⟩:=Option.map_eq_some_iff.1 hy
  have:=List.all_eq_true.1 (List.all_eq_true.1 hp y0 (List.mem_of_getElem? hy0)) z (List.mem_of_getElem? hz)
  cases z with
  | v u=>rfl
  | sl xs=>cases this
  | ifc t ag cs=>cases this
theorem AOps.lendO {ops} {o:Oper} {rest} {c} {f} {args args'} {ty} {kc} {ys} h (hop:o.op= .call c)
  (hf:ACalls P f args' [] (fun r L'=>∃g,r= .ret (.rv g)∧L'=[(g,.row ty kc (dd ys))])) (he:enters P f=true) (hc:callee s.ev c=some (f,args)) (ha:V.fzs s.L args=args') (ho:V.ons [] args'=true)
  (hs:ys.all (fun y=>y.all plainD)=true) (hg:o.guard=none) (hd:∀d,o.dst=some d→d < n) (hr:dstsOk n rest=true) (hn:h∉keys s.L)
  (k:∀bs,runC P ops rest (St.put {s with L:=(h,.row ty kc (dd ys))::s.L} o.dst (.rv h)) bs [] (KK P n ops Q)):AOps P n ops (o::rest) s Q:=by
 subst ha
 intro fo m0 w0 m a w st g
 unfold wpListIn
 rw [if_pos (by simp [Region.wanted,hg])]
 obtain⟨xs,h1,h2⟩:=call_enters (P:=P) (w:=w) (m:=m) (O:=OO fo m) hop hc he (fun z _=>eval_rel g z)
 have hi:=g.inv
 refine owp_leads h1 ?_
 have hrel:RelVs w (OO fo noneM) noneM xs (V.fzs s.L args):=by
  refine⟨by rw [fzs_len];exact h2.1,fun j v y hv hy=>?_⟩
  have hyo:=ons_mem ho y (List.mem_of_getElem? hy)
  rw [fzs_get]at hy
  obtain⟨z,hz,rfl⟩:=Option.map_eq_some_iff.1 hy
  exact(fz_rel hi (h2.2 j v z hv hz) hyo).mono (Keep.refl w _) (fun b _ hb=>hb.elim (fun h=>(noneM_own b h).elim) id) (fun _ _ e=>e)
 refine(hf fo noneM w xs (hi.none_ fun b hb=> .inr hb) hrel).mono ?_
 rintro e w' ⟨m1,r,L',⟨gg,rfl,rfl⟩,he',hi',st'⟩
 cases e with
 | returned v=>
   have hv:m1 gg=some v∧v.oneCell'=true:=by
    cases he' with
    | rv _ _ e e1=>grind
   obtain⟨z,hz,hzh⟩:=hi'.holds gg (.row ty kc (dd ys)) (by simp)
   rw [hv.1]at hz
   obtain rfl:=Option.some.inj hz
   have gr:Grows w w':=⟨st'.os,st'.tape,st'.output,st'.size,fun b hb=>st'.block b hb (noneM_own b)⟩
   obtain⟨g',stt⟩:=g.new gr hn (x:=v) (fun b hb=>by
    by_cases hlt:b < w.heap.size
    ·exact(noneM_own b (st'.owned b hlt ⟨gg,v,hv.1,hb⟩)).elim
    ·omega) (row_plain hzh hs)
   exact(runC_sound rest _ [] hr k) fo m0 w0 _ _ w' (st.trans stt) (g'.put hd (.rv h v (mset_same _ _) hv.2))
 | panicked ch=>simp_all [Ends]
 | outgrown=>simp_all [Ends]
end
end Go.Ab
namespace Go.Ab
open Go.Proofs Go.Proofs.Tryz
def szI(z:Zl):List Int:=z.map fun p=>(p.2:Int)
def atL(z:Zl) (n:Nat):List Int:=(List.range n).map fun i=>(lenZ (z.take i):Int)
theorem atL_succ(z:Zl) (n:Nat):atL z (n+1)=atL z n++ [(lenZ (z.take n):Int)]:=by
 unfold atL;rw [List.range_succ,List.map_append];rfl
theorem atL_len(z:Zl) (n:Nat):(atL z n).length=n:=by simp [atL]
theorem atL_get(z:Zl) {n k:Nat} (h:k < n):(atL z n)[k]?=some (lenZ (z.take k):Int):=by
 simp [atL,h]
theorem lenP_eq(p:GIns×Nat):lenP p=if jmp p.1.Op=true then 1+p.2 else(encM p.1).length:=by
 unfold lenP
 split
 ·rename_i h
  rw [h]
  have:encM p.1=[]:=by unfold encM;rw [if_pos (by omega)]
  rw [this]
  simp [jmp]
 ·rfl
theorem encM_len(i:GIns):(encM i).length≤3:=by
 unfold encM
 split
 ·simp
 ·have:=bytesM_le (argE i)
  simp only [encK,List.length_cons,argB_len _ _ this];omega
theorem lenP_le(p:GIns×Nat) (h:p.2≤3):lenP p≤4:=by
 rw [lenP_eq]
 have:=encM_len p.1
 split <;> omega
theorem lenZ_le:∀(z:Zl),(∀p∈z,p.2≤3)→lenZ z≤4 *z.length
 | [],_=>by simp [lenZ]
 | p::z,h=>by
   have h1:=lenZ_le z (fun q hq=>h q (by simp [hq]))
   have h2:=lenP_le p (h p (by simp))
   simp only [lenZ,List.map_cons,List.sum_cons,List.length_cons]at h1 ⊢
   omega
theorem lenZ_succ(z:Zl) (i:Nat) (h:i < z.length):lenZ (z.take (i+1))=lenZ (z.take i)+lenP z[i]:=by
 unfold lenZ
 rw [List.take_add_one,List.getElem?_eq_getElem h]
 simp only [Option.toList,List.map_append,List.sum_append,List.map_cons,List.map_nil,List.sum_cons,List.sum_nil,Nat.add_zero]
theorem places30_new(z:Zl) (hz:z.length≤1000000000) (h3:∀p∈z,p.2≤3):
  ACalls prog 96 [insD (z.map Prod.fst),.d (.sl (encI (szI z)))] [] (fun r L=>∃g,r= .ret (.rv g)∧L=[(g,.row 3 1 (dd (encI (atL z (z.length+1)))))]):=by
 refine rX [4] [1000] func96 ?_;simp [-cB,f96]
 refine AWP.weaken (Wk.own' (t:=6) (h:=1000) (k:=1) (ty:=3) (by rfl) (by simp [keys])) ?_
 refine AWP.loopS [0,1,5,6,7] z.length (fun i=> [(5,iD (lenZ (z.take i))),(7,iD i)]) (fun i=> [(1000,.row 3 1 (dd (encI (atL z i))))]) (fun _=>True) (by rfl) (by simp [atL,lenZ]) ?_
 intro i hi hH
 have hb:lenZ (z.take i)≤4 *i:=by
  have:=lenZ_le (z.take i) (fun p hp=>h3 p (List.mem_of_mem_take hp))
  rw [List.length_take]at this;omega
 have hal:=atL_len z i
 have hae:=atL_succ z i
 rcases Nat.lt_or_eq_of_le hi with hlt | heq
 ·have hx:z[i]?=some z[i]:=List.getElem?_eq_getElem hlt
  have h64:inR .i64 ((i:Int)+1):=iW
  have hls:=lenZ_succ z i hlt
  have hlp:=lenP_eq z[i]
  have hel:=encM_len z[i].1
  have hp3:=h3 z[i] (List.getElem_mem hlt)
  have hj:=jumps30_ok z[i].1
  have he:=encode27_ok z[i].1
  have e1:inR .i64 ((lenZ (z.take i):Int)+1):=iW
  have e2:inR .i64 ((lenZ (z.take i):Int)+1+(z[i].2:Int)):=iW
  have e3:inR .i64 ((lenZ (z.take i):Int)+((encM z[i].1).length:Int)):=iW
  cases hjm:jmp z[i].1.Op with
  | true=>
    rw [hjm]at hj hlp
    simp only [if_true]at hlp
    have hsz:(szI z)[i]?=some (z[i].2:Int):=by simp [szI,hx]
    simp [-cB,hlt,hx,hal]
    refine⟨by omega,?_⟩
    refine pC hj ?_
    simp [-cB,hlt,hx,hal,e1,e2,h64,hsz,szI,hae,hls,hlp]
    omega
  | false=>
    rw [hjm]at hj hlp
    simp only [Bool.false_eq_true,if_false]at hlp
    simp [-cB,hlt,hx,hal]
    refine⟨by omega,?_⟩
    refine pC hj ?_
    simp [-cB,hlt,hx,hal]
    refine pC he ?_
    simp [hlt,hx,e3,h64,hae,hls,hlp]
 ·subst heq
  simp [hal,hae]
  omega
theorem places30_ok(z:Zl) (hz:z.length≤1000000000) (h3:∀p∈z,p.2≤3):
  Pure prog 96 [insD (z.map Prod.fst),.d (.sl (encI (szI z)))] (.d (.sl (encI (atL z (z.length+1))))):=by
 refine rn func96 ?_;simp [-cB,f96]
 refine AWP.weaken (Wk.own' (t:=6) (h:=1000) (k:=1) (ty:=3) (by rfl) (by simp [keys])) ?_
 refine AWP.loopS [0,1,5,6,7] z.length (fun i=> [(5,iD (lenZ (z.take i))),(7,iD i)]) (fun i=> [(1000,.row 3 1 (dd (encI (atL z i))))]) (fun _=>True) (by rfl) (by simp [atL,lenZ]) ?_
 intro i hi hH
 have hb:lenZ (z.take i)≤4 *i:=by
  have:=lenZ_le (z.take i) (fun p hp=>h3 p (List.mem_of_mem_take hp))
  rw [List.length_take]at this;omega
 have hal:=atL_len z i
 have hae:=atL_succ z i
 rcases Nat.lt_or_eq_of_le hi with hlt | heq
 ·have hx:z[i]?=some z[i]:=List.getElem?_eq_getElem hlt
  have h64:inR .i64 ((i:Int)+1):=iW
  have hls:=lenZ_succ z i hlt
  have hlp:=lenP_eq z[i]
  have hel:=encM_len z[i].1
  have hp3:=h3 z[i] (List.getElem_mem hlt)
  have hj:=jumps30_ok z[i].1
  have he:=encode27_ok z[i].1
  have e1:inR .i64 ((lenZ (z.take i):Int)+1):=iW
  have e2:inR .i64 ((lenZ (z.take i):Int)+1+(z[i].2:Int)):=iW
  have e3:inR .i64 ((lenZ (z.take i):Int)+((encM z[i].1).length:Int)):=iW
  cases hjm:jmp z[i].1.Op with
  | true=>
    rw [hjm]at hj hlp
    simp only [if_true]at hlp
    have hsz:(szI z)[i]?=some (z[i].2:Int):=by simp [szI,hx]
    simp [-cB,hlt,hx,hal]
    refine⟨by omega,?_⟩
    refine pC hj ?_
    simp [-cB,hlt,hx,hal,e1,e2,h64,hsz,szI,hae,hls,hlp]
    omega
  | false=>
    rw [hjm]at hj hlp
    simp only [Bool.false_eq_true,if_false]at hlp
    simp [-cB,hlt,hx,hal]
    refine⟨by omega,?_⟩
    refine pC hj ?_
    simp [-cB,hlt,hx,hal]
    refine pC he ?_
    simp [hlt,hx,e3,h64,hae,hls,hlp]
 ·subst heq
  simp [hal,hae]
  omega
end Go.Ab
namespace Go.Ab
open Go.Proofs Go.Proofs.Tryz
def szL(z:Zl):List Int:=z.map fun p=>(lenP p:Int)
def placeK:List (Int×Int)→Zl→Nat→List (Int×Int)
 | M,[],_=>M
 | M,p::z,n=>placeK (if p.1.Op=38 then lput M p.1.Arg (n:Int)else M) z (n+lenP p)
theorem placeK_snoc(p:GIns×Nat):∀(z:Zl) (M:List (Int×Int)) (n:Nat),placeK M (z++ [p]) n=if p.1.Op=38 then lput (placeK M z n) p.1.Arg ((n+lenZ z:Nat):Int)else placeK M z n
 | [],M,n=>by simp [placeK,lenZ]
 | q::z,M,n=>by
   rw [List.cons_append,placeK,placeK_snoc p z,placeK,lenZ_cons,Nat.add_assoc]
theorem labAt_mem:∀(z:Zl) (n:Int) (k:Nat),labAt z n=some k→n∈labsL (z.map Prod.fst)
 | [],n,k,h=>by cases h
 | p::z,n,k,h=>by
   rw [labAt]at h
   rw [mem_labsL]
   split at h
   ·rename_i hp;exact⟨p.1,by simp,hp.1,hp.2⟩
   ·obtain⟨k',hk,-⟩:=Option.map_eq_some_iff.1 h
    obtain⟨i,h1,h2⟩:=mem_labsL.1 (labAt_mem z n k' hk)
    exact⟨i,by simp at h1 ⊢;exact .inr h1,h2⟩
theorem labAt_le:∀(z:Zl) (n:Int) (k:Nat),labAt z n=some k→k≤lenZ z
 | [],n,k,h=>by cases h
 | p::z,n,k,h=>by
   rw [labAt]at h
   rw [lenZ_cons]
   split at h
   ·cases h;omega
   ·obtain⟨k',hk,rfl⟩:=Option.map_eq_some_iff.1 h
    have:=labAt_le z n k' hk
    omega
theorem labAt_none {z:Zl} {n:Int} (h:n∉labsL (z.map Prod.fst)):labAt z n=none:=by
 cases hl:labAt z n with
 | none=>rfl
 | some k=>exact absurd (labAt_mem z n k hl) h
theorem placeK_look(j:Int):∀(z:Zl) (M:List (Int×Int)) (n:Nat),(labsL (z.map Prod.fst)).Nodup→(placeK M z n).lookup j=match labAt z j with
  | some k=>some ((n+k:Nat):Int)
  | none=>M.lookup j
 | [],M,n,_=>rfl
 | p::z,M,n,h=>by
   rw [placeK,labAt]
   have hn:(labsL (z.map Prod.fst)).Nodup:=by
    rw [List.map_cons,show p.1::z.map Prod.fst=[p.1]++z.map Prod.fst from rfl,labsL_app,List.nodup_append]at h
    exact h.2.1
   rw [placeK_look j z _ _ hn]
   by_cases h38:p.1.Op=38
   ·rw [if_pos h38]
    by_cases hj:p.1.Arg=j
    ·rw [if_pos ⟨h38,hj⟩]
     have:labAt z j=none:=by
      refine labAt_none fun hq=>?_
      rw [List.map_cons,show p.1::z.map Prod.fst=[p.1]++z.map Prod.fst from rfl,labsL_app,List.nodup_append]at h
      exact h.2.2 j (mem_labsL.2 ⟨p.1,by simp,h38,hj⟩) j hq rfl
     rw [this,lput_look,if_pos hj.symm]
     simp
    ·rw [if_neg (fun e=>hj e.2)]
     cases labAt z j with
     | some k=>simp [Nat.add_assoc]
     | none=>simp only [Option.map_none];rw [lput_look,if_neg (fun e=>hj e.symm)]
   ·rw [if_neg h38,if_neg (fun e=>h38 e.1)]
    cases labAt z j with
    | some k=>simp [Nat.add_assoc]
    | none=>rfl
theorem wrongF_nodup(l:List GIns):∀(r a:List GIns),wrongF l a r=0→(labsL a).Nodup→(labsL (a++r)).Nodup
 | [],a,_,h=>by simpa using h
 | x::r,a,hw,h=>by
   rw [wrongF]at hw
   split at hw
   ·rename_i h0
    have:=wrongF_nodup l r (a++ [x]) hw ?_
    ·simpa using this
    ·rw [labsL_app,List.nodup_append]
     refine⟨h,?_,?_⟩
     ·unfold labsL;by_cases hx:isLab x=true <;> simp [hx]
     ·rintro u hu v hv rfl
      obtain⟨i,hi,h38,harg⟩:=mem_labsL.1 hv
      obtain rfl:i=x:=by simpa using hi
      unfold wrongI at h0
      have hjm:jmp i.Op=false:=by rw [h38];rfl
      rw [if_neg (by rw [hjm];simp),if_pos ⟨h38,by rw [harg];simpa using hu⟩]at h0
      omega
   ·rename_i h0;exact(h0 hw).elim
theorem wrongM_nodup {l:List GIns} (h:wrongM l=0):(labsL l).Nodup:=by simpa using wrongF_nodup l l [] h (by simp [labsL])
structure Lay where
 z:Zl
 at_:List Int
 M:List (Int×Int)
def Lay.place(y:Lay):Lay:=⟨y.z,atL y.z (y.z.length+1),placeK y.M y.z 0⟩
def Lay.Ok(y:Lay) (l:List GIns):Prop:=y.z.map Prod.fst=l∧y.at_.length=l.length+1∧(∀j,(y.M.lookup j).isSome→j∈labsL l)∧small2 y.z
def growY(y:Lay) (b:Bool) (k:Nat):Lay×Bool:=
 match y.z[k]? with
 | some p=>if jmp p.1.Op=true then(match growP y.z k with
   | some z'=>(⟨z',y.place.at_,y.place.M⟩,true)
   | none=>(y.place,b))else(y,b)
 | none=>(y,b)
def growT(y:Lay):Nat→Lay×Bool
 | 0=>(y,false)
 | k+1=>growY (growT y k).1 (growT y k).2 k
theorem growP_fst {z z':Zl} {i:Nat} (h:growP z i=some z'):z'.map Prod.fst=z.map Prod.fst:=by
 unfold growP at h
 split at h
 ·rename_i p hp
  split at h
  ·cases h
   rw [List.map_set]
   obtain⟨hi,he⟩:=List.getElem?_eq_some_iff.1 hp
   refine List.ext_getElem (by simp) fun j h1 h2=>?_
   rw [List.getElem_set]
   split
   ·rename_i e;subst e;simp [he]
   ·rfl
  ·cases h
 ·cases h
theorem lay_place {y:Lay} {l:List GIns} (hu:(labsL l).Nodup) (h:y.Ok l):y.place.Ok l∧∀j,(y.place.M.lookup j)=Option.map (fun k:Nat=>(k:Int)) (labAt y.z j):=by
 obtain⟨h1,h2,h3,h4⟩:=h
 have hl:y.z.length=l.length:=by rw [←h1,List.length_map]
 have key:∀j,(y.place.M.lookup j)=Option.map (fun k:Nat=>(k:Int)) (labAt y.z j):=by
  intro j
  show(placeK y.M y.z 0).lookup j=_
  rw [placeK_look j y.z y.M 0 (by rw [h1];exact hu)]
  cases hj:labAt y.z j with
  | some k=>simp
  | none=>
    cases hm:y.M.lookup j with
    | none=>rfl
    | some v=>
      have:=labAt_some y.z j (by rw [h1];exact h3 j (by rw [hm];rfl))
      rw [hj]at this;cases this
 refine⟨⟨h1,by show(atL _ _).length=_;rw [atL_len,hl],fun j hj=>?_,h4⟩,key⟩
 rw [key j,Option.isSome_map]at hj
 obtain⟨k,hk⟩:=Option.isSome_iff_exists.1 hj
 rw [←h1]
 exact labAt_mem _ _ _ hk
theorem growY_ok {y:Lay} {l:List GIns} (hu:(labsL l).Nodup) (h:y.Ok l) (b:Bool) (k:Nat):(growY y b k).1.Ok l:=by
 unfold growY
 split
 ·split
  ·split
   ·rename_i z' hz
    have hp:=(lay_place hu h).1
    refine⟨by rw [growP_fst hz];exact h.1,hp.2.1,hp.2.2.1,(growP_sz hz).2 h.2.2.2⟩
   ·exact(lay_place hu h).1
  ·exact h
 ·exact h
theorem growT_ok {y:Lay} {l:List GIns} (hu:(labsL l).Nodup) (h:y.Ok l):∀k,(growT y k).1.Ok l
 | 0=>h
 | k+1=>growY_ok hu (growT_ok hu h k) _ _
theorem passP_snoc:∀(n i:Nat) (z:Zl) (b:Bool),passP (n+1) i z b=match growP (passP n i z b).1 (i+n)with
  | some z'=>(z',true)
  | none=>passP n i z b
 | 0,i,z,b=>by
   simp only [passP,Nat.add_zero]
   try (cases growP z i <;> rfl)
 | n+1,i,z,b=>by
   rw [passP]
   conv=>rhs;rw [passP]
   cases growP z i with
   | none=>simp only;rw [passP_snoc n (i+1) z b,Nat.add_right_comm i 1 n,Nat.add_assoc i n 1]
   | some z'=>simp only;rw [passP_snoc n (i+1) z' true,Nat.add_right_comm i 1 n,Nat.add_assoc i n 1]
theorem growT_pass(y:Lay):∀k,((growT y k).1.z,(growT y k).2)=passP k 0 y.z false
 | 0=>rfl
 | k+1=>by
   rw [passP_snoc,Nat.zero_add]
   have ih:=growT_pass y k
   rw [←ih]
   show((growY (growT y k).1 (growT y k).2 k).1.z,(growY (growT y k).1 (growT y k).2 k).2)=_
   generalize growT y k=yb
   obtain⟨y',b⟩:=yb
   unfold growY
   simp only
   cases hk:y'.z[k]? with
   | none=>
     have:growP y'.z k=none:=by unfold growP;rw [hk]
     rw [this]
   | some p=>
     simp only
     by_cases hj:jmp p.1.Op=true
     ·rw [if_pos hj]
      cases growP y'.z k <;> rfl
     ·have:growP y'.z k=none:=by unfold growP;rw [hk];simp only;rw [if_neg (fun e=>hj e.1)]
      rw [if_neg hj,this]
end Go.Ab
namespace Go.Ab
open Go.Proofs Go.Proofs.Tryz
set_option maxHeartbeats 4000000
set_option maxRecDepth 20000
def intE(n:Int):D:= .v (.int .i64 n)
def lM(M:List (Int×Int)):List ME:=encM1 intE M
@[simp] theorem lM_fits(a:List (Int×Int)):fitsAll (.int .i64) (lM a)=true:=fits_encM1 _ _
@[simp] theorem lM_look(a:List (Int×Int)) (j:Int):mlook (lM a) (.int .i64 j)=(a.lookup j).map fun n=>iD n:=by
 unfold lM
 rw [mlook_encM1];rfl
@[simp] theorem lM_put(a:List (Int×Int)) (j n:Int):mput (lM a) (.int .i64 j) false [.v (.int .i64 n)]=lM (lput a j n):=mput_encM1 intE _ _ _
@[simp] theorem lM_nil:lM []=[]:=rfl
def layH(wb:Nat) (l:List GIns) (y:Lay):Heap:=
 [(5301,.box (wb+1) 91 [.d (.sl (l.map GIns.enc)),.rv 5302,.rv 5303,.rv 5304]),(5302,.row 3 1 (dd (encI (szL y.z)))),(5303,.row 3 1 (dd (encI y.at_))),(5304,.mp (lM y.M))]
theorem small3 {z:Zl} (h:small2 z):∀p∈z,p.2≤3:=fun p hp=>by have:=h p hp;omega
theorem lay_len {l:List GIns} {z:Zl} (h:z.map Prod.fst=l):z.length=l.length:=by rw [←h,List.length_map]
theorem asmPlace_ok(wb:Nat) (l:List GIns) (hl:l.length≤1000000000) (y:Lay) (hy:y.Ok l):
  ACalls prog 53 [.bp 5301 0] (layH wb l y) (fun r L=>r= .ret (.tup [])∧L=layH wb l y.place):=by
 obtain⟨h1,h2,-,h4⟩:=hy
 have hzl:=lay_len h1
 unfold layH Lay.place
 obtain⟨z,at_,M⟩:=y
 simp only at h1 h2 h4 hzl ⊢
 refine rX [] [5301,5302,5303,5304] func53 ?_;simp [-cB,f53]
 refine AWP.loopL [0,2,8,9,10] l (fun pre=> [(2,iD (lenZ (z.take pre.length))),(10,iD pre.length)]) (fun pre=> [(5303,.row 3 1 (dd (encI (atL z pre.length++at_.drop pre.length)))),(5304,.mp (lM (placeK M (z.take pre.length) 0)))]) (fun _=>True) (by rfl) (by omega) (by simp [atL,lenZ,placeK]) ?_ ?_
 ·rintro pre x post hsp-hlt hge a4
  have hk:pre.length < z.length:=by omega
  have hz:z[pre.length]?=some z[pre.length]:=List.getElem?_eq_getElem hk
  have hzx:z[pre.length].1=x:=by
   have:(z.map Prod.fst)[pre.length]?=some x:=by rw [h1,hsp];simp
   rw [List.getElem?_map,hz]at this
   exact Option.some.inj this
  have hb:lenZ (z.take pre.length)≤4 *pre.length:=by
   have:=lenZ_le (z.take pre.length) (fun p hp=>small3 h4 p (List.mem_of_mem_take hp))
   rw [List.length_take]at this;omega
  have hls:=lenZ_succ z pre.length hk
  have hp:=lenP_le z[pre.length] (small3 h4 _ (List.getElem_mem hk))
  have hsz:(szL z)[pre.length]?=some (lenP z[pre.length]:Int):=by simp [szL,hz]
  have htk:z.take (pre.length+1)=z.take pre.length++ [z[pre.length]]:=by rw [List.take_add_one,hz];rfl
  have hpl:=placeK_snoc z[pre.length] (z.take pre.length) M 0
  rw [←htk,hzx,Nat.zero_add]at hpl
  have hat:(atL z pre.length++at_.drop pre.length).set pre.length (lenZ (z.take pre.length):Int)=atL z (pre.length+1)++at_.drop (pre.length+1):=by
   rw [atL_succ,List.append_assoc,List.set_append_right _ _ (by rw [atL_len];exact Nat.le_refl _),atL_len,Nat.sub_self]
   congr 1
   rw [List.drop_eq_getElem_cons (by omega)];rfl
  have hal:(atL z pre.length++at_.drop pre.length).length=l.length+1:=by rw [List.length_append,atL_len,List.length_drop];omega
  have hsl:(szL z).length=l.length:=by simp [szL,hzl]
  have hsg:∀h:pre.length < (szL z).length,(szL z)[pre.length]'h=(lenP z[pre.length]:Int):=fun h=>by simp [szL]
  have hlt2:pre.length < l.length+1:=by omega
  have a5:inR .i64 ((lenZ (z.take pre.length):Int)+(lenP z[pre.length]:Int)):=iW
  clear hsp
  by_cases h38:x.Op=38
  ·rw [if_pos h38]at hpl
   simp [-cB,hlt,hge,hal,hat,h38,hlt2]
   intro bs
   refine AWP.regionM0 [some (0,0),some (0,0),some (0,0),some (0,0),some (0,0),some (0,0),some (0,0),none] [] tmix (by kernel_rfl) ?_
   simp [-cB,hlt,hsl,hsz,hsg,a4,a5,hls,hpl]
  ·rw [if_neg h38]at hpl
   simp [-cB,hlt,hge,hal,hat,h38,hlt2,hsl,hsz,hsg,a4,a5,hls,hpl]
 ·intro _
  simp [-cB]
  have hal:(atL z l.length++at_.drop l.length).length=l.length+1:=by rw [List.length_append,atL_len,List.length_drop];omega
  have hat:(atL z l.length++at_.drop l.length).set l.length (lenZ (z.take l.length):Int)=atL z (l.length+1):=by
   rw [atL_succ,List.set_append_right _ _ (by rw [atL_len];exact Nat.le_refl _),atL_len,Nat.sub_self]
   congr 1
   rw [List.drop_eq_getElem_cons (by omega),List.drop_of_length_le (by omega)];rfl
  have htz:z.take l.length=z:=List.take_of_length_le (by omega)
  refine AWP.regionM0 [some (0,0),some (0,0),some (0,0),some (0,0),some (0,0),some (0,0),some (0,0),some (0,0),some (0,0),some (0,0),some (0,0),none] [] tmix (by kernel_rfl) ?_
  simp [-cB,hal,hat,hzl]
  rw [htz]
theorem asmFar_ok(wb:Nat) (l:List GIns) (hl:l.length≤1000000000) (y:Lay) (hu:(labsL l).Nodup) (hy:y.Ok l) (k:Nat) (hk:k < l.length):
  ACalls prog 54 [.bp 5301 0,iD k] (layH wb l y.place) (fun r L=>r= .ret (iD (farI y.z k l[k]))∧L=layH wb l y.place):=by
 obtain⟨hp,hlook⟩:=lay_place hu hy
 obtain⟨h1,h2,-,h4⟩:=hy
 have hzl:=lay_len h1
 have e1:(y.place.M.lookup l[k].Arg).getD 0=(((labAt y.z l[k].Arg).getD 0:Nat):Int):=by rw [hlook];cases labAt y.z l[k].Arg <;> rfl
 have e2:(y.place.at_)[k+1]?=some (lenZ (y.z.take (k+1)):Int):=by unfold Lay.place;exact atL_get _ (by omega)
 have hal:y.place.at_.length=l.length+1:=hp.2.1
 unfold farI farZ layH
 have hz:y.place.z=y.z:=rfl
 rw [hz]
 generalize y.place.M=M at *
 generalize y.place.at_=A at *
 have hg:l[k]?=some l[k]:=List.getElem?_eq_getElem hk
 refine rX [4] [5301,5302,5303,5304] func54 ?_;simp [-cB,f54]
 have hlab:(labAt y.z l[k].Arg).getD 0≤4 *l.length:=by
  cases h:labAt y.z l[k].Arg with
  | none=>simp
  | some j=>
    have h5:=labAt_le y.z _ _ h
    have:=lenZ_le y.z (small3 h4)
    simp only [Option.getD_some];omega
 have htl:lenZ (y.z.take (k+1))≤4 *l.length:=by
  have:=lenZ_le (y.z.take (k+1)) (fun p hp=>small3 h4 p (List.mem_of_mem_take hp))
  rw [List.length_take]at this;omega
 have e3:inR .i64 ((k:Int)+1):=iW
 have e4:inR .i64 ((((labAt y.z l[k].Arg).getD 0:Nat):Int)-(lenZ (y.z.take (k+1)):Int)):=iW
 have e5:k+1 < l.length+1:=by omega
 have e6:∀h:k+1 < A.length,A[k+1]'h=(lenZ (y.z.take (k+1)):Int):=fun h=>by rw [List.getElem?_eq_getElem h]at e2;exact Option.some.inj e2
 refine AWP.regionD [] tmix (by kernel_rfl) (by rfl) ?_
 simp [-cB,hk,hg,e1,e3,e2,e4,e5,e6,hal]
 try omega
theorem asmGrow_ok(wb:Nat) (l:List GIns) (hl:l.length≤1000000000) (y:Lay) (hu:(labsL l).Nodup) (hy:y.Ok l):
  ACalls prog 52 [.bp 5301 0] (layH wb l y) (fun r L=>r= .ret (oD (growT y l.length).2)∧L=layH wb l (growT y l.length).1):=by
 unfold layH
 refine rX [2] [5301,5302,5303,5304] func52 ?_;simp [-cB,f52]
 refine AWP.loopL [0,3,10,11,12] l (fun pre=> [(3,oD (growT y pre.length).2),(12,iD pre.length)]) (fun pre=> [(5302,.row 3 1 (dd (encI (szL (growT y pre.length).1.z)))),(5303,.row 3 1 (dd (encI (growT y pre.length).1.at_))),(5304,.mp (lM (growT y pre.length).1.M))]) (fun _=>True) (by rfl) (by omega) (by simp [growT]) ?_ ?_
 ·rintro pre x post hsp-hlt hge a4
  have hk:=growT_ok hu hy pre.length
  have hg:growT y (pre.length+1)=growY (growT y pre.length).1 (growT y pre.length).2 pre.length:=rfl
  obtain⟨yb,hyb⟩:∃yb,growT y pre.length=yb:=⟨_,rfl⟩
  rw [hyb]at hg hk
  obtain⟨y1,b⟩:=yb
  simp only at hg hk
  have hP:=fun bb=>asmPlace_ok bb l hl y1 hk
  have hF:=fun bb=>asmFar_ok bb l hl y1 hu hk pre.length hlt
  rw [hge]at hF
  have hA:=asks_ok x
  obtain⟨h1,h2,h3,h4⟩:=hk
  have hzl:=lay_len h1
  have hz:y1.z[pre.length]?=some (y1.z[pre.length]'(by omega)):=List.getElem?_eq_getElem (by omega)
  have hzx:(y1.z[pre.length]'(by omega)).1=x:=by
   have:(y1.z.map Prod.fst)[pre.length]?=some x:=by rw [h1,hsp];simp
   rw [List.getElem?_map,hz]at this
   exact Option.some.inj this
  unfold growY at hg
  rw [hz]at hg
  simp only at hg
  rw [hzx]at hg
  clear hsp
  cases hj:jmp x.Op with
  | false=>
    rw [hj]at hg hA
    simp at hg
    simp [-cB,hlt,hge,hyb]
    intro bs
    refine pC hA ?_
    simp [-cB,hlt,hge,hyb,a4,hg]
  | true=>
    rw [hj]at hg hA
    simp at hg
    obtain⟨F,hFd⟩:∃F,farI y1.z pre.length x=F:=⟨_,rfl⟩
    have hq:growP y1.z pre.length=if(y1.z[pre.length]'(by omega)).2 < bytesM F then some (y1.z.set pre.length (x,bytesM F))else none:=by
     unfold growP
     rw [hz]
     simp only
     rw [hzx,hj,hFd]
     simp
    have hlp:lenP (y1.z[pre.length]'(by omega))=1+(y1.z[pre.length]'(by omega)).2:=by rw [lenP_eq,hzx,hj];simp
    have hsl:(szL y1.z).length=l.length:=by simp [szL,hzl]
    have hsg:∀h:pre.length < (szL y1.z).length,(szL y1.z)[pre.length]'h=((1+(y1.z[pre.length]'(by omega)).2:Nat):Int):=fun h=>by rw [←hlp];simp [szL]
    have hss:szL (y1.z.set pre.length (x,bytesM F))=(szL y1.z).set pre.length (1+(bytesM F:Int)):=by
     unfold szL
     rw [List.map_set]
     congr 1
     rw [lenP_eq,hj];simp
    have hN:=need_ok F
    have hb2:=bytesM_two F
    rw [hFd]at hF
    rw [hq]at hg
    unfold layH at hP hF
    have hpz:y1.place.z=y1.z:=rfl
    rw [hpz]at hP hF
    generalize (y1.z[pre.length]'(by omega)).2=q at *
    have hz1:inR .i64 (1+(bytesM F:Int)):=iW
    simp [-cB,hlt,hge,hyb]
    intro bs
    refine pC hA ?_
    simp [-cB,hlt,hge,hyb]
    refine eD [5301,5302,5303,5304] ((hP _)) ?_
    simp [-cB,hlt,hge,hyb]
    refine eD [5301,5302,5303,5304] ((hF _)) ?_
    simp [-cB,hlt,hge,hyb]
    refine pC hN ?_
    by_cases h3:q < bytesM F
    ·have h4:(1+(q:Int)) < 1+(bytesM F:Int):=by omega
     rw [if_pos h3]at hg
     simp [-cB,hlt,hge,hyb,hsl,hsg,hz1,h4,a4,hg,hss,hpz]
    ·have h4:¬(1+(q:Int)) < 1+(bytesM F:Int):=by omega
     rw [if_neg h3]at hg
     simp [-cB,hlt,hge,hyb,hsl,hsg,hz1,h4,a4,hg,hss,hpz]
 ·intro _
  simp [-cB]
end Go.Ab
namespace Go
section
variable {P : Program} {b : Frame} {a : Act} {k : List Item} {cs : List Frame} {w : World} {F : Fence} {n : Nat} {Q : Exit → Act → World → Prop}
theorem stepR_scope {c:Code}:step P (lone (b.atR a (.code (.scope c)::k)) cs w)= .next (lone (b.atR a (.code c:: .inScope c::k)) cs w):=
 step_lone_go (by simp [stepG,stepG.exec,Frame.atR])
theorem stepR_inScope {c:Code}:step P (lone (b.atR a (.inScope c::k)) cs w)= .next (lone (b.atR a k) cs w):=
 step_lone_go (by simp [stepG,stepG.exec,Frame.atR])
def Exit.back(l:Nat) (J:Act→World→Prop) (Q:Exit→Act→World→Prop):Exit→Act→World→Prop
 | .goto l',a,w=>l'=l∧J a w
 | e,a,w=>Q e a w
theorem wpIn_scope_back {c rest:Code} (l:Nat) (J:Nat→Act→World→Prop) (hf:findLabel c l=some rest)
  (first:c.wpIn F n P (Exit.back l (fun a w=>∃j,J j a w) Q) a w)
  (pass:∀j a w,J j a w→rest.wpIn F n P (Exit.back l (fun a' w'=>∃i,i < j∧J i a' w') Q) a w):(Code.scope c).wpIn F n P Q a w:=by
 intro b k cs hro hb hr
 have hg:gotoIn l (.inScope c::k)=some (.code rest:: .inScope c::k):=by simp [gotoIn,hf]
 have h0:(lone (b.atR a (.code (.scope c)::k)) cs w).fenced P F:=fenced_calm hb hr rfl
 have hx:∀id,exitTo id (.inScope c::k)=exitTo id k:=fun id=>by simp [exitTo]
 have key:∀j a w,J j a w→∃e a' w',Q e a' w'∧ArrivesIn (Machine.fenced P F) P (lone (b.atR a (.code rest:: .inScope c::k)) cs w) b k cs e a' w':=by
  intro j
  induction j using Nat.strongRecOn with
  | _ j ih=>
    intro a w hJ
    obtain⟨e,a₁,w₁,hq,harr⟩:=pass j a w hJ b (.inScope c::k) cs hro hb hr
    cases e with
    | normal=>exact⟨.normal,a₁,w₁,hq,StepsIn.trans harr (.one (fenced_calm hb hr rfl) stepR_inScope)⟩
    | exit id=>exact⟨.exit id,a₁,w₁,hq,fun k' hk=>harr.1 k' (by rw [hx];exact hk),fun hr' hk=>harr.2 hr' (by rw [hx];exact hk)⟩
    | goto l'=>
      obtain⟨rfl,i,hlt,hJ'⟩:=hq
      obtain⟨e₂,a₂,w₂,hq₂,harr₂⟩:=ih i hlt a₁ w₁ hJ'
      exact⟨e₂,a₂,w₂,hq₂,.of_steps (harr.1 _ hg) harr₂⟩
    | ret=>exact⟨_,a₁,w₁,hq,harr⟩
    | panic ch=>exact⟨_,a₁,w₁,hq,harr⟩
    | outgrown=>exact⟨_,a₁,w₁,hq,harr⟩
 obtain⟨e,a₁,w₁,hq,harr⟩:=first b (.inScope c::k) cs hro hb hr
 cases e with
 | normal=>exact⟨.normal,a₁,w₁,hq,.head h0 stepR_scope (StepsIn.trans harr (.one (fenced_calm hb hr rfl) stepR_inScope))⟩
 | exit id=>exact⟨.exit id,a₁,w₁,hq,fun k' hk=> .head h0 stepR_scope (harr.1 k' (by rw [hx];exact hk)),
   fun hr' hk=>let ⟨k₁,h1,h2⟩:=harr.2 hr' (by rw [hx];exact hk);⟨k₁,h1,.head h0 stepR_scope h2⟩⟩
 | goto l'=>
   obtain⟨rfl,j,hJ'⟩:=hq
   obtain⟨e₂,a₂,w₂,hq₂,harr₂⟩:=key j a₁ w₁ hJ'
   exact⟨e₂,a₂,w₂,hq₂,.of_steps (.head h0 stepR_scope (harr.1 _ hg)) harr₂⟩
 | ret=>exact⟨_,a₁,w₁,hq,.of_steps (.one h0 stepR_scope) harr⟩
 | panic ch=>exact⟨_,a₁,w₁,hq,.of_steps (.one h0 stepR_scope) harr⟩
 | outgrown=>exact⟨_,a₁,w₁,hq,.of_steps (.one h0 stepR_scope) harr⟩
end
end Go
namespace Go.Ab
section
variable {P : Program} {n : Nat} {s : St} {Q : AX → St → Prop}
def AX.back(l:Nat) (J:St→Prop) (Q:AX→St→Prop):AX→St→Prop
 | .goto l',s=>l'=l∧J s
 | x,s=>Q x s
theorem AWP.scope {c rest:Code} (l:Nat) (J:Nat→St→Prop) (hf:findLabel c l=some rest) (hrf:hasRF rest=true→hasRF c=true)
  (first:AWP P n c s (AX.back l (fun s'=>∃j,J j s') Q))
  (pass:∀j s',J j s'→AWP P n rest s' (AX.back l (fun s''=>∃i,i < j∧J i s'') Q)):AWP P n (.scope c) s Q:=fun fo m a w hr g=>by
 let K (j:Nat) (a1:Act) (w1:World):Prop:=∃ms m1 s1,Marks fo.nm w w1 ms∧J j s1∧G (fo.mark ms) n m1 s1 a1 w1∧Step w (own m) w1 (own m1)
 have conv:∀(T:St→Prop) (T':Act→World→Prop),(∀ms m1 s1 a1 w1,Marks fo.nm w w1 ms→T s1→G (fo.mark ms) n m1 s1 a1 w1→Step w (own m) w1 (own m1)→T' a1 w1)→
   ∀e a2 w2,Post fo n m w (AX.back l T Q) e a2 w2→Exit.back l T' (Post fo n m w Q) e a2 w2:=by
  rintro T T' hT e a2 w2 ⟨ms2,m2,x2,s2,hm2,hq,g2,hx,hs2⟩
  cases e with
  | normal=>cases x2 <;> simp only [Exits]at hx;exact⟨ms2,m2,_,s2,hm2,hq,g2,trivial,hs2⟩
  | exit i=>cases x2 <;> simp only [Exits]at hx;exact⟨ms2,m2,_,s2,hm2,hq,g2,hx,hs2⟩
  | goto i=>
    cases x2 <;> simp only [Exits]at hx
    subst hx
    exact⟨hq.1,hT ms2 m2 s2 a2 w2 hm2 hq.2 g2 hs2⟩
  | ret=>cases x2 <;> simp only [Exits]at hx;exact⟨ms2,m2,_,s2,hm2,hq,g2,trivial,hs2⟩
  | panic ch=>cases x2 <;> simp only [Exits]at hx;exact⟨ms2,m2,_,s2,hm2,hq,g2,hx,hs2⟩
  | outgrown=>cases x2 <;> simp only [Exits]at hx
 refine wpIn_scope_back l K hf ?_ ?_
 ·exact Code.wpIn_mono (conv _ _ (fun ms m1 s1 a1 w1 hm ⟨j,hj⟩ g1 hs=>⟨j,ms,m1,s1,hm,hj,g1,hs⟩)) (first fo m a w hr g)
 ·rintro j a1 w1 ⟨ms,m1,s1,hm,hj,g1,hs1⟩
  refine Code.wpIn_mono (fun e a2 w2 hp=>?_) (pass j s1 hj (fo.mark ms) m1 a1 w1 (fun e=>hr (hrf e)) g1)
  exact conv _ _ (fun ms2 m2 s2 a2 w2 hm2 ⟨i,hi,hji⟩ g2 hs2=>⟨i,hi,ms2,m2,s2,hm2,hji,g2,hs2⟩) e a2 w2 (Post.marked hm g1 hs1 hp)
variable {l : Nat} {J : St → Prop}
@[simp] theorem back_n:AX.back l J Q .normal s=Q .normal s:=rfl
@[simp] theorem back_e {i:Nat}:AX.back l J Q (.exit i) s=Q (.exit i) s:=rfl
@[simp] theorem back_r:AX.back l J Q .ret s=Q .ret s:=rfl
@[simp] theorem back_p {v:V}:AX.back l J Q (.pan v) s=Q (.pan v) s:=rfl
@[simp] theorem back_g {i:Nat}:AX.back l J Q (.goto i) s=(i=l∧J s):=rfl
theorem back_mono {J':St→Prop} (h:∀s,J s→J' s) (x:AX) (s:St) (hx:AX.back l J Q x s):AX.back l J' Q x s:=by
 cases x <;> first | exact hx | exact⟨hx.1,h s hx.2⟩
theorem AWP.scopeR {c y:Code} (l:Nat) (J:Nat→St→Prop) (hf:findLabel c l=some (.seq .skip y)) (hrf:hasRF y=true→hasRF c=true)
  (pass:∀j s',J j s'→codeK P n y s' (kontK P n (AX.back l (fun s''=>∃i,i < j∧J i s'') Q) []))
  (first:(∀j s',J j s'→AWP P n y s' (AX.back l (fun s'=>∃j,J j s') Q))→AWP P n c s (AX.back l (fun s'=>∃j,J j s') Q)):AWP P n (.scope c) s Q:=
 AWP.scope l J hf (fun h=>hrf (by simpa [hasRF]using h)) (first fun j s' h=>AWP.mono (codeK_sound _ _ _ (pass j s' h)) (back_mono fun s'' ⟨i,_,hi⟩=>⟨i,hi⟩))
  (fun j s' h=>AWP.seq (AWP.skip (codeK_sound _ _ _ (pass j s' h))))
theorem codeK_gotoW {i:Nat} {s':St} (hw:Wk n s s') (h:Q (.goto i) s'):codeK P n (.goto i) s Q:=by
 show AWP P n (.goto i) s Q
 exact AWP.weaken hw (AWP.goto h)
end
end Go.Ab
namespace Go.Ab
def Ordr(l:Array Oper):Nat→Array Bool→List Nat→Prop
 | 0,_,L=>L=[]
 | f+1,ls,L=>(Region.ready .any l ls=[]∧L=[])∨∃i L',L=i::L'∧i∈Region.ready .any l ls∧Ordr l f (ls.setIfInBounds i true) L'
theorem linearise_ordr l:∀f t ls,Ordr l f ls (Region.linearise.go .any l f t ls []):=by
 intro f
 induction f with
 | zero=>intro t ls;rfl
 | succ f ih=>
   intro t ls
   change Ordr l (f+1) ls (match(Region.ready .any l ls)[t % (Region.ready .any l ls).length]? with
    | some i=>Region.linearise.go .any l f (t / (Region.ready .any l ls).length) (ls.setIfInBounds i true) [i]
    | none=> [].reverse)
   cases hi:(Region.ready .any l ls)[t % (Region.ready .any l ls).length]? with
   | none=>
     left
     refine⟨?_,rfl⟩
     cases hr:Region.ready .any l ls with
     | nil=>rfl
     | cons x xs=>
       simp_all [Nat.mod_lt]
   | some i=>
     right
     grind [List.mem_of_getElem?,Region.ready,linearise_go_acc]
theorem Ordr.run {F} {n} {P} {l} {Q}:∀f ls L a w,wpAnyIn F n P .any l Q f ls a w→Ordr l f ls L→wpOpsIn F n P l Q L a w:=by
 intro f
 induction f with
 | zero=>intro ls L a w h hL;rw [show L=[]from hL];exact h.2
 | succ f ih=>
   intro ls L a w h hL
   rcases hL with⟨h1,rfl⟩ | ⟨i,L',rfl,hi,hL'⟩
   ·exact h.1 h1
   ·exact wpOpIn_mono (fun a w h2=>ih _ _ a w h2 hL') (h.2 i hi)
def addE:List Oper→Nat→Nat→List Oper
 | [],_,_=> []
 | o::l,0,i=>{o with after:=o.after.push ⟨i,.data⟩}::l
 | o::l,j+1,i=>o::addE l j i
theorem addE_len:∀l j i,(addE l j i).length=l.length
 | [],_,_=>rfl
 | _::_,0,_=>rfl
 | o::l,j+1,i=>by simp [addE,addE_len]
theorem addE_ne {k}:∀l j i,k≠j→(addE l j i)[k]?=l[k]?
 | [],_,_,_=>rfl
 | o::l,0,i,h=>by
   cases k with
   | zero=>omega
   | succ k=>rfl
 | o::l,j+1,i,h=>by
   cases k with
   | zero=>rfl
   | succ k=>simpa [addE]using addE_ne l j i (by omega)
theorem addE_eq:∀l j i,(addE l j i)[j]?=(l[j]?).map fun o=>{o with after:=o.after.push ⟨i,.data⟩}
 | [],_,_=>rfl
 | o::l,0,i=>rfl
 | o::l,j+1,i=>by simp [addE,addE_eq]
theorem getD_true {ls:Array Bool} {i} (h:ls.getD i true=false) b:i < ls.size∧ls.getD i b=false:=by
 grind
theorem ready_ne {l} {j i k} {ls} (h:k≠j):k∈Region.ready .any (addE l j i).toArray ls↔k∈Region.ready .any l.toArray ls:=by
 simp_all [mem_ready,addE_ne]
theorem ready_sub {l} {j i k} {ls} (h:k∈Region.ready .any (addE l j i).toArray ls):k∈Region.ready .any l.toArray ls:=by
 by_cases hk:k=j
 ·subst hk
  rw [mem_ready]at h ⊢
  obtain⟨h1,o,h2,h3⟩:=h
  simp [addE_eq]at h2
  grind
 simp_all [ready_ne]
theorem ready_listed {l} {j i k} {ls} (hi:ls.getD i false=true) (h:k∈Region.ready .any l.toArray ls):k∈Region.ready .any (addE l j i).toArray ls:=by
 by_cases hk:k=j
 ·rw [mem_ready]at h ⊢
  obtain⟨h1,o,h2,h3⟩:=h
  refine⟨h1,{o with after:=o.after.push ⟨i,.data⟩},?_,fun e he hb=>?_⟩
  ·simp_all [addE_eq]
  grind
 simp_all [ready_ne]
theorem ready_nil_sub {l} {j i} {ls} (h:Region.ready .any l.toArray ls=[]):Region.ready .any (addE l j i).toArray ls=[]:=by
 rw [List.eq_nil_iff_forall_not_mem]at h ⊢
 exact fun k hk=>h k (ready_sub hk)
theorem getD_setT {ls:Array Bool} {i k} (h:ls.getD k false=true):(ls.setIfInBounds i true).getD k false=true:=by
 by_cases hk:i=k
 ·rcases Nat.lt_or_ge i ls.size with h' | h'
  ·simp_all
  grind
 simp_all
theorem Ordr.add {l} {j i}:∀f ls L,ls.getD i false=true→Ordr l.toArray f ls L→Ordr (addE l j i).toArray f ls L:=by
 intro f
 induction f with
 | zero=>intro ls L _ h;exact h
 | succ f ih=>
   intro ls L hi h
   rcases h with⟨h1,h2⟩ | ⟨k,L',h1,h2,h3⟩
   ·exact .inl ⟨ready_nil_sub h1,h2⟩
   ·exact .inr ⟨k,L',h1,ready_listed hi h2,ih _ _ (getD_setT hi) h3⟩
theorem Ordr.split {l} {i j} (hij:i≠j):∀f ls L,Ordr l.toArray f ls L→Ordr (addE l j i).toArray f ls L∨Ordr (addE l i j).toArray f ls L:=by
 intro f
 induction f with
 | zero=>intro ls L h;exact .inl h
 | succ f ih=>
   intro ls L h
   rcases h with⟨h1,h2⟩ | ⟨k,L',h1,h2,h3⟩
   ·exact .inl (.inl ⟨ready_nil_sub h1,h2⟩)
   ·have hset:(ls.setIfInBounds k true).getD k false=true:=by
     have:=(getD_true (mem_ready.1 h2).1 false).1
     simp_all
    by_cases hki:k=i
    ·subst hki
     exact .inl (.inr ⟨k,L',h1,(ready_ne hij).2 h2,h3.add f _ _ hset⟩)
    ·by_cases hkj:k=j
     ·subst hkj
      exact .inr (.inr ⟨k,L',h1,(ready_ne (Ne.symm hij)).2 h2,h3.add f _ _ hset⟩)
     ·rcases ih _ _ h3 with h4 | h4
      ·exact .inl (.inr ⟨k,L',h1,(ready_ne hkj).2 h2,h4⟩)
      ·exact .inr (.inr ⟨k,L',h1,(ready_ne hki).2 h2,h4⟩)
structure Alike(q:Nat→Nat) (o o':Oper):Prop where
 dst:o'.dst=o.dst
 op:o'.op=o.op
 type:o'.type=o.type
 pos:o'.pos=o.pos
 guard:o'.guard=o.guard.map fun g=>(q g.1,g.2)
theorem Alike.wpIn {q} {o o'} (h:Alike q o o') {F} {n} {P} {a} {w} {K} {Q}:o'.wpIn F n P a w K Q=o.wpIn F n P a w K Q:=by
 obtain⟨h1,h2,h3,h4,h5⟩:=h
 obtain⟨d,p,t,s,af,g⟩:=o
 subst h1;subst h2;subst h3;rfl
theorem wpOps_alike {q} {l l'} (h:∀i,(l[i]?=none∧l'[q i]?=none)∨∃o o',l[i]?=some o∧l'[q i]?=some o'∧Alike q o o') {F} {n} {P} {Q}:
  ∀L a w,wpOpsIn F n P l' Q (L.map q) a w→wpOpsIn F n P l Q L a w:=by
 have hy:∀tm j,yielded l' tm (q j)=yielded l tm j:=by
  intro tm j
  unfold yielded
  rcases h j with⟨h1,h2⟩ | ⟨o,o',h1,h2,h3⟩
  ·grind
  ·rw [h1,h2];simp [Option.bind_some,h3.dst]
 intro L
 induction L with
 | nil=>intro a w h;exact h
 | cons i L ih=>
   intro a w hh
   simp [List.map_cons,wpOpsIn]at hh ⊢
   rcases h i with⟨h1,h2⟩ | ⟨o,o',h1,h2,h3⟩
   ·grind
   ·rw [h2]at hh
    rw [h1]
    simp at hh ⊢
    have hw:Region.wanted o' (yielded l' a.tmps)=Region.wanted o (yielded l a.tmps):=by
     unfold Region.wanted
     rw [h3.guard]
     grind
    rw [hw]at hh
    split
    ·rename_i hc
     rw [if_pos hc,h3.wpIn]at hh
     grind [Oper.wpIn_mono]
    ·rename_i hc
     rw [if_neg hc,h3.dst]at hh
     have:o'.about P w a.eval=o.about P w a.eval:=by
      unfold Oper.about;rw [h3.op,h3.type]
     grind
def renO(q:List Nat) (o:Oper):Oper:={o with after:=o.after.map fun e=>⟨q.getD e.on 0,e.ground⟩,guard:=o.guard.map fun g=>(q.getD g.1 0,g.2)}
def atO(l:List Oper) (i:Nat):Oper:=l[i]?.getD default
def permL(p q:List Nat) (l:List Oper):List Oper:=p.map fun i=>renO q (atO l i)
def permOk(p q:List Nat) (l:List Oper):Bool:=
 p.length==l.length && q.length==l.length && (List.range l.length).all fun i=>decide (p.getD i 0 < l.length) && decide (q.getD i 0 < l.length) && (p.getD (q.getD i 0) 0==i) && (q.getD (p.getD i 0) 0==i)
section
variable {P : Program} {n : Nat} {Q : AX → St → Prop}
def OrdR(P:Program) (n:Nat) (l:List Oper) (s:St) (Q:AX→St→Prop):Prop:=∀fo m a w,G fo n m s a w→∀L,Ordr l.toArray l.length (Array.replicate l.length false) L→wpOpsIn (wr fo.r) 0 P l.toArray (Post fo n m w Q) L a {w with drawn:=w.drawn+1}
theorem OrdR.region {id} {l} {s} (hm:P.follows .mixedOrders=true) (h:OrdR P n l s Q):AWP P n (.region id l.toArray true) s Q:=by
 intro fo m a w _ g
 refine wpIn_region_draw fun t=>?_
 simp [Region.schedule]
 refine h fo m a w g _ ?_
 grind [linearise_ordr,Array.replicate,Region.linearise]
theorem OrdR.edge {l} {s} i j (hij:i≠j) (h1:OrdR P n (addE l j i) s Q) (h2:OrdR P n (addE l i j) s Q):OrdR P n l s Q:=by
 have key:∀j i {fo:FO} {a:Act} {w:World} {Q:Exit→Act→World→Prop} {L:List Nat},wpOpsIn (wr fo.r) 0 P (addE l j i).toArray Q L a w→wpOpsIn (wr fo.r) 0 P l.toArray Q L a w:=by
  intro j i fo a w Q L h
  refine wpOps_alike (q:=id) (l':=(addE l j i).toArray) (fun k=>?_) L a w (by simp_all)
  simp only [id_eq,List.getElem?_toArray]
  by_cases hk:k=j
  ·subst hk
   rw [addE_eq]
   cases l[k]? with
   | none=>simp
   | some o=>exact .inr ⟨o,_,rfl,rfl,⟨rfl,rfl,rfl,rfl,by simp⟩⟩
  ·rw [addE_ne l j i hk]
   cases l[k]? with
   | none=>simp
   | some o=>exact .inr ⟨o,_,rfl,rfl,⟨rfl,rfl,rfl,rfl,by simp⟩⟩
 intro fo m a w g L hL
 rcases Ordr.split hij _ _ _ hL with hL | hL
 ·exact key j i (h1 fo m a w g L (by simp_all [addE_len]))
 ·exact key i j (h2 fo m a w g L (by simp_all [addE_len]))
theorem Ordr.map {l l':List Oper} {q p:Nat→Nat} (hlen:l'.length=l.length) (hl:∀i,i < l.length→q i < l.length∧p (q i)=i) (hp:∀i,i < l.length→p i < l.length∧q (p i)=i)
  (h:∀i,i < l.length→∀o,l[i]?=some o→∃o',l'[q i]?=some o'∧o'.after=o.after.map fun e=>⟨q e.on,e.ground⟩) (hin:∀(i:Nat) (o:Oper),l[i]?=some o→∀e∈o.after,e.on < l.length):
  ∀f ls ls' L,ls.size=l.length→ls'.size=l.length→(∀i,i < l.length→ls'.getD (q i) false=ls.getD i false)→Ordr l.toArray f ls L→Ordr l'.toArray f ls' (L.map q):=by
 have rdy:∀(ls ls':Array Bool),ls.size=l.length→ls'.size=l.length→(∀i,i < l.length→ls'.getD (q i) false=ls.getD i false)→∀i,i < l.length→(q i∈Region.ready .any l'.toArray ls'↔i∈Region.ready .any l.toArray ls):=by
  intro ls ls' h1 h2 h3 i hi
  have ho:=List.getElem?_eq_getElem hi
  obtain⟨o',ho',ha⟩:=h i hi _ ho
  have ho2:l'.toArray[q i]?=some o':=by grind
  have ho3:l.toArray[i]?=some l[i]:=by simp
  have hg:∀k b,k < l.length→ls.getD k b=ls.getD k false:=fun k b hk=>getD_lt (by omega)
  have hg':∀k b,k < l.length→ls'.getD k b=ls'.getD k false:=fun k b hk=>getD_lt (by omega)
  rw [mem_ready,mem_ready,hg i true hi,hg' _ true (hl i hi).1,h3 i hi,ho2,ho3]
  refine and_congr_right fun _=>?_
  constructor
  ·rintro⟨o2,ho2,hk⟩
   obtain rfl:=Option.some.inj ho2
   refine⟨_,rfl,fun e he hb=>?_⟩
   have:=hk ⟨q e.on,e.ground⟩ (by grind) hb
   grind
  ·rintro⟨o2,ho2,hk⟩
   obtain rfl:=Option.some.inj ho2
   refine⟨_,rfl,fun e he hb=>?_⟩
   rw [ha]at he
   obtain⟨e0,he0,rfl⟩:=Array.mem_map.1 he
   have:=hk e0 he0 hb
   grind
 intro f
 induction f with
 | zero=>intro ls ls' L _ _ _ hL;rw [show L=[]from hL];rfl
 | succ f ih=>
   intro ls ls' L h1 h2 h3 hL
   rcases hL with⟨h4,rfl⟩ | ⟨k,L',rfl,h5,h6⟩
   ·refine .inl ⟨?_,rfl⟩
    rw [List.eq_nil_iff_forall_not_mem]at h4 ⊢
    intro k hk
    have hkl:k < l.length:=by
     grind [mem_ready,Array.getElem?_eq_some_iff]
    grind
   ·have hkl:k < l.length:=by
     grind [mem_ready,Array.getElem?_eq_some_iff]
    refine .inr ⟨q k,L'.map q,rfl,(rdy ls ls' h1 h2 h3 k hkl).2 h5,ih _ _ _ (by grind) (by grind) (fun i hi=>?_) h6⟩
    by_cases hik:k=i
    ·simp_all
    ·have hq:q k≠q i:=by
      grind
     simp_all
def inE(l:List Oper):Bool:=l.all fun o=>(o.after.toList.all fun e=>decide (e.on < l.length)) && (match o.guard with | some g=>decide (g.1 < l.length) | none=>true)
theorem OrdR.perm {l} {s} p q (hp:permOk p q l=true) (hi:inE l=true) (h:OrdR P n (permL p q l) s Q):OrdR P n l s Q:=by
 unfold permOk at hp
 simp only [Bool.and_eq_true,beq_iff_eq,List.all_eq_true,List.mem_range,decide_eq_true_eq]at hp
 obtain⟨⟨p1,p2⟩,p3⟩:=hp
 have hlen:(permL p q l).length=l.length:=by simp [permL,p1]
 have hat:∀i,i < l.length→(permL p q l)[q.getD i 0]?=some (renO q (atO l i)):=by
  grind [permL,List.getElem?_eq_getElem]
 have hao:∀(i:Nat) (o:Oper),l[i]?=some o→atO l i=o:=by simp_all [atO]
 have q0:∀i,l.length≤i→q.getD i 0=0:=by
  grind
 let qf:Nat→Nat:=fun i=>if i < l.length then q.getD i 0 else i
 let pf:Nat→Nat:=fun i=>if i < l.length then p.getD i 0 else i
 have hqf:∀i,i < l.length→qf i=q.getD i 0:=fun i hi=>if_pos hi
 have hpf:∀i,i < l.length→pf i=p.getD i 0:=fun i hi=>if_pos hi
 unfold inE at hi
 simp only [List.all_eq_true,Bool.and_eq_true,decide_eq_true_eq]at hi
 intro fo m a w g L hL
 have hL2:Ordr (permL p q l).toArray l.length (Array.replicate l.length false) (L.map qf):=by
  refine Ordr.map (p:=pf) hlen (fun i hi=>?_) (fun i hi=>?_) (fun i hi' o ho=>?_) (fun i o ho e he=>?_) _ _ _ _ (by simp) (by simp) (fun i hi=>?_) hL
  ·grind
  ·grind
  ·rw [hqf i hi']
   refine⟨_,hat i hi',?_⟩
   rw [hao i o ho]
   simp only [renO]
   have hoi:=(hi o (List.mem_of_getElem? ho)).1
   simp_all
  ·grind
  simp_all
 refine wpOps_alike (q:=qf) (l':=(permL p q l).toArray) (fun i=>?_) L a _ (h fo m a w g _ (by grind))
 simp only [List.getElem?_toArray]
 by_cases hi':i < l.length
 ·right
  refine⟨l[i],renO q l[i],List.getElem?_eq_getElem hi',?_,⟨rfl,rfl,rfl,rfl,?_⟩⟩
  ·grind
  ·simp only [renO]
   have hoi:=(hi l[i] (List.getElem_mem hi')).2
   cases hg:l[i].guard with
   | none=>rfl
   | some g=>
     grind
 grind
theorem OrdR.m0 {l} {s} rg us (ok:okM n l rg=true)
  (h:runM P l.toArray (l.zip rg) (s.fr.map fun e=>(e.1,0,e.2)) [] [s.L] us [] (fun fr ks Ls=>Q .normal ⟨frAt ks ks.length fr,Ls.getD ks.length []⟩)):OrdR P n l s Q:=by
 intro fo m a w g L hL
 obtain⟨tr,frE,ks,Ls,h1,h2,-,h4⟩:=runM_tr (l.zip rg) _ [] [s.L] us [] rfl h
 exact Ordr.run _ _ _ _ _ (any_startM ok h1 h2 rfl h4 g _) hL
theorem AWP.regionE {id} {l} {s} (hm:P.follows .mixedOrders=true) (h:OrdR P n l s (fun x s'=>∀bs,Q x (s'.opn bs))):AWP P n (.region id l.toArray true) s Q:=
 AWP.opened (OrdR.region hm h)
theorem AWP.openPre {c} {s} (h:∀bs,AWP P n c (s.opn bs) Q):AWP P n c s Q:=fun fo m a w hr g=>by
 obtain⟨bs,g2⟩:=g.opn
 exact h bs fo m a w hr g2
theorem AWP.merge {c c2} {s} s0 (h1:AWP P n c s (fun x s'=>x= .normal∧Wk n s' s0)) (h2:∀bs,AWP P n c2 (s0.opn bs) Q):AWP P n (.seq c c2) s Q:=
 AWP.seq (AWP.mono h1 fun x s' ⟨hx,hw⟩=>by subst hx;exact AWP.weaken hw (AWP.openPre h2))
attribute [simp] addE renO atO permL
end
end Go.Ab
namespace Go.Ab
open Go.Proofs Go.Proofs.Tryz
set_option maxHeartbeats 4000000
set_option maxRecDepth 20000
@[simp] theorem opnR_mp(bs:Nat→Nat) (h:Nat) (es:List ME):opnR bs h (.mp es)= .mp es:=rfl
def szP(n:Nat) (pre:List GIns):List Int:=szL (zipZ pre)++List.replicate (n-pre.length) 0
theorem szP_len {n:Nat} {pre:List GIns} (h:pre.length≤n):(szP n pre).length=n:=by simp [szP,szL,zipZ];omega
theorem szP_set {n:Nat} {pre:List GIns} (h:pre.length < n) (x:GIns) (v:Int) (hv:v=(lenP (x,0):Int)):(szP n pre).set pre.length v=szP n (pre++ [x]):=by
 unfold szP
 have hl:(szL (zipZ pre)).length=pre.length:=by simp [szL,zipZ]
 have e:n-pre.length=(n-(pre++ [x]).length)+1:=by simp;omega
 rw [List.set_append_right _ _ (by omega),hl,Nat.sub_self,e,List.replicate_succ,List.set_cons_zero]
 simp [szL,zipZ,hv]
theorem szP_set2 {n:Nat} {pre:List GIns} (v w:Int):((szP n pre).set pre.length v).set pre.length w=(szP n pre).set pre.length w:=by simp
theorem codeZ_snoc(w:Zl) (p:GIns×Nat):∀(a:Zl) (k:Nat),codeZ w k (a++ [p])=codeZ w k a++codeP w (k+lenZ a) p
 | [],k=>by simp [codeZ,lenZ]
 | q::a,k=>by rw [List.cons_append,codeZ,codeZ_snoc w p a,codeZ,lenZ_cons,List.append_assoc,Nat.add_assoc]
theorem asmAsm_ok(l:List GIns) (hl:l.length≤1000000000):Pure prog 21 [.d (.sl (l.map GIns.enc))] (.tup [.d (.sl (encY (asmM l).1)),iD (asmM l).2]):=by
 rw [←asmP_eq]
 have hW:=wrong_ok l hl
 refine Pure.runA func21 rfl (by simp [f21]) ?_
 simp only [f21]
 refine AWP.seqK ?_
 simp [-cB]
 by_cases hw:wrongM l=0
 ·have hu:=wrongM_nodup hw
  have hwb:(wrongM l !=0)=false:=by simpa using hw
  have hz0:(zipZ l).length=l.length:=by simp [zipZ]
  obtain⟨zF,hzF⟩:=sizesP_ok (3 *l.length+1) (zipZ l) (by intro p hp;obtain⟨i,_,rfl⟩:=List.mem_map.1 hp;simp) (by rw [hz0];omega)
  have hasm:asmP l=if 65536 < lenZ zF then([],3)else if outF zF 0 zF=true then([],3)else(codeZ zF 0 zF,0):=by
   unfold asmP
   rw [if_neg (by simpa using hw),hzF]
  refine AWP.scopeR 0 (fun j s'=>∃(wb:Nat) (y:Lay),s'=⟨[(0,.d (.sl (l.map GIns.enc))),(5,.bp 5301 0)],layH wb l y⟩∧y.Ok l∧sizesP j y.z=some zF) (by rfl) (by intro h;exact absurd h (by decide)) ?_ fun hp=>?_
  ·rintro j s' ⟨wb,y,rfl,hok,hsz⟩
   cases j with
   | zero=>cases hsz
   | succ j=>
     have hG:=fun bb=>asmGrow_ok bb l hl y hu hok
     have hok':=growT_ok hu hok l.length
     have hpass:=growT_pass y l.length
     have hyl:=lay_len hok.1
     rw [sizesP,hyl,←hpass]at hsz
     generalize growT y l.length=yb at *
     obtain⟨y',b⟩:=yb
     simp only at hsz hG hok'
     have hPl:=fun bb=>asmPlace_ok bb l hl y' hok'
     cases b with
     | true=>
       simp only [if_true]at hsz
       unfold layH at hG ⊢
       simp [-cB]
       refine eD [5301,5302,5303,5304] ((hG _)) ?_
       simp [-cB]
       refine codeK_gotoW (Wk.pick [0,5] [5301,5302,5303,5304] (by rfl) (by decide) (by simp)) ?_
       simp [-cB]
       exact⟨j,by omega,_,y',⟨rfl,rfl,rfl,rfl⟩,hok',hsz⟩
     | false=>
       simp only [Bool.false_eq_true,if_false,Option.some.injEq]at hsz
       unfold layH at hG hPl ⊢
       simp [-cB]
       refine eD [5301,5302,5303,5304] ((hG _)) ?_
       simp [-cB]
       refine eD [5301,5302,5303,5304] ((hPl _)) ?_
       have hF:=fun bb k hk=>asmFar_ok bb l hl y' hu hok' k hk
       obtain⟨h1,h2,h3,h4⟩:=hok'
       have hzl:=lay_len h1
       have hat:(y'.place.at_)[l.length]?=some (lenZ zF:Int):=by
        unfold Lay.place
        rw [atL_get _ (by omega),List.take_of_length_le (by omega),hsz]
       have hal:(y'.place.at_).length=l.length+1:=by
        unfold Lay.place
        rw [atL_len,hzl]
       have hpz:y'.place.z=y'.z:=rfl
       unfold layH at hF
       rw [hpz]at hF
       rw [hpz]
       rw [hsz]at h1 h4 hzl hF ⊢
       generalize y'.place.at_=A at *
       generalize y'.place.M=M at *
       have hlt0:l.length < l.length+1:=by omega
       have hg0:∀h:l.length < A.length,A[l.length]'h=(lenZ zF:Int):=fun h=>by rw [List.getElem?_eq_getElem h]at hat;exact Option.some.inj hat
       by_cases hL:65536 < lenZ zF
       ·have hLi:(65536:Int) < lenZ zF:=by omega
        rw [if_pos hL]at hasm
        simp [-cB,hal,hat,hlt0,hg0,hLi,hasm]
        rfl
       ·have hLi:¬(65536:Int) < lenZ zF:=by omega
        rw [if_neg hL]at hasm
        simp [-cB,hal,hat,hlt0,hg0,hLi]
        clear hPl hG hpass hat hg0
        refine AWP.weaken (Wk.own' (t:=8) (h:=5305) (k:=1) (ty:=5) (by rfl) (by simp [keys])) ?_
        refine AWP.loopL [5,8,67,68,69] l (fun pre=> [(69,iD pre.length)]) (fun pre=> [(5305,.row 5 1 (dd (encY (codeZ zF 0 (zF.take pre.length)))))]) (fun pre=>outF zF pre.length (zF.drop pre.length)=outF zF 0 zF) (by rfl) (by omega) (by simp [codeZ,encY]) ?_ ?_
        ·rintro pre x post hsp hO hlt hge a4
         have hk:pre.length < zF.length:=by omega
         have hz:zF[pre.length]?=some zF[pre.length]:=List.getElem?_eq_getElem hk
         have hzx:zF[pre.length].1=x:=by
          have:(zF.map Prod.fst)[pre.length]?=some x:=by rw [h1,hsp];simp
          rw [List.getElem?_map,hz]at this
          exact Option.some.inj this
         have hF:=fun bb=>hF bb pre.length hlt
         rw [hge]at hF
         clear hsp
         have htk:zF.take (pre.length+1)=zF.take pre.length++ [zF[pre.length]]:=by rw [List.take_add_one,hz];rfl
         have hcs:=codeZ_snoc zF zF[pre.length] (zF.take pre.length) 0
         rw [←htk,Nat.zero_add]at hcs
         have hls:=lenZ_succ zF pre.length hk
         rw [List.drop_eq_getElem_cons hk,outF,hzx]at hO
         have hA:=asks_ok x
         have hE:=opEncode_ok x
         have hlp:=lenP_eq zF[pre.length]
         rw [hzx]at hlp
         have hq2:=h4 _ (List.getElem_mem hk)
         have hcl:(codeZ zF 0 (zF.take pre.length)).length≤65536:=by
          rw [codeZ_len zF 0 (zF.take pre.length) (fun p hp=>h4 p (List.mem_of_mem_take hp))]
          have:=lenZ_take_le zF pre.length zF.length (by omega)
          rw [List.take_length]at this
          omega
         unfold codeP at hcs
         rw [hzx,←hls]at hcs
         obtain⟨F,hFd⟩:∃F,farI zF pre.length x=F:=⟨_,rfl⟩
         have hFz:farZ zF x.Arg (lenZ (zF.take (pre.length+1)))=F:=hFd
         rw [hFd]at hF hO
         rw [hFz]at hcs
         have hsl:(szL zF).length=l.length:=by simp [szL,hzl]
         have hsg:∀h:pre.length < (szL zF).length,(szL zF)[pre.length]'h=(lenP zF[pre.length]:Int):=fun h=>by simp [szL]
         have hel:=encM_len x
         generalize hC:codeZ zF 0 (zF.take pre.length)=C at *
         generalize zF[pre.length].2=q at *
         generalize lenP zF[pre.length]=lp at *
         cases hj:jmp x.Op with
         | false=>
           have hc2:codeZ zF 0 (zF.take (pre.length+1))=C++encM x:=by
            rw [hcs]
            by_cases h38:x.Op=38
            ·rw [if_pos h38];unfold encM;rw [if_pos (by omega)]
            ·rw [if_neg h38,hj];simp
           rw [hj]at hA hO
           simp at hO
           simp [-cB,hlt,hge,hC]
           intro bs
           refine pC hA ?_
           simp [-cB,hlt,hge]
           refine pC hE ?_
           simp [-cB,hlt,hge,a4,hc2,hO]
           exact⟨encY_one _,by omega⟩
         | true=>
           have hjo:x.Op=24∨x.Op=25:=by unfold jmp at hj;simpa using hj
           rw [hj]at hA hO hlp
           simp at hO hlp
           have hI:=wIs_ok F
           rw [int16_eq]at hI
           have hc2:codeZ zF 0 (zF.take (pre.length+1))=C++encK x.Op F q:=by
            rw [hcs,if_neg (by omega),hj];simp
           simp [-cB,hlt,hge,hC]
           intro bs
           refine pC hA ?_
           simp [-cB,hlt,hge]
           refine eD [5301,5302,5303,5304] ((hF _)) ?_
           simp [-cB,hlt,hge]
           refine pC hI ?_
           cases hIb:int16B F with
           | false=>
             rw [hIb]at hO
             simp at hO
             rw [←hO]at hasm
             simp at hasm
             simp [-cB,hasm]
             rfl
           | true=>
             rw [hIb]at hO
             simp at hO
             have u2:IntKind.u8.wrap (F.fdiv (2 ^ min 8 IntKind.i64.bits))=F / 256 % 256:=by
              rw [show((2:Int) ^ min 8 IntKind.i64.bits)=256 by decide,Int.fdiv_eq_ediv_of_nonneg _ (by decide)];rfl
             have u3:IntKind.u8.wrap F=F % 256:=rfl
             have u1:IntKind.u8.wrap (4 *x.Op+(lp:Int)-1)=4 *x.Op+q:=by
              rw [hlp,show 4 *x.Op+((1+q:Nat):Int)-1=4 *x.Op+q by omega]
              exact inR_wrap ⟨by show(0:Int)≤_;omega,by show _≤(255:Int);omega⟩
             have i1:inR .i64 (4 *x.Op):=iW
             have i2:inR .i64 (4 *x.Op+(lp:Int)):=iW
             have i3:inR .i64 (4 *x.Op+(lp:Int)-1):=iW
             have i4:inR .i64 (3-(lp:Int)):=iW
             simp [-cB,u2,u3]
             refine AWP.weaken (Wk.freeze 92 (ys:=encY [F / 256 % 256,F % 256]) (by rfl)) ?_
             simp [-cB]
             refine AWP.regionM0 [some (0,1),some (0,0),some (0,0),some (0,0),some (0,0),some (0,0),some (0,0),some (0,0),some (0,0),some (0,0),some (0,0),some (0,0),some (0,0),some (0,0),none,none,some (0,2),some (0,2),some (0,2),some (0,2),some (0,2),some (0,2),some (0,2),some (0,2),some (0,2),some (0,2),none,some (3,3)] [] tmix (by kernel_rfl) ?_
             have ed:List.drop (3-lp) (List.take 2 (encY [F / 256 % 256,F % 256]))=encY (List.drop (3-lp) [F / 256 % 256,F % 256]):=by
              rw [List.take_of_length_le (by simp)]
              exact List.map_drop.symm
             simp [-cB,hsl,hsg,hlt,u1,i1,i2,i3,i4]
             rw [ed,hc2]
             refine⟨by omega,⟨⟨by omega,by omega⟩,encY_one _⟩,⟨encY_one _,by omega⟩,a4,?_,hO⟩
             have h012:q=0∨q=1∨q=2:=by omega
             rcases h012 with rfl | rfl | rfl <;> subst hlp <;> simp [encK,argB,dd,encY]
        ·intro hO
         rw [List.drop_of_length_le (by omega)]at hO
         have hO2:outF zF 0 zF=false:=hO.symm
         rw [hO2]at hasm
         simp at hasm
         have htz:zF.take l.length=zF:=List.take_of_length_le (by omega)
         simp [-cB,hasm,htz]
  ·refine AWP.seqK ?_
   simp [-cB]
   refine pC hW ?_
   simp [-cB,hw,hwb]
   refine AWP.merge ⟨[(0,.d (.sl (l.map GIns.enc))),(5,.bp 28 0)],[(28,.box 0 91 [.d (.sl (l.map GIns.enc)),.rv 21,.rv 25,.rv 26]),(21,.row 3 1 (dd (encI (List.replicate l.length 0)))),(25,.row 3 1 (dd (encI (List.replicate (l.length+1) 0)))),(26,.mp [])]⟩ ?_ ?_
   ·have m1:l.length≤maxLen:=by unfold maxLen;omega
    have m2:8 *l.length≤140737488355328:=by omega
    have m3:inR .i64 ((l.length:Int)+1):=iW
    have m4:(l.length:Int)+1≤maxLen:=by unfold maxLen;omega
    have m5:8 *(l.length+1)≤140737488355328:=by omega
    have m6:0≤(l.length:Int)+1:=by omega
    refine AWP.regionE tmix (OrdR.edge 3 7 (by decide) (OrdR.edge 3 8 (by decide) (OrdR.edge 7 8 (by decide) (OrdR.m0 [some (0,3),some (0,0),some (0,0),none,some (0,1),some (0,1),some (0,1),none,none,some (3,3),none,some (4,4)] [] (by kernel_rfl) ?_) (OrdR.perm [0,1,2,3,4,5,6,8,7,9,10,11] [0,1,2,3,4,5,6,8,7,9,10,11] (by kernel_rfl) (by kernel_rfl) (OrdR.m0 [some (0,3),some (0,0),some (0,0),none,some (0,2),some (0,2),some (0,2),none,none,some (3,3),none,some (4,4)] [] (by kernel_rfl) ?_))) (OrdR.perm [0,1,2,4,5,6,8,3,7,9,10,11] [0,1,2,7,3,4,5,8,6,9,10,11] (by kernel_rfl) (by kernel_rfl) (OrdR.m0 [some (0,3),some (0,1),some (0,1),some (0,2),some (0,2),some (0,2),none,none,none,some (3,3),none,some (4,4)] [] (by kernel_rfl) ?_))) (OrdR.edge 3 8 (by decide) (OrdR.perm [0,1,2,4,5,6,7,3,8,9,10,11] [0,1,2,7,3,4,5,6,8,9,10,11] (by kernel_rfl) (by kernel_rfl) (OrdR.m0 [some (0,3),some (0,1),some (0,1),some (0,0),some (0,0),some (0,0),none,none,none,some (3,3),none,some (4,4)] [] (by kernel_rfl) ?_)) (OrdR.edge 7 8 (by decide) (OrdR.perm [0,1,2,4,5,6,7,8,3,9,10,11] [0,1,2,8,3,4,5,6,7,9,10,11] (by kernel_rfl) (by kernel_rfl) (OrdR.m0 [some (0,3),some (0,2),some (0,2),some (0,0),some (0,0),some (0,0),none,none,none,some (3,3),none,some (4,4)] [] (by kernel_rfl) ?_)) (OrdR.perm [0,1,2,4,5,6,8,7,3,9,10,11] [0,1,2,8,3,4,5,7,6,9,10,11] (by kernel_rfl) (by kernel_rfl) (OrdR.m0 [some (0,3),some (0,2),some (0,2),some (0,1),some (0,1),some (0,1),none,none,none,some (3,3),none,some (4,4)] [] (by kernel_rfl) ?_)))))
    all_goals
     simp [-cB,m1,m2,m3,m4,m5,m6]
     intro bs1
     refine(Wk.rlx [28]).trans ?_
     refine Wk.pick [0,5] [28,21,25,26] (by rfl) (by decide) ?_
     simp [St.pick,St.rlx,St.on,V.on,V.ons,Res.rlx]
   ·intro bs3
    refine AWP.seqK ?_
    simp [-cB]
    refine AWP.weaken (Wk.ren 28 5301 (by simp)) ?_
    simp [-cB,V.rens,V.ren]
    refine AWP.weaken (Wk.ren 21 5302 (by simp)) ?_
    simp [-cB,V.rens,V.ren]
    refine AWP.weaken (Wk.ren 25 5303 (by simp)) ?_
    simp [-cB,V.rens,V.ren]
    refine AWP.weaken (Wk.ren 26 5304 (by simp)) ?_
    simp [-cB,V.rens,V.ren]
    have hp1:=fun wb=>hp (3 *l.length+1) _ ⟨wb,⟨zipZ l,List.replicate (l.length+1) 0,[]⟩,rfl,⟨by simp [zipZ,Function.comp_def],by simp,by simp,by intro p hp;obtain⟨i,_,rfl⟩:=List.mem_map.1 hp;simp⟩,hzF⟩
    clear hp
    refine AWP.loopL [0,5,29,30,31] l (fun pre=> [(31,iD pre.length)]) (fun pre=> [(5302,.row 3 1 (dd (encI (szP l.length pre))))]) (fun _=>True) (by rfl) (by omega) (by simp [szP,szL,zipZ]) ?_ ?_
    ·rintro pre x post hsp-hlt hge a4
     clear hsp hp1 hasm hzF
     have hA:=asks_ok x
     have hE:=(opEncode_ok x).ok
     have hsl:=szP_len (Nat.le_of_lt hlt)
     have hs1:=szP_set (n:=l.length) hlt x
     have hs2:=fun v w=>szP_set2 (n:=l.length) (pre:=pre) v w
     have hlp:=lenP_eq (x,0)
     simp only [Nat.add_zero]at hlp
     cases hj:jmp x.Op with
     | false=>
       rw [hj]at hA hlp
       have hs3:=hs1 ((encM x).length:Int) (by rw [hlp];rfl)
       simp [-cB,hlt,hge]
       intro bs4
       refine AWP.regionM0 [some (0,0),some (0,0),some (0,0),some (0,0),some (0,0),some (0,0),some (0,0),some (0,0),some (0,0),none] [.d (.sl (encY (encM x)))] tmix (by kernel_rfl) ?_
       simp [-cB,hlt,hge,hE,hsl,hs3]
       refine pC hA ?_
       simp [-cB,hlt,hge,a4,hs3]
     | true=>
       rw [hj]at hA hlp
       have hs3:=hs1 1 (by rw [hlp];rfl)
       simp [-cB,hlt,hge]
       intro bs4
       refine AWP.regionM0 [some (0,0),some (0,0),some (0,0),some (0,0),some (0,0),some (0,0),some (0,0),some (0,0),some (0,0),none] [.d (.sl (encY (encM x)))] tmix (by kernel_rfl) ?_
       simp [-cB,hlt,hge,hE,hsl,hs3]
       refine pC hA ?_
       simp [-cB,hlt,hge,a4,hsl,hs2,hs3]
    ·intro _
     have hsz:szP l.length l=szL (zipZ l):=by simp [szP]
     simp [-cB]
     refine AWP.seq (AWP.label ?_)
     refine AWP.weaken (Wk.pick [0,5] [5301,5302,5303,5304] (by rfl) (by decide) (by simp)) ?_
     rw [hsz]
     exact hp1 _
 ·refine AWP.scopeR 0 (fun _ _=>False) (by rfl) (by intro h;exact absurd h (by decide)) (fun _ _ h=>h.elim) fun _=>?_
  refine AWP.seqK ?_
  simp [-cB]
  refine pC hW ?_
  have hP:asmP l=([],wrongM l):=by unfold asmP;rw [if_pos hw]
  have hwb:(wrongM l !=0)=true:=by simpa using hw
  simp [-cB,hw,hwb,hP]
  rfl
end Go.Ab
namespace Go.Ab
section
variable {P : Program} {n : Nat} {Q : AX → St → Prop}
end
end Go.Ab
namespace Go.Ab
def V.hide(hx:List (Nat×Value)):V→V
 | .rv g=>match hx.lookup g with
   | some x=> .kn (fun v=>v=x)
   | none=> .rv g
 | y=>y
def Res.hide(hx:List (Nat×Value)):Res→Res
 | .box b ty cs=> .box b ty (cs.map (V.hide hx))
 | r=>r
def hideL(hx:List (Nat×Value)) (L:Heap):Heap:=L.map fun p=>(p.1,p.2.hide hx)
theorem hide_keys hx L:keys (hideL hx L)=keys L:=by simp [hideL]
theorem lookup_mem' {hx:List (Nat×Value)} {g} {x} (h:hx.lookup g=some x):(g,x)∈hx:=lookup_in h
theorem RelV.hide {w} {O} {m} {hx} (hm:∀p∈hx,m p.1=some p.2) {v} {c} (h:RelV w O m v c):RelV w O m v (V.hide hx c):=by
 cases c with
 | rv g=>
   simp [V.hide]
   split
   ·rename_i x hx'
    cases h with
    | rv _ _ e e1=>
      have:=hm _ (lookup_mem' hx')
      rw [e]at this
      exact .kn _ _ (Option.some.inj this)
   omega
 | _=>exact h
theorem RelV.unhide {w} {O} {m} {hx} (hm:∀p∈hx,m p.1=some p.2) {v} {c} (h1:v.oneCell'=true) (h:RelV w O m v (V.hide hx c)):RelV w O m v c:=by
 cases c with
 | rv g=>
   simp [V.hide]at h
   split at h
   ·rename_i x hx'
    cases h with
    | kn _ _ e=>exact .rv g v (by rw [e];exact hm _ (lookup_mem' hx')) h1
   omega
 | _=>exact h
theorem Res.Holds.hide {w} {O} {m} {hx} (hm:∀p∈hx,m p.1=some p.2) {x} {r:Res} (h:r.Holds w O m x):(r.hide hx).Holds w O m x:=by
 cases r with
 | box b ty cs=>
   obtain⟨bb,h1,cur,h2,h3,h4,h5,h6⟩:=h
   refine⟨bb,h1,cur,h2,h3,by grind,h5,fun j v c hv hc=>?_⟩
   rw [List.getElem?_map]at hc
   obtain⟨c0,hc0,rfl⟩:=Option.map_eq_some_iff.1 hc
   exact(h6 j v c0 hv hc0).hide hm
 | row ty k xs=>exact h
 | env A=>exact h
 | mp es=>exact h
theorem Res.Holds.unhide {w} {O} {m} {hx} (hm:∀p∈hx,m p.1=some p.2) {x} {r:Res} (h:(r.hide hx).Holds w O m x):r.Holds w O m x:=by
 cases r with
 | box b ty cs=>
   obtain⟨bb,h1,cur,h2,h3,h4,h5,h6⟩:=h
   refine⟨bb,h1,cur,h2,h3,by simpa using h4,h5,fun j v c hv hc=>?_⟩
   exact(h6 j v (V.hide hx c) hv (by rw [List.getElem?_map,hc];rfl)).unhide hm (h5 j v hv)
 | row ty k xs=>exact h
 | env A=>exact h
 | mp es=>exact h
theorem Inv.hide {fo} {m} {w} {hx} (hm:∀p∈hx,m p.1=some p.2) {L1 L2} (h:Inv fo m (L1++L2) w):Inv fo m (hideL hx L1++L2) w:=by
 have hk:keys (hideL hx L1++L2)=keys (L1++L2):=by
  grind [hide_keys,keys]
 refine⟨by rw [hk];exact h.nodup,fun i x hi=>by rw [hk];exact h.dom i x hi,h.apart,h.others,h.folt,fun i r hr=>?_,h.glob⟩
 rcases List.mem_append.1 hr with hr | hr
 ·obtain⟨p,hp,he⟩:=List.mem_map.1 hr
  cases he
  obtain⟨x,hx1,hh⟩:=h.holds p.1 p.2 (List.mem_append_left _ hp)
  exact⟨x,hx1,hh.hide hm⟩
 ·exact h.holds i r (List.mem_append_right _ hr)
theorem Inv.unhide {fo} {m} {w} {hx} (hm:∀p∈hx,m p.1=some p.2) {L1 L2} (h:Inv fo m (hideL hx L1++L2) w):Inv fo m (L1++L2) w:=by
 have hk:keys (hideL hx L1++L2)=keys (L1++L2):=by
  grind [hide_keys,keys]
 refine⟨by rw [←hk];exact h.nodup,fun i x hi=>by rw [←hk];exact h.dom i x hi,h.apart,h.others,h.folt,fun i r hr=>?_,h.glob⟩
 rcases List.mem_append.1 hr with hr | hr
 ·obtain⟨x,hx1,hh⟩:=h.holds i (r.hide hx) (List.mem_append_left _ (List.mem_map.2 ⟨(i,r),hr,rfl⟩))
  exact⟨x,hx1,hh.unhide hm⟩
 ·exact h.holds i r (List.mem_append_right _ hr)
section
variable {P : Program} {n : Nat} {Q : AX → St → Prop}
def boxesOf(L:Heap):List Nat:=L.filterMap fun p=>match p.2 with | .box (_+1) _ _=>some p.1 | _=>none
theorem hide_boxes hx L:boxesOf (hideL hx L)=boxesOf L:=by
 unfold boxesOf
 induction L with
 | nil=>rfl
 | cons p L ih=>
   obtain⟨k,r⟩:=p
   have e:hideL hx ((k,r)::L)=(k,r.hide hx)::hideL hx L:=rfl
   rw [e]
   cases r with
   | box b ty cs=>grind [Res.hide]
   | _=>simp [Res.hide,ih]
theorem LOp.callH {ops} {o} {s:St} {c} {f} {args} {L1 L1'} {x} r (hs hid:List Nat) (hop:o.op= .call c) (h:∀hx:List (Nat×Value),hx.map Prod.fst=hid→ACalls P f args (hideL hx L1) (fun r L=>r= .ret x∧L=hideL hx L1'))
  (hc:callee s.ev c=some (f,args)) (hg:o.guard=none)
  (he:enters P f=true) (hL:s.L.filter (fun p=>hs.contains p.1)=L1) (hh:hid.all (fun k=>(keys (s.L.filter fun p=>!hs.contains p.1)).contains k)=true)
  (ho:V.ons (keys L1) args=true∧(∀hx:List (Nat×Value),hx.map Prod.fst=hid→(hideL hx L1).all (fun p=>Res.on (keys L1) p.2)=true)∧L1.all (fun p=>(match p.2 with | .box (_+1) _ _=>true | _=>p.1==r))=true)
  (hb:∀k b ty cs,(k,Res.box (b+1) ty cs)∈L1→∃ty' cs',(k,Res.box (b+1) ty' cs')∈L1')
  (hL2:(s.L.filter fun p=>!hs.contains p.1).all (fun p=>Res.on (keys (s.L.filter fun p=>!hs.contains p.1)++(L1.filterMap fun p=>match p.2 with | .box (_+1) _ _=>some p.1 | _=>none)) p.2)=true)
  (hk:∀k∈keys L1',k∉keys (s.L.filter fun p=>!hs.contains p.1)):
  LOp P n ops o s.fr s.L (some r) x (L1'++s.L.filter fun p=>!hs.contains p.1):=by
 classical
 intro fr2 hlook fo m a w g
 have he':∀z,z∈o.op.operands→St.ev ⟨fr2,s.L⟩ z=s.ev z:=by
  intro z hz
  cases z with
  | tmp t=>simp_all [looks_operand]
  | const v=>rfl
  | global g=>rfl
  | func f=>rfl
 have hperm:s.L.Perm (L1++s.L.filter fun p=>!hs.contains p.1):=by grind [List.filter_append_perm]
 generalize hL2e:(s.L.filter fun p=>!hs.contains p.1)=L2 at *
 rw [List.all_eq_true]at hh
 have hin:∀k∈hid,k∈keys L2:=fun k hk=>by grind
 have hex:∀k∈hid,∃x,m k=some x:=by
  intro k hk
  obtain⟨⟨k',res⟩,hp,rfl⟩:=List.mem_map.1 (hin k hk)
  obtain⟨x,hx,_⟩:=g.inv.holds k' res (hperm.mem_iff.2 (List.mem_append_right _ hp))
  grind
 let hx:List (Nat×Value):=hid.map fun k=>(k,(m k).getD undef)
 have hxf:hx.map Prod.fst=hid:=by simp [hx,Function.comp_def]
 have hm:∀p∈hx,m p.1=some p.2:=by
  intro p hp
  obtain⟨k,hk,rfl⟩:=List.mem_map.1 hp
  obtain⟨x,hx⟩:=hex k hk
  grind
 have hcal:callee (St.ev ⟨fr2,hideL hx L1++L2⟩) c=some (f,args):=by
  rw [←hc]
  have hev:∀z,z∈o.op.operands→St.ev ⟨fr2,hideL hx L1++L2⟩ z=s.ev z:=fun z hz=>by simp_all
  unfold callee
  cases hcal:c.callee with
  | value fo=>
    simp only
    rw [hev fo (by simp_all)]
    have:c.args.toList.map (St.ev ⟨fr2,hideL hx L1++L2⟩)=c.args.toList.map s.ev:=by
     simp_all
    grind
  | _=>rfl
 refine .inl ⟨by simp [Region.wanted,hg],fun next Q' kk=>?_⟩
 have g2:G fo n m ⟨fr2,hideL hx L1++L2⟩ a w:=⟨g.size,g.fr,(g.inv.perm hperm).hide hm,g.defers⟩
 refine call_core (s:=⟨fr2,hideL hx L1++L2⟩) (L1:=hideL hx L1) (L2:=L2) hop hcal he (by grind [hide_keys]) (List.Perm.refl _) (by grind [hide_keys]) (fun p hp=>by show Res.on (keys L2++boxesOf (hideL hx L1)) p.2=true;rw [hide_boxes];exact List.all_eq_true.1 hL2 p hp) (h hx hxf) ?_ g2 fun x' L1'' mm v w' hR hrx hinv stt hbx hkeep hO'=>?_
 ·rintro r' L1'' ⟨rfl,rfl⟩
  refine⟨⟨_,rfl⟩,fun k hk'=>hk k (by grind [hide_keys]),fun k b ty cs hm'=>?_⟩
  obtain⟨⟨k0,r0⟩,hp,he0⟩:=List.mem_map.1 hm'
  simp only [Prod.mk.injEq]at he0
  obtain⟨rfl,he1⟩:=he0
  cases r0 with
  | box b0 ty0 cs0=>
    simp only [Res.hide,Res.box.injEq]at he1
    obtain⟨rfl,rfl,rfl⟩:=he1
    obtain⟨ty',cs',hmem⟩:=hb k0 b ty0 cs0 hp
    exact⟨ty',cs'.map (V.hide hx),List.mem_map.2 ⟨_,hmem,rfl⟩⟩
  | row _ _ _=>grind [Res.hide]
  | env _=>grind [Res.hide]
  | mp _=>grind [Res.hide]
 ·obtain⟨e,rfl⟩:=hR
  obtain rfl:=AE.ret.inj e
  have hbx:∀h y,h∈keys L2++boxesOf L1→m h=some y→mm h=some y:=fun h y hh=>hbx h y (by show h∈keys L2++boxesOf (hideL hx L1);grind [hide_boxes])
  have hmm:∀p∈hx,mm p.1=some p.2:=fun p hp=>by
   grind
  refine kk v w' mm hrx ⟨g.size,fun t y hy=>?_,hinv.unhide hmm,g.defers⟩ stt
  unfold killO at hy
  obtain⟨p,hp,hpe⟩:=List.mem_map.1 hy
  simp only [Prod.mk.injEq]at hpe
  obtain⟨rfl,rfl⟩:=hpe
  obtain⟨q1,q2⟩:=g.fr p.1 p.2 hp
  refine⟨q1,(RelV.kill (m':=mm) (h:=r) (fun i y hne hi=>hbx i y ?_ hi) q2).mono hkeep hO' (fun _ _ e=>e)⟩
  have hkey:i∈keys s.L:=g.inv.dom i y hi
  obtain⟨⟨i',res⟩,hmem,rfl⟩:=List.mem_map.1 hkey
  rcases List.mem_append.1 (hperm.mem_iff.1 hmem)with hm | hm
  ·refine List.mem_append_right _ (List.mem_filterMap.2 ⟨_,hm,?_⟩)
   have:=List.all_eq_true.1 ho.2.2 _ hm
   cases res with
   | row _ _ _=>grind
   | env _=>grind
   | mp _=>grind
   | box b _ _=>
     cases b with
     | zero=>grind
     | succ b=>rfl
  ·exact List.mem_append_left _ (List.mem_map.2 ⟨_,hm,rfl⟩)
end
end Go.Ab
namespace Go.Ab
section
variable {P : Program} {n : Nat} {Q : AX → St → Prop}
attribute [simp] runD
end
end Go.Ab
namespace Go.Ab
open Go.Proofs Go.Proofs.Tryz
set_option maxHeartbeats 4000000
set_option maxRecDepth 20000
def markI(l:List Bool) (i:Int):List Bool:=if 0≤i then l.set i.toNat true else l
@[simp] theorem markI_len(l:List Bool) (i:Int):(markI l i).length=l.length:=by unfold markI;split <;> simp
def markL(l:List Bool) (is:List Int):List Bool:=is.foldl markI l
@[simp] theorem markL_len(is:List Int):∀l:List Bool,(markL l is).length=l.length:=by
 induction is with
 | nil=>intro l;rfl
 | cons i is ih=>intro l;show(markL (markI l i) is).length=_;rw [ih];simp
theorem markL_get(is:List Int):∀(l:List Bool) (k:Nat),k < l.length→(markL l is)[k]?=some (l[k]?.getD false || is.any fun i=>decide (i=k)):=by
 induction is with
 | nil=>intro l k hk;simp [markL,hk]
 | cons i is ih=>
   intro l k hk
   show(markL (markI l i) is)[k]?=_
   rw [ih _ _ (by simpa using hk)]
   congr 1
   unfold markI
   by_cases h0:0≤i
   ·rw [if_pos h0]
    by_cases hik:i=k
    ·have:i.toNat=k:=by omega
     simp [this,hk,hik]
    ·have:i.toNat≠k:=by omega
     rw [List.getElem?_set_ne this]
     simp [hik]
   ·rw [if_neg h0]
    have:¬i=k:=by omega
    simp [this]
theorem rensA(h g:Nat) (a b:List V):V.rens h g (a++b)=V.rens h g a++V.rens h g b:=by simp [rens_eq]
theorem onsA(ks:List Nat):∀(a b:List V),V.ons ks (a++b)=(V.ons ks a && V.ons ks b)
 | [],b=>by simp [V.ons]
 | x::a,b=>by simp [V.ons,onsA ks a b,Bool.and_assoc]
theorem lMark_ok(h:Nat) (hh:h=5021∨h=5023∨h=5025) (b:Nat) (cs:List V) (hcs:V.ons [5027,h] cs=true) (l:List Bool) (i:Int) (hi:i < l.length):
  ACalls prog 41 [.rv h,iD i] [(5027,.box (b+1) 81 cs),(h,.row 4 1 (dd (encB l)))] (fun r L=>r= .ret (.tup [])∧L=[(5027,.box (b+1) 81 cs),(h,.row 4 1 (dd (encB (markI l i))))]):=by
 unfold markI
 have hlt:0≤i→i.toNat < l.length:=fun _=>by omega
 rcases hh with rfl | rfl | rfl
 ·refine rX [] [5027,5021] func41 ?_;simp [-cB,f41]
  refine condC_split (fun h=>?_) (fun h=>?_) <;> simp at h
  ·simp [h,hlt h,hcs]
  ·have:¬0≤i:=by omega
   simp [this,hcs]
 ·refine rX [] [5027,5023] func41 ?_;simp [-cB,f41]
  refine condC_split (fun h=>?_) (fun h=>?_) <;> simp at h
  ·simp [h,hlt h,hcs]
  ·have:¬0≤i:=by omega
   simp [this,hcs]
 ·refine rX [] [5027,5025] func41 ?_;simp [-cB,f41]
  refine condC_split (fun h=>?_) (fun h=>?_) <;> simp at h
  ·simp [h,hlt h,hcs]
  ·have:¬0≤i:=by omega
   simp [this,hcs]
theorem lMark3_ok(b:Nat) (cs:List V) (hcs:V.ons [5027,5021,5023,5025] cs=true) (w f bo:List Bool) (i:Int) (hi:i < f.length):
  ACalls prog 41 [.rv 5023,iD i] [(5027,.box (b+1) 81 cs),(5021,.row 4 1 (dd (encB w))),(5023,.row 4 1 (dd (encB f))),(5025,.row 4 1 (dd (encB bo)))]
   (fun r L=>r= .ret (.tup [])∧L=[(5027,.box (b+1) 81 cs),(5021,.row 4 1 (dd (encB w))),(5023,.row 4 1 (dd (encB (markI f i)))),(5025,.row 4 1 (dd (encB bo)))]):=by
 unfold markI
 have hlt:0≤i→i.toNat < f.length:=fun _=>by omega
 refine rX [] [5027,5021,5023,5025] func41 ?_;simp [-cB,f41]
 refine condC_split (fun h=>?_) (fun h=>?_) <;> simp at h
 ·simp [h,hlt h,hcs]
 ·have:¬0≤i:=by omega
  simp [this,hcs]
theorem AOps.effY {P:Program} {n:Nat} {s:St} {Q:AX→St→Prop} {ops:Array Oper} {o:Oper} {rest:List Oper} {c:Call} {f:FuncId} {args:List V} {L1 L1':Heap} {x:V} (hs:List Nat) (hop:o.op= .call c) (h:ACalls P f args L1 (fun r L=>r= .ret x∧L=L1')) (hc:callee s.ev c=some (f,args)) (hg:o.guard=none)
  (hd:∀d,o.dst=some d→d < n) (hr:dstsOk n rest=true) (he:enters P f=true) (hL:s.L.filter (fun p=>hs.contains p.1)=L1) (ho:V.ons (keys L1) args=true) (hon:L1.all (fun p=>Res.on (keys L1) p.2)=true)
  (hL2:(s.L.filter fun p=>!hs.contains p.1).all (fun p=>Res.on (keys (s.L.filter fun p=>!hs.contains p.1)++(L1.filterMap fun p=>match p.2 with | .box (_+1) _ _=>some p.1 | _=>none)) p.2)=true)
  (hk:∀k∈keys L1',k∉keys (s.L.filter fun p=>!hs.contains p.1)) (hb:∀k b ty cs,(k,Res.box (b+1) ty cs)∈L1→∃ty' cs',(k,Res.box (b+1) ty' cs')∈L1')
  (k:∀bs,runC P ops rest (St.put ⟨s.fr.filter fun p=>V.on (keys (s.L.filter fun p=>!hs.contains p.1)++(L1.filterMap fun p=>match p.2 with | .box (_+1) _ _=>some p.1 | _=>none)) p.2,L1'++s.L.filter fun p=>!hs.contains p.1⟩ o.dst x) bs [] (KK P n ops Q)):AOps P n ops (o::rest) s Q:=by
 refine AOps.callX (L1:=L1) (L2:=s.L.filter fun p=>!hs.contains p.1) (s.fr.filter fun p=>V.on (keys (s.L.filter fun p=>!hs.contains p.1)++(L1.filterMap fun p=>match p.2 with | .box (_+1) _ _=>some p.1 | _=>none)) p.2) hg hd hop hc he ho (by subst hL;exact(List.filter_append_perm _ s.L).symm) hon (fun p hp=>List.mem_filter.1 hp) (fun p hp=>List.all_eq_true.1 hL2 p hp) h ?_ ?_
 ·rintro r L1'' ⟨rfl,rfl⟩
  exact⟨⟨_,rfl⟩,hk,hb⟩
 ·rintro x' L1'' ⟨e,rfl⟩
  obtain rfl:=AE.ret.inj e
  exact runC_sound rest _ [] hr k
theorem cellsA {L:Heap}:∀{a b:List V} {x y:List D},cellsD L a=some x→cellsD L b=some y→cellsD L (a++b)=some (x++y)
 | [],b,x,y,h1,h2=>by simp [cellsD]at h1;subst h1;simpa using h2
 | v::a,b,x,y,h1,h2=>by
   rw [cellsD]at h1
   split at h1
   ·rename_i d r hd hr
    cases h1
    rw [List.cons_append,cellsD,hd,cellsA hr h2]
    rfl
   ·cases h1
def lkC(t:GTables):List V:=t.enc.map .d++ [.rv 5021,.rv 5023,.rv 5025]
theorem hideC(hx:List (Nat×Value)) (t:GTables):(lkC t).map (V.hide hx)=t.enc.map .d++ [V.hide hx (.rv 5021),V.hide hx (.rv 5023),V.hide hx (.rv 5025)]:=by
 unfold lkC
 rw [List.map_append,List.map_map]
 congr 1
theorem hideOn(h:Nat) (hid:List Nat) (hh:(h=5021∧hid=[5023,5025])∨(h=5023∧hid=[5021,5025])∨(h=5025∧hid=[5021,5023])) (t:GTables) (hx:List (Nat×Value)) (hk:hx.map Prod.fst=hid):V.ons [5027,h] ((lkC t).map (V.hide hx))=true:=by
 rw [hideC,onsA]
 simp only [ons_dmap,Bool.true_and]
 obtain⟨p,q,rfl⟩:∃p q,hx=[p,q]:=by
  have:hx.length=2:=by rw [←List.length_map (f:=Prod.fst),hk];rcases hh with⟨-,rfl⟩ | ⟨-,rfl⟩ | ⟨-,rfl⟩ <;> rfl
  match hx,this with
  | [p,q],_=>exact⟨p,q,rfl⟩
 obtain⟨p1,p2⟩:=p
 obtain⟨q1,q2⟩:=q
 rcases hh with⟨rfl,rfl⟩ | ⟨rfl,rfl⟩ | ⟨rfl,rfl⟩ <;> (simp at hk;obtain⟨rfl,rfl⟩:=hk;simp [V.hide,V.ons,V.on,List.lookup])
theorem lMarkH(h:Nat) (hid:List Nat) (hh:(h=5021∧hid=[5023,5025])∨(h=5023∧hid=[5021,5025])∨(h=5025∧hid=[5021,5023])) (b:Nat) (t:GTables) (l:List Bool) (i:Int) (hi:i < l.length) (hx:List (Nat×Value)) (hk:hx.map Prod.fst=hid):
  ACalls prog 41 [.rv h,iD i] (hideL hx [(5027,.box (b+1) 81 (lkC t)),(h,.row 4 1 (dd (encB l)))]) (fun r L=>r= .ret (.tup [])∧L=hideL hx [(5027,.box (b+1) 81 (lkC t)),(h,.row 4 1 (dd (encB (markI l i))))]):=by
 have hq:=fun cs hcs=>lMark_ok h (by omega) b cs hcs l i hi
 have hon:=hideOn h hid hh t hx hk
 simp only [hideL,List.map_cons,List.map_nil,Res.hide]
 exact hq _ hon
theorem hideR {h b:Nat} {ty ty2:TypeId} {cs:List V} (ys:List (List D)) (hx:List (Nat×Value)) (k:Nat) (hc:V.ons [5027,h] (cs.map (V.hide hx))=true):(hideL hx [(5027,.box (b+1) ty cs),(h,.row ty2 k (dd ys))]).all (fun p=>Res.on (keys [(5027,.box (b+1) ty cs),(h,.row ty2 k (dd ys))]) p.2)=true:=by
 simp [hideL,Res.hide,Res.on,keys]
 exact hc
def whenL(t:GTables):List Int:=t.Things.flatMap fun x=>x.Ways.map GWay.When
def bgW(t:GTables):List Bool:=markL (markL (List.replicate t.Params.length false) (whenL t)) (t.Deeds.map GDeed.When)
def bgB(t:GTables):List Bool:=markL (List.replicate t.Params.length false) (t.Deeds.map GDeed.Body)
def bgF(t:GTables):List Bool:=markL (List.replicate t.Params.length false) t.Funcs
theorem lBegin_ok(b:GBook) (hb:b.wf) (hW:∀x∈b.Tables.Things,∀y∈x.Ways,y.When < b.Tables.Params.length) (hD:∀d∈b.Tables.Deeds,d.When < b.Tables.Params.length∧d.Body < b.Tables.Params.length) (hF:∀f∈b.Tables.Funcs,f < b.Tables.Params.length) (hP:b.Tables.Params.length≤2048):
  Pure prog 17 [.agg (b.enc.map .d)] (.rp (b.Tables.enc++ [.sl (encB (bgW b.Tables)),.sl (encB (bgF b.Tables)),.sl (encB (bgB b.Tables))])):=by
 refine Pure.runA func17 rfl (by simp [f17]) ?_
 simp only [f17]
 refine AWP.seqK ?_
 simp [-cB]
 intro bs
 refine AWP.seqK ?_
 simp [-cB]
 refine AWP.merge ⟨[(4,.bp 27 0)],[(27,.box 0 81 (b.Tables.enc.map .d++ [.rv 21,.rv 23,.rv 25])),(21,.row 4 1 (dd (encB (List.replicate b.Tables.Params.length false)))),(23,.row 4 1 (dd (encB (List.replicate b.Tables.Params.length false)))),(25,.row 4 1 (dd (encB (List.replicate b.Tables.Params.length false))))]⟩ ?_ ?_
 ·refine AWP.regionE tmix (OrdR.edge 3 5 (by decide) (OrdR.edge 3 7 (by decide) (OrdR.edge 5 7 (by decide) (OrdR.m0 [some (0,3),some (0,3),some (0,0),none,some (0,1),none,some (0,2),none,some (3,3),none,some (4,4)] [] (by kernel_rfl) ?_) (OrdR.perm [0,1,2,3,4,6,7,5,8,9,10] [0,1,2,3,4,7,5,6,8,9,10] (by kernel_rfl) (by kernel_rfl) (OrdR.m0 [some (0,3),some (0,3),some (0,0),none,some (0,2),some (0,1),none,none,some (3,3),none,some (4,4)] [] (by kernel_rfl) ?_))) (OrdR.perm [0,1,2,4,6,7,3,5,8,9,10] [0,1,2,6,3,7,4,5,8,9,10] (by kernel_rfl) (by kernel_rfl) (OrdR.m0 [some (0,3),some (0,3),some (0,1),some (0,2),some (0,0),none,none,none,some (3,3),none,some (4,4)] [] (by kernel_rfl) ?_))) (OrdR.edge 3 7 (by decide) (OrdR.perm [0,1,2,4,5,3,6,7,8,9,10] [0,1,2,5,3,4,6,7,8,9,10] (by kernel_rfl) (by kernel_rfl) (OrdR.m0 [some (0,3),some (0,3),some (0,1),some (0,0),none,none,some (0,2),none,some (3,3),none,some (4,4)] [] (by kernel_rfl) ?_)) (OrdR.edge 5 7 (by decide) (OrdR.perm [0,1,2,4,5,6,7,3,8,9,10] [0,1,2,7,3,4,5,6,8,9,10] (by kernel_rfl) (by kernel_rfl) (OrdR.m0 [some (0,3),some (0,3),some (0,2),some (0,0),none,some (0,1),none,none,some (3,3),none,some (4,4)] [] (by kernel_rfl) ?_)) (OrdR.perm [0,1,2,4,6,7,5,3,8,9,10] [0,1,2,7,3,6,4,5,8,9,10] (by kernel_rfl) (by kernel_rfl) (OrdR.m0 [some (0,3),some (0,3),some (0,2),some (0,1),some (0,0),none,none,none,some (3,3),none,some (4,4)] [] (by kernel_rfl) ?_)))))
  all_goals
   simp [-cB]
   refine⟨⟨by unfold maxLen;omega,by omega⟩,fun bs1=>?_⟩
   refine(Wk.rlx [27]).trans ?_
   unfold GTables.enc
   refine Wk.pick [4] [27,21,23,25] (by rfl) (by decide) ?_
   simp [St.pick,St.rlx,St.on,V.on,V.ons,Res.rlx]
 ·intro bs3
  refine AWP.ofK ?_
  simp [-cB]
  refine AWP.weaken (Wk.ren 27 5027 (by simp)) ?_
  simp [-cB,rensA,rens_d,V.rens,V.ren]
  refine AWP.weaken (Wk.ren 21 5021 (by simp)) ?_
  simp [-cB,rensA,rens_d,V.rens,V.ren]
  refine AWP.weaken (Wk.ren 23 5023 (by simp)) ?_
  simp [-cB,rensA,rens_d,V.rens,V.ren]
  refine AWP.weaken (Wk.ren 25 5025 (by simp)) ?_
  simp [-cB,rensA,rens_d,V.rens,V.ren]
  have hT:=GTables.wl_Things hb.1
  generalize hn:List.replicate b.Tables.Params.length false=R at *
  have hRl:R.length=b.Tables.Params.length:=by rw [←hn];simp
  refine AWP.loopL [4,5,32,33,34] b.Tables.Things (fun pre=> [(34,iD pre.length)]) (fun pre=> [(5021,.row 4 1 (dd (encB (markL R (pre.flatMap fun x=>x.Ways.map GWay.When)))))]) (fun _=>True) (by rfl) (by omega) (by simp [markL,onsA]) ?_ ?_
  ·rintro pre x post hsp-hlt hge a4
   have hx:x∈b.Tables.Things:=by rw [hsp];simp
   have hw:=hW x hx
   have hwl:=GThing.wl_Ways (GTables.wf_Things hb.1 x hx)
   have hsn:markL R (pre.flatMap (fun x=>x.Ways.map GWay.When)++x.Ways.map GWay.When)=markL (markL R (pre.flatMap fun x=>x.Ways.map GWay.When)) (x.Ways.map GWay.When):=by unfold markL;rw [List.foldl_append]
   have hS:(markL R (pre.flatMap fun x=>x.Ways.map GWay.When)).length=b.Tables.Params.length:=by simp [hRl]
   generalize markL R (pre.flatMap fun x=>x.Ways.map GWay.When)=S at *
   clear hsp
   simp [-cB,hlt,hge,onsA]
   intro bs4
   refine AWP.loopL [4,5,32,33,34,39,40,41] x.Ways (fun pre=> [(41,iD pre.length)]) (fun pre=> [(5021,.row 4 1 (dd (encB (markL S (pre.map GWay.When)))))]) (fun _=>True) (by rfl) (by omega) (by simp [markL,onsA]) ?_ ?_
   ·rintro pre' y post' hsp2-hlt2 hge2 b4
    have hy:=hw y (by rw [hsp2];simp)
    have hsn3:markL S ((pre'++ [y]).map GWay.When)=markI (markL S (pre'.map GWay.When)) y.When:=by unfold markL;simp
    have hq:=fun bb hx hk=>lMarkH 5021 [5023,5025] (.inl ⟨rfl,rfl⟩) bb b.Tables (markL S (pre'.map GWay.When)) y.When (by simp [hS];exact hy) hx hk
    rw [List.map_append,List.map_singleton]at hsn3
    generalize markL S (pre'.map GWay.When)=S2 at *
    clear hsp2
    unfold lkC at hq
    simp [-cB,hlt2,hge2,onsA]
    intro bs5
    refine AWP.regionM0 [some (0,0),some (0,0),some (0,0),some (0,0),some (0,0),some (0,0),some (0,0),none] [] tmix (by kernel_rfl) ?_
    simp [-cB,onsA]
    refine EffM.intro (fun _=>LOp.callH (s:=⟨_,_⟩) 5021 [5027,5021] [5023,5025] rfl (hq _) rfl rfl (by kernel_rfl) (by first | rfl | simp) (by simp) ⟨by simp,fun hx hk=>hideR _ _ _ (hideOn 5021 _ (.inl ⟨rfl,rfl⟩) b.Tables hx hk),by simp⟩ (boxes_stay (by simp)) (by simp [onsA]) (by simp)) ?_
    simp [-cB,onsA,b4,hsn3]
   ·intro _
    simp [-cB,a4,onsA,hsn]
  ·intro _
   have hD2:=GTables.wl_Deeds hb.1
   have hF2:=GTables.wl_Funcs hb.1
   simp [-cB]
   have eW:b.Tables.Things.flatMap (fun x=>x.Ways.map GWay.When)=whenL b.Tables:=rfl
   rw [eW]
   have hWl:(markL R (whenL b.Tables)).length=b.Tables.Params.length:=by simp [hRl]
   have hbw:bgW b.Tables=markL (markL R (whenL b.Tables)) (b.Tables.Deeds.map GDeed.When):=by unfold bgW;rw [hn]
   have hbb:bgB b.Tables=markL R (b.Tables.Deeds.map GDeed.Body):=by unfold bgB;rw [hn]
   have hbf:bgF b.Tables=markL R b.Tables.Funcs:=by unfold bgF;rw [hn]
   rw [hbw,hbb,hbf]
   generalize markL R (whenL b.Tables)=W1 at *
   refine AWP.loopL [4,5,59,60,61] b.Tables.Deeds (fun pre=> [(61,iD pre.length)]) (fun pre=> [(5021,.row 4 1 (dd (encB (markL W1 (pre.map GDeed.When))))),(5025,.row 4 1 (dd (encB (markL R (pre.map GDeed.Body)))))]) (fun _=>True) (by rfl) (by omega) (by simp [markL,onsA]) ?_ ?_
   ·rintro pre y post hsp-hlt hge a4
    obtain⟨hy1,hy2⟩:=hD y (by rw [hsp];simp)
    have hs1:markL W1 (pre.map GDeed.When++ [y.When])=markI (markL W1 (pre.map GDeed.When)) y.When:=by unfold markL;simp
    have hs2:markL R (pre.map GDeed.Body++ [y.Body])=markI (markL R (pre.map GDeed.Body)) y.Body:=by unfold markL;simp
    have hq:=fun bb hx hk=>lMarkH 5021 [5023,5025] (.inl ⟨rfl,rfl⟩) bb b.Tables (markL W1 (pre.map GDeed.When)) y.When (by simp [hWl];exact hy1) hx hk
    have hq2:=fun bb hx hk=>lMarkH 5025 [5021,5023] (.inr (.inr ⟨rfl,rfl⟩)) bb b.Tables (markL R (pre.map GDeed.Body)) y.Body (by simp [hRl];exact hy2) hx hk
    unfold lkC at hq hq2
    generalize markL W1 (pre.map GDeed.When)=S1 at *
    generalize markL R (pre.map GDeed.Body)=S2 at *
    clear hsp
    simp [-cB,hlt,hge,onsA]
    intro bs5
    refine AWP.regionM0 [some (0,0),some (0,0),some (0,0),some (0,0),some (0,0),some (0,0),some (0,0),none] [] tmix (by kernel_rfl) ?_
    simp [-cB,onsA]
    refine EffM.intro (fun _=>LOp.callH (s:=⟨_,_⟩) 5021 [5027,5021] [5023,5025] rfl (hq _) rfl rfl (by kernel_rfl) (by first | rfl | simp) (by simp) ⟨by simp,fun hx hk=>hideR _ _ _ (hideOn 5021 _ (.inl ⟨rfl,rfl⟩) b.Tables hx hk),by simp⟩ (boxes_stay (by simp)) (by simp [onsA]) (by simp)) ?_
    simp [-cB,onsA]
    refine AWP.regionM0 [some (0,0),some (0,0),some (0,0),some (0,0),some (0,0),some (0,0),some (0,0),none] [] tmix (by kernel_rfl) ?_
    simp [-cB,onsA]
    refine EffM.intro (fun _=>LOp.callH (s:=⟨_,_⟩) 5025 [5027,5025] [5021,5023] rfl (hq2 _) rfl rfl (by kernel_rfl) (by first | rfl | simp) (by simp) ⟨by simp,fun hx hk=>hideR _ _ _ (hideOn 5025 _ (.inr (.inr ⟨rfl,rfl⟩)) b.Tables hx hk),by simp⟩ (boxes_stay (by simp)) (by simp [onsA]) (by simp)) ?_
    simp [-cB,onsA,a4,hs1,hs2]
   ·intro _
    simp [-cB]
    generalize markL W1 (b.Tables.Deeds.map GDeed.When)=W2 at *
    generalize markL R (b.Tables.Deeds.map GDeed.Body)=B2 at *
    refine AWP.loopL [4,5,86,87,88] b.Tables.Funcs (fun pre=> [(88,iD pre.length)]) (fun pre=> [(5023,.row 4 1 (dd (encB (markL R pre))))]) (fun _=>True) (by rfl) (by omega) (by simp [markL,onsA]) ?_ ?_
    ·rintro pre y post hsp-hlt hge a4
     have hy:=hF y (by rw [hsp];simp)
     have hs1:markL R (pre++ [y])=markI (markL R pre) y:=by unfold markL;simp
     have hq:=fun bb=>lMark3_ok bb (b.Tables.enc.map .d++ [.rv 5021,.rv 5023,.rv 5025]) (by simp [onsA]) W2 (markL R pre) B2 y (by simp [hRl];exact hy)
     generalize markL R pre=S1 at *
     clear hsp
     simp [-cB,hlt,hge,onsA]
     refine AOps.effY [5027,5021,5023,5025] rfl (hq _) (by simp) rfl (by simp) rfl (by kernel_rfl) (by first | rfl | simp [onsA]) (by simp) (by simp [onsA]) (by simp) (by simp) (boxes_stay (by simp)) ?_
     simp [-cB,List.filter,V.on,V.ons]
     simp [-cB,hlt,onsA,a4,hs1]
    ·intro _
     simp [-cB]
     have hce:=fun L=>cellsD_map (L:=L) b.Tables.enc (by unfold GTables.enc;simp)
     rw [cellsA (hce _) (y:=[D.sl (encB W2),D.sl (encB (markL R b.Tables.Funcs)),D.sl (encB B2)]) (by simp [cellsD,cellD])]
end Go.Ab
namespace Go.Ab
open Go.Proofs Go.Proofs.Tryz
theorem labAt_find:∀(z:Zl) (n:Int),labAt z n=((z.map Prod.fst).findIdx? (fun i=>decide (i.Op=38) && decide (i.Arg=n))).map (fun k=>lenZ (z.take k))
 | [],n=>rfl
 | p::z,n=>by
   rw [labAt,List.map_cons,List.findIdx?_cons,labAt_find z n]
   by_cases h:p.1.Op=38∧p.1.Arg=n
   ·have hb:(decide (p.1.Op=38) && decide (p.1.Arg=n))=true:=by simpa using h
    rw [if_pos h,if_pos hb]
    rfl
   ·have hb:¬(decide (p.1.Op=38) && decide (p.1.Arg=n))=true:=by simpa using h
    rw [if_neg h,if_neg hb,Option.map_map,Option.map_map]
    congr 1
theorem labAt_labN {z:Zl} {n:Int} {m:Nat} (h:labAt z n=some m):∃k,k < z.length∧labN (z.map Prod.fst) (z.map Prod.fst).length n=(k:Nat)∧m=lenZ (z.take k):=by
 rw [labAt_find]at h
 obtain⟨k,hk,rfl⟩:=Option.map_eq_some_iff.1 h
 refine⟨k,?_,?_,rfl⟩
 ·have:=List.findIdx?_eq_some_iff_getElem.1 hk
  obtain⟨h1,_⟩:=this
  simpa using h1
 ·unfold labN labI
  rw [List.take_length,hk]
theorem far30_ok(z:Zl) (hz:z.length≤1000000000) (h3:∀p∈z,p.2≤3) (i:Nat) (hi:i < z.length) (hl:(labAt z z[i].1.Arg).isSome):
  Pure prog 100 [insD (z.map Prod.fst),.d (.sl (encI (atL z (z.length+1)))),iD i] (iD (farZ z z[i].1.Arg (lenZ (z.take (i+1))))):=by
 obtain⟨m,hm⟩:=Option.isSome_iff_exists.1 hl
 obtain⟨k,hk,hn,hmk⟩:=labAt_labN hm
 have hst:=stands30_ok (z.map Prod.fst) (by simp;omega) (z.map Prod.fst).length (by omega) z[i].1.Arg
 rw [hn]at hst
 have hF:farZ z z[i].1.Arg (lenZ (z.take (i+1)))=(m:Int)-(lenZ (z.take (i+1)):Int):=by unfold farZ;rw [hm];rfl
 rw [hF]
 have g1:=atL_get z (n:=z.length+1) (k:=k) (by omega)
 have g2:=atL_get z (n:=z.length+1) (k:=i+1) (by omega)
 have b1:=lenZ_le (z.take k) (fun p hp=>h3 p (List.mem_of_mem_take hp))
 have b2:=lenZ_le (z.take (i+1)) (fun p hp=>h3 p (List.mem_of_mem_take hp))
 rw [List.length_take]at b1 b2
 have h64:inR .i64 ((i:Int)+1):=iW
 have h65:inR .i64 ((m:Int)-(lenZ (z.take (i+1)):Int)):=iW
 have hx:z[i]?=some z[i]:=List.getElem?_eq_getElem hi
 have hal:=atL_len z (z.length+1)
 rw [←hmk]at g1
 have hst2:=hst.ok
 simp only [List.length_map]at hst2
 refine rn func100 ?_;simp [-cB,f100]
 refine AWP.regionM0 [some (0,0),some (0,0),some (0,0),some (0,0),some (0,0),some (0,0),some (0,0),some (0,0),some (0,0),some (0,0),some (0,0),some (0,0),some (0,0),some (0,0),some (0,0),some (0,0),some (0,0),some (0,0),some (0,0)] [iD k] tmix (by kernel_rfl) ?_
 simp [hst2,hx,h64,h65,g1,g2,hal,hi]
 have g3:=(List.getElem?_eq_some_iff.1 g2).2
 exact⟨by omega,by omega,by rw [g3];exact h65,g3⟩
theorem szI_get(z:Zl) {i:Nat} (h:i < z.length):(szI z)[i]?=some (z[i].2:Int):=by
 simp [szI,List.getElem?_eq_getElem h]
theorem passM_add:∀(a b i:Nat) (z:Zl) (x:Bool),passM (a+b) i z x=passM b (i+a) (passM a i z x).1 (passM a i z x).2
 | 0,b,i,z,x=>by simp [passM]
 | a+1,b,i,z,x=>by
   rw [show a+1+b=(a+b)+1 by omega,passM,passM]
   cases growI z i with
   | none=>simp only;rw [passM_add a b (i+1) z x,show i+(a+1)=i+1+a by omega]
   | some z'=>simp only;rw [passM_add a b (i+1) z' true,show i+(a+1)=i+1+a by omega]
theorem passM_snoc(n:Nat) (z:Zl) (x:Bool):passM (n+1) 0 z x=match growI (passM n 0 z x).1 n with
  | some z'=>(z',true)
  | none=>passM n 0 z x:=by
 rw [passM_add n 1 0 z x,Nat.zero_add,passM]
 cases growI (passM n 0 z x).1 n with
 | none=>rfl
 | some z'=>rfl
end Go.Ab
namespace Go.Ab
open Go.Proofs Go.Proofs.Tryz
def itZ(z:Zl):Nat→Zl
 | 0=>z
 | k+1=>(passM (itZ z k).length 0 (itZ z k) false).1
theorem itZ_shift(z:Zl):∀k,itZ z (k+1)=itZ (itZ z 1) k
 | 0=>rfl
 | k+1=>by rw [itZ,itZ_shift z k];rfl
theorem sizesM_it:∀(g:Nat) (z z':Zl),sizesM g z=some z'→∃N,(∀k,k < N→(passM (itZ z k).length 0 (itZ z k) false).2=true)∧(passM (itZ z N).length 0 (itZ z N) false).2=false∧z'=itZ z (N+1)
 | 0,z,z',h=>by cases h
 | g+1,z,z',h=>by
   rw [sizesM]at h
   split at h
   ·rename_i hb
    obtain⟨N,h1,h2,h3⟩:=sizesM_it g _ _ h
    refine⟨N+1,fun k hk=>?_,?_,?_⟩
    ·cases k with
     | zero=>exact hb
     | succ k=>rw [itZ_shift];exact h1 k (by omega)
    ·rw [itZ_shift];exact h2
    ·rw [itZ_shift];exact h3
   ·rename_i hb
    simp only [Option.some.injEq]at h
    exact⟨0,fun k hk=>by omega,(by simpa using hb:(passM z.length 0 z false).2=false),h.symm⟩
theorem itZ_ok(z:Zl) (h:∀p∈z,szOk p):∀k,(itZ z k).map Prod.fst=z.map Prod.fst∧∀p∈itZ z k,szOk p
 | 0=>⟨rfl,h⟩
 | k+1=>by
   obtain⟨h1,h2⟩:=itZ_ok z h k
   obtain⟨a1,a2,_⟩:=passM_ok (itZ z k).length 0 (itZ z k) false h2
   exact⟨a1.trans h1,a2⟩
theorem zipZ_fst(l:List GIns):(zipZ l).map Prod.fst=l:=by unfold zipZ;rw [List.map_map];exact List.map_id l
theorem zipZ_ok(l:List GIns):∀p∈zipZ l,szOk p:=by
 intro p hp
 unfold zipZ at hp
 obtain⟨i,_,rfl⟩:=List.mem_map.1 hp
 exact⟨by simp,fun _=>by simp⟩
theorem szI_zip(l:List GIns):szI (zipZ l)=List.replicate l.length 0:=by
 unfold szI zipZ
 rw [List.map_map]
 have h:((fun p:GIns×Nat=>(p.2:Int)) ∘ fun i:GIns=>(i,0))=fun _=>(0:Int):=rfl
 rw [h,List.map_const']
theorem growI_jmp {z:Zl} {i:Nat} (hi:i < z.length) (h:jmp z[i].1.Op=false):growI z i=none:=by
 unfold growI
 rw [List.getElem?_eq_getElem hi]
 simp [h]
theorem szI_set(z:Zl) (i:Nat) (x:GIns) (n:Nat):szI (z.set i (x,n))=(szI z).set i (n:Int):=by
 simp [szI,List.map_set]
theorem fst_get {a b:Zl} (h:a.map Prod.fst=b.map Prod.fst) {i:Nat} (ha:i < a.length) (hb:i < b.length):a[i].1=b[i].1:=by
 have:=congrArg (fun l=>l[i]?) h
 simp only [List.getElem?_map,List.getElem?_eq_getElem ha,List.getElem?_eq_getElem hb,Option.map_some,Option.some.injEq]at this
 exact this
theorem sizes30_ok(l:List GIns) (hl:l.length≤1000000000) (z':Zl) (hz:sizesM (3 *l.length+1) (zipZ l)=some z') (hlab:∀i∈l,jmp i.Op=true→(labsL l).contains i.Arg=true):
  Pure prog 95 [insD l] (.d (.sl (encI (szI z')))):=by
 obtain⟨N,hN1,hN2,rfl⟩:=sizesM_it _ _ _ hz
 have hit:=itZ_ok (zipZ l) (zipZ_ok l)
 simp only [zipZ_fst]at hit
 have hlen:∀k,(itZ (zipZ l) k).length=l.length:=fun k=>by simpa using congrArg List.length (hit k).1
 refine rn func95 ?_;simp [-cB,f95]
 refine⟨⟨by simp [maxLen];omega,by omega⟩,?_⟩
 refine AWP.weaken (Wk.ren 9 5002 (by simp [keys])) ?_
 refine AWP.loopS [0,3,4] (N+1) (fun k=> [(4,oD (decide (k≤N)))]) (fun k=> [(5002,.row 3 1 (dd (encI (szI (itZ (zipZ l) k)))))]) (fun k=>k≤N+1) (by rfl) (by simp [itZ,szI_zip]) ?_
 intro k hk hH
 rcases Nat.lt_or_eq_of_le hk with hkl | rfl
 ·have hkN:k≤N:=by omega
  obtain⟨hf,hok⟩:=hit k
  have hzl:=hlen k
  have hnext:itZ (zipZ l) (k+1)=(passM l.length 0 (itZ (zipZ l) k) false).1:=by rw [itZ,hzl]
  have hnb:decide (k+1≤N)=(passM l.length 0 (itZ (zipZ l) k) false).2:=by
   rcases Nat.lt_or_eq_of_le hkN with h | rfl
   ·have:=hN1 k h
    rw [hzl]at this
    rw [this];simp;omega
   ·rw [hzl]at hN2
    rw [hN2];simp
  obtain⟨z,hzz⟩:∃z,itZ (zipZ l) k=z:=⟨_,rfl⟩
  rw [hzz]at hf hok hzl hnext hnb ⊢
  clear hN1 hN2 hz hit hlen hzz
  simp [-cB,hkN]
  refine AWP.loopS [0,3,4,5] l.length (fun j=> [(4,oD (passM j 0 z false).2),(5,iD j)]) (fun j=> [(5002,.row 3 1 (dd (encI (szI (passM j 0 z false).1))))]) (fun _=>True) (by rfl) (by simp [passM]) ?_
  intro j hj _
  obtain⟨q1,q2,_⟩:=passM_ok j 0 z false hok
  rw [hf]at q1
  rcases Nat.lt_or_eq_of_le hj with hlt | rfl
  ·have hsn:=passM_snoc j z false
   obtain⟨zj,hzj⟩:∃y,(passM j 0 z false).1=y:=⟨_,rfl⟩
   obtain⟨bj,hbj⟩:∃y,(passM j 0 z false).2=y:=⟨_,rfl⟩
   have hpe:passM j 0 z false=(zj,bj):=by rw [←hzj,←hbj]
   rw [hpe]at hsn
   rw [hzj]at q1 q2
   have hzl2:zj.length=l.length:=by simpa using congrArg List.length q1
   have hjz:j < zj.length:=by omega
   have hlj:l[j]?=some zj[j].1:=by rw [←q1,List.getElem?_map,List.getElem?_eq_getElem hjz];rfl
   have hlj2:l[j]=zj[j].1:=by
    rw [List.getElem?_eq_getElem hlt]at hlj
    exact Option.some.inj hlj
   have h3:∀p∈zj,p.2≤3:=fun p hp=>(q2 p hp).1
   have hjj:=jumps30_ok zj[j].1
   have h64:inR .i64 ((j:Int)+1):=iW
   simp only at hsn
   cases hjm:jmp zj[j].1.Op with
   | false=>
     rw [growI_jmp hjz hjm]at hsn
     simp only at hsn
     rw [hjm]at hjj
     simp [-cB,hlt,hlj2,hpe,hsn]
     refine pC hjj ?_
     simp [-cB,hlt,hlj2,hpe,hsn,h64]
   | true=>
     rw [hjm]at hjj
     have hmem:zj[j].1.Arg∈labsL (zj.map Prod.fst):=by
      rw [q1]
      have:=hlab zj[j].1 (List.mem_of_getElem? hlj) hjm
      simpa using this
     have hpl:=places30_new zj (by omega) h3
     have hfa:=far30_ok zj (by omega) h3 j hjz (labAt_some _ _ hmem)
     rw [q1,hzl2]at hpl
     rw [q1,hzl2]at hfa
     have hfi:=fits30_ok (farZ zj zj[j].1.Arg (lenZ (zj.take (j+1))))
     have hg:growI zj j=if zj[j].2 < fitsM (farZ zj zj[j].1.Arg (lenZ (zj.take (j+1))))then some (zj.set j (zj[j].1,fitsM (farZ zj zj[j].1.Arg (lenZ (zj.take (j+1))))))else none:=by
      unfold growI
      rw [List.getElem?_eq_getElem hjz]
      simp [hjm]
     have hsg:=szI_get zj hjz
     have hsl:(szI zj).length=l.length:=by simp [szI,hzl2]
     have hsg2:(szI zj)[j]'(by omega)=(zj[j].2:Int):=(List.getElem?_eq_some_iff.1 hsg).2
     have hss:=szI_set zj j
     obtain⟨n,hn⟩:∃n,fitsM (farZ zj zj[j].1.Arg (lenZ (zj.take (j+1))))=n:=⟨_,rfl⟩
     rw [hn]at hfi hg
     simp [-cB,hlt,hlj2,hpe,hsn]
     refine pC hjj ?_
     simp [-cB,hlt,hlj2,hpe,hsn,h64]
     refine AOps.lendO 1000 rfl hpl (by kernel_rfl) rfl (by simp) (by simp) (by simp [encI,plainD]) rfl (by simp) rfl (by simp [keys]) ?_
     simp [-cB,hlt,hlj2,hpe,hsn,h64]
     refine lC hfa ?_
     simp [-cB,hlt,hlj2,hpe,hsn,h64]
     refine pC hfi ?_
     by_cases hc:zj[j].2 < n
     ·rw [if_pos hc]at hg
      rw [hg]at hsn
      have hc':((zj[j].2:Nat):Int) < (n:Nat):=by omega
      simp [hlt,hlj2,hpe,hsn,h64,hsg,hsg2,hsl,hc,hc',hss]
     ·rw [if_neg hc]at hg
      rw [hg]at hsn
      have hc':¬((zj[j].2:Nat):Int) < (n:Nat):=by omega
      simp [hlt,hlj2,hpe,hsn,h64,hsg,hsg2,hsl,hc,hc']
  ·simp [-cB]
   rw [hnb,hnext]
   exact⟨hkl,⟨rfl,rfl⟩,hkN⟩
 ·simp
  intro h
  omega
end Go.Ab

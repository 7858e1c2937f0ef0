/-
 The texts Vasm6 Vasm7 Vasm8 Gst4 Gst5 Gst6 Gst7 Gst8 Gst9 Glaw2 Vbook Wst Wright Gtick Nest4 Bok Lgen Vbook2 Vbook3 Wright2 Vbook4 Wcode Wbyt Glaw3 Wsize Wawk Wlaw Gbulk Wlaw2 Wlaw3,one behind the other.
-/
import Derived.Test.YtchpgmihhgodkaaGreatMg6
import Derived.Laws.BytesArg
set_option linter.unusedSimpArgs false
set_option linter.unusedVariables false
namespace Go.Ab
open Go.Proofs Go.Proofs.Tryz
def blkS(S:ByteArray) (i:Nat):Bool:=(S.data[i]?.getD 0).toNat==32
def stS(S:ByteArray):Nat→Nat×ByteArray
 | 0=>(0,⟨#[]⟩)
 | i+1=>if blkS S i then((stS S i).1+1,⟨#[]⟩)else((stS S i).1,(stS S i).2++S.extract i (i+1))
theorem stS_le(S:ByteArray):∀i,(stS S i).1≤i
 | 0=>Nat.le_refl _
 | i+1=>by
   have:=stS_le S i
   rw [stS]
   split <;> simp only <;> omega
theorem stS_sz(S:ByteArray):∀i,(stS S i).2.size≤i
 | 0=>Nat.le_refl _
 | i+1=>by
   have:=stS_sz S i
   rw [stS]
   split
   ·exact Nat.zero_le _
   ·simp only [ByteArray.size_append,ByteArray.size_extract];omega
def nameR(S:ByteArray) (o:Int):Nat→Nat→ByteArray
 | 0,_=>⟨#[]⟩
 | n+1,i=>if blkS S i=true∧((stS S i).1:Int)=o∧0 < o then(stS S i).2 else nameR S o n (i+1)
def cntB(S:ByteArray):Nat→Nat→Nat
 | 0,_=>0
 | n+1,i=>(if blkS S i then 1 else 0)+cntB S n (i+1)
def chkB(S:ByteArray):Nat→Nat→Bool→Bool→Bool
 | 0,_,_,_=>true
 | n+1,i,e,z=>if blkS S i then(z ||!e) && chkB S n (i+1) true false else chkB S n (i+1) false z
theorem nameR_none {S:ByteArray} {o:Int}:∀(n i:Nat),o≤0∨((stS S i).1+cntB S n i:Nat)≤o→nameR S o n i=⟨#[]⟩
 | 0,i,h=>rfl
 | n+1,i,h=>by
   rw [nameR]
   rw [cntB]at h
   rw [if_neg]
   ·refine nameR_none n (i+1) ?_
    rcases h with h | h
    ·exact .inl h
    ·right
     rw [stS]
     split
     ·rename_i hb
      rw [if_pos hb]at h
      simp only;omega
     ·rename_i hb
      rw [if_neg hb]at h
      simp only;omega
   ·rintro⟨h1,h2,h3⟩
    rcases h with h | h
    ·omega
    ·rw [if_pos h1]at h
     omega
theorem nameR_some {S:ByteArray} {o:Int}:∀(n i:Nat) (e z:Bool),i+n≤S.size→chkB S n i e z=true→(e=false→(stS S i).2.size≠0)→(z=false→0 < (stS S i).1)→(z=true→(stS S i).1=0)→0 < o→((stS S i).1:Int)≤o→o < ((stS S i).1+cntB S n i:Nat)→(nameR S o n i).size≠0
 | 0,i,e,z,hn,hc,he,hz,hz2,h0,h1,h2=>by simp [cntB]at h2;omega
 | n+1,i,e,z,hn,hc,he,hz,hz2,h0,h1,h2=>by
   rw [nameR]
   rw [chkB]at hc
   rw [cntB]at h2
   by_cases hb:blkS S i=true
   ·rw [if_pos hb]at hc h2
    simp only [Bool.and_eq_true,Bool.or_eq_true,Bool.not_eq_true']at hc
    by_cases ho:((stS S i).1:Int)=o
    ·rw [if_pos ⟨hb,ho,h0⟩]
     rcases hc.1 with h | h
     ·have:=hz2 h;omega
     ·exact he h
    ·rw [if_neg (fun h=>ho h.2.1)]
     have hs:stS S (i+1)=((stS S i).1+1,⟨#[]⟩):=by rw [stS,if_pos hb]
     refine nameR_some n (i+1) true false (by omega) hc.2 (fun h=>by cases h) (fun _=>by rw [hs];simp) (fun h=>by cases h) h0 ?_ ?_
     ·rw [hs];simp only;omega
     ·rw [hs];simp only;omega
   ·rw [if_neg hb]at hc h2
    rw [if_neg (fun h=>hb h.1)]
    have hs:stS S (i+1)=((stS S i).1,(stS S i).2++S.extract i (i+1)):=by rw [stS,if_neg hb]
    refine nameR_some n (i+1) false z (by omega) hc (fun _=>?_) (fun h=>by rw [hs];exact hz h) (fun h=>by rw [hs];exact hz2 h) h0 ?_ ?_
    ·rw [hs]
     simp only [ByteArray.size_append,ByteArray.size_extract]
     omega
    ·rw [hs];exact h1
    ·rw [hs];simp only;omega
theorem name27_ok(o:Int):∃R:ByteArray,Pure prog 156 [iD o] (.d (.v (.string R)))∧(R.size=0↔o < 1∨38 < o):=by
 obtain⟨S,hS⟩:∃S:ByteArray,S={data:= #[32,112,117,115,104,32,112,111,112,32,103,108,111,98,97,108,32,112,117,116,103,108,111,98,97,108,32,108,111,99,97,108,32,112,117,116,108,111,99,97,108,32,115,101,108,102,32,98,105,110,32,110,101,103,32,110,111,116,32,116,101,115,116,32,104,97,115,32,112,114,111,112,32,112,117,116,32,115,101,116,32,117,110,115,101,116,32,109,111,118,101,32,114,101,109,111,118,101,32,116,114,101,101,32,114,97,110,100,111,109,32,116,101,120,116,32,110,117,109,32,116,105,116,108,101,32,106,117,109,112,32,122,101,114,111,32,99,97,108,108,32,114,101,116,117,114,110,32,115,116,111,112,32,119,105,110,32,108,111,115,101,32,97,119,97,114,100,32,115,116,97,114,116,32,104,97,108,116,32,116,114,97,118,101,108,32,108,111,111,107,32,108,105,115,116,32,116,105,99,107,32,108,97,98,101,108,32]}:=⟨_,rfl⟩
 have hz:S.size=207:=by rw [hS];rfl
 have hk:chkB S 207 0 true true=true:=by rw [hS];decide+kernel
 have hc:cntB S 207 0=39:=by rw [hS];decide+kernel
 refine⟨nameR S o 207 0,?_,?_⟩
 ·obtain⟨R,hR⟩:∃R,nameR S o 207 0=R:=⟨_,rfl⟩
  rw [hR]
  refine rn func156 ?_;simp [-cB,f156]
  rw [←hS]
  clear hS hk hc
  refine AWP.loopS [0,3,4,5] 207 (fun i=> [(3,iD (stS S i).1),(4,.d (.v (.string (stS S i).2))),(5,iD i)]) (fun _=> []) (fun i=>nameR S o (207-i) i=R) (by rfl) (by simp [stS,hR]) ?_
  intro i hi hH
  rcases Nat.lt_or_eq_of_le hi with hlt | heq
  ·have hlt':(i:Int) < 207:=by omega
   have hltz:i < S.size:=by omega
   have h64:inR .i64 ((i:Int)+1):=iW
   have hst:stS S (i+1)=if blkS S i then((stS S i).1+1,⟨#[]⟩)else((stS S i).1,(stS S i).2++S.extract i (i+1)):=rfl
   rw [show 207-i=(207-(i+1))+1 by omega,nameR]at hH
   have hbe:blkS S i=(S.data[i].toNat==32):=by
    unfold blkS
    rw [Array.getElem?_eq_getElem hltz]
    rfl
   have hn1:207-(i+1)=206-i:=by omega
   have h65:inR .i64 (((stS S i).1:Int)+1)→True:=fun _=>trivial
   have hcb:(stS S i).1≤i:=stS_le S i
   have h66:inR .i64 (((stS S i).1:Int)+1):=iW
   cases hb:blkS S i with
   | true=>
     rw [hb]at hst hH hbe
     simp only [if_true]at hst
     simp only [true_and]at hH
     have hbn:((S.data[i].toNat:Int) !=32)=false:=by
      have:S.data[i].toNat=32:=by simpa using hbe.symm
      simp [this]
     by_cases ho:((stS S i).1:Int)=o∧0 < o
     ·rw [if_pos ho]at hH
      simp [-cB,hlt,hlt',hltz,hbn,ho.1,ho.2,hH]
     ·rw [if_neg ho]at hH
      by_cases ho1:((stS S i).1:Int)=o
      ·have ho2:¬0 < o:=fun h=>ho ⟨ho1,h⟩
       simp [hlt,hlt',hltz,hbn,ho1,ho2,h64,hst,hH]
       rw [ho1]at h66
       exact⟨h66,by rw [←hn1];exact hH⟩
      ·simp [hlt,hlt',hltz,hbn,ho1,h64,h66,hst,hH]
       rw [←hn1];exact hH
   | false=>
     rw [hb]at hst hH hbe
     simp only [Bool.false_eq_true,if_false,false_and]at hst hH
     have hbn:((S.data[i].toNat:Int) !=32)=true:=by
      have:S.data[i].toNat≠32:=by simpa using hbe.symm
      simp;omega
     simp [hlt,hlt',hltz,hbn,h64,hst,hH]
     have hsz:=stS_sz S i
     exact⟨⟨by omega,by omega⟩,by omega,by rw [←hn1];exact hH⟩
  ·subst heq
   have:nameR S o 0 207=R:=hH
   simp
   exact this
 ·constructor
  ·intro h
   by_cases hh:o < 1∨38 < o
   ·exact hh
   ·exact absurd h (nameR_some 207 0 true true (by omega) hk (fun h=>by cases h) (fun h=>by cases h) (fun _=>rfl) (by omega) (by simp [stS];omega) (by rw [hc];simp [stS];omega))
  ·intro h
   rw [nameR_none 207 0 (by rw [hc];simp [stS];omega)]
   rfl
end Go.Ab
namespace Go.Ab
open Go.Proofs Go.Proofs.Tryz
theorem labN_iff l k n: -1≤labN l k n∧(0≤labN l k n↔(labsL (l.take k)).contains n=true):=by
 unfold labN labI
 cases h:(l.take k).findIdx? (fun i=>decide (i.Op=38) && decide (i.Arg=n))with
 | none=>
   grind [List.findIdx?_eq_none_iff,labsL,mem_labsL]
 | some j=>
   grind [List.findIdx?_eq_some_iff_getElem,labsL,mem_labsL,List.getElem_mem]
set_option maxHeartbeats 2000000 in
theorem wrong30_ok(l:List GIns) (hl:l.length≤100000000000) (i:Nat) (hi:i < l.length):Pure prog 94 [insD l,iD i] (iD (wrongI l (l.take i) l[i])):=by
 obtain⟨⟨o,a⟩,hx⟩:∃x,l[i]=x:=⟨_,rfl⟩
 rw [hx]
 have hxi:l[i]?=some ⟨o,a⟩:=by rw [List.getElem?_eq_getElem hi,hx]
 have hs1:=stands30_ok l hl l.length (Nat.le_refl _) a
 have hs2:=stands30_ok l hl i (by omega) a
 obtain⟨-,p2⟩:=labN_iff l l.length a
 obtain⟨-,q2⟩:=labN_iff l i a
 rw [List.take_length]at p2
 obtain⟨R,hR,hRz⟩:=name27_ok o
 have hh:=has27_ok o
 have hI:=refIs_ok a
 have hIb:int16 a=int16B a:=by simp [int16,int16B,fromB]
 rw [hIb]at hI
 have hj:=jumps30_ok ⟨o,a⟩
 have hR0:R.toList=[]↔o < 1∨38 < o:=by
  rw [←hRz,ByteArray.toList_eq,Array.toList_eq_nil_iff]
  exact⟨fun h=>by rw [ByteArray.size,h];rfl,Array.eq_empty_of_size_eq_zero⟩
 obtain⟨W,hW⟩:∃W,wrongI l (l.take i) ⟨o,a⟩=W:=⟨_,rfl⟩
 rw [hW]
 unfold wrongI at hW
 generalize labN l l.length a=A at *
 generalize labN l i a=B at *
 generalize (labsL l).contains a=c1 at *
 generalize (labsL (l.take i)).contains a=c2 at *
 simp only at hj hW
 generalize jmp o=j at *
 generalize hasA o=k at *
 generalize int16B a=b at *
 clear hRz hIb
 refine rn func94 ?_;simp [-cB,f94]
 intro bs
 simp [-cB,hx,hi,GIns.enc]
 repeat' (first
  | (with_reducible refine And.intro ?_ ?_)
  | (refine condC_split (fun h=>?_) (fun h=>?_) <;> (try simp at h) <;> (try simp [-cB,h,hx,hi,GIns.enc]))
  | ((first | refine pC hj ?_ | refine pC hs1 ?_ | refine pC hs2 ?_ | refine pC hR ?_ | refine pC hh ?_ | refine pC hI ?_ | refine lC hj ?_ | refine lC hs1 ?_ | refine lC hs2 ?_ | refine lC hR ?_ | refine lC hh ?_ | refine lC hI ?_ | refine pG hj ?_ | refine pG hs1 ?_ | refine pG hs2 ?_ | refine pG hR ?_ | refine pG hh ?_ | refine pG hI ?_) <;> (try simp [-cB,hx,hi,GIns.enc]))
  | (with_reducible intro _))
 all_goals grind
end Go.Ab
namespace Go.Ab
open Go.Proofs Go.Proofs.Tryz
theorem codeP_enc {w:Zl} {k:Nat} {p:GIns×Nat} (h:jmp p.1.Op=false):codeP w k p=encM p.1:=by
 unfold codeP
 split
 ·rename_i h38
  unfold encM;rw [if_pos (by omega)]
 ·rw [if_neg (by rw [h];simp)]
theorem codeP_jmp {w:Zl} {k:Nat} {p:GIns×Nat} (h:jmp p.1.Op=true):codeP w k p=encK p.1.Op (farZ w p.1.Arg (k+lenP p)) p.2:=by
 unfold codeP
 rw [if_neg (fun h38=>by rw [h38]at h;cases h),if_pos h]
theorem codeZ_succ(w z:Zl) (i:Nat) (h:i < z.length):codeZ w 0 (z.take (i+1))=codeZ w 0 (z.take i)++codeP w (lenZ (z.take i)) z[i]:=by
 rw [List.take_add_one,List.getElem?_eq_getElem h,codeZ_app]
 simp [codeZ]
theorem codeP_le(w:Zl) (k:Nat) (p:GIns×Nat):(codeP w k p).length≤3:=by
 by_cases h:jmp p.1.Op=true
 ·rw [codeP_jmp h,encK,List.length_cons]
  have:(argB (farZ w p.1.Arg (k+lenP p)) p.2).length≤2:=by
   match p.2 with
   | 0=>simp [argB]
   | 1=>simp [argB]
   | n+2=>simp [argB]
  omega
 ·rw [codeP_enc (by simpa using h)];exact encM_len _
theorem codeZ_le(w:Zl):∀(k:Nat) (z:Zl),(codeZ w k z).length≤3 *z.length
 | k,[]=>by simp [codeZ]
 | k,p::z=>by
   have:=codeZ_le w (k+lenP p) z
   have:=codeP_le w k p
   rw [codeZ,List.length_append,List.length_cons];omega
theorem jmp_op {o:Int} (h:jmp o=true):1≤o∧o < 38:=by
 unfold jmp at h
 simp only [Bool.or_eq_true,decide_eq_true_eq]at h
 omega
theorem wrongF_lab {l:List GIns} (h:wrongF l [] l=0):∀i∈l,jmp i.Op=true→(labsL l).contains i.Arg=true:=by
 intro i hi hj
 obtain⟨b,c,hbc⟩:=List.append_of_mem hi
 have:=wrongF_ok [] l h b i c hbc
 unfold wrongI at this
 split at this
 ·omega
 ·rename_i hn
  cases hc:(labsL l).contains i.Arg with
  | true=>rfl
  | false=>exact absurd ⟨hj,hc⟩ hn
theorem assemble30_ok(l:List GIns) (hl:l.length≤1000000000):Pure prog 60 [insD l] (.tup [bytD (asmM l).1,iD (asmM l).2]):=by
 obtain⟨c,hc⟩:∃c,asmM l=c:=⟨_,rfl⟩
 have hw0:wrongM l=wrongF l (l.take 0) (l.drop 0):=rfl
 obtain⟨E,hE⟩:∃E,wrongM l=E:=⟨_,rfl⟩
 rw [hE]at hw0
 obtain⟨z,hz,hf,h3,_⟩:=sizesM_ok (3 *l.length+1) (zipZ l) (zipZ_ok l) (by simp [zipZ];omega)
 rw [zipZ_fst]at hf
 have hzl:z.length=l.length:=by simpa using congrArg List.length hf
 have hsz:=sizes30_ok l hl z hz
 have h33:∀p∈z,p.2≤3:=fun p hp=>(h3 p hp).1
 have hpl:=places30_ok z (by omega) h33
 rw [hf,hzl]at hpl
 have hal:=atL_len z (l.length+1)
 have hag:=atL_get z (n:=l.length+1) (k:=l.length) (by omega)
 have hag2:(atL z (l.length+1))[l.length]'(by omega)=(lenZ z:Int):=by
  rw [List.getElem?_eq_getElem (by omega)]at hag
  rw [Option.some.inj hag,←hzl,List.take_length]
 have hcd:=hc
 unfold asmM at hcd
 rw [hE,hz]at hcd
 simp only at hcd
 rw [hc]
 refine rn func60 ?_;simp [-cB,f60]
 refine AWP.loopS [0,4] l.length (fun i=> [(4,iD i)]) (fun _=> []) (fun i=>wrongF l (l.take i) (l.drop i)=E) (by rfl) (by simpa using hw0.symm) ?_
 intro i hi hH
 rcases Nat.lt_or_eq_of_le hi with hlt | heq
 ·have h64:inR .i64 ((i:Int)+1):=iW
  have hwr:=wrong30_ok l (by omega) i hlt
  have hdr:l.drop i=l[i]::l.drop (i+1):=by rw [←List.getElem_cons_drop]
  have htk:l.take i++ [l[i]]=l.take (i+1):=by rw [List.take_add_one,List.getElem?_eq_getElem hlt];rfl
  rw [hdr,wrongF,htk]at hH
  by_cases hw:wrongI l (l.take i) l[i]=0
  ·rw [if_pos hw]at hH
   rw [hw]at hwr
   simp [-cB,hlt]
   refine pC hwr ?_
   simp [hlt,h64,hH]
  ·rw [if_neg hw]at hH
   rw [hH]at hwr hw
   rw [if_pos hw]at hcd
   simp [-cB,hlt]
   refine pC hwr ?_
   simp [hlt,hw,←hcd]
   rfl
 ·have hE0:E=0:=by
   rw [heq,List.take_length,List.drop_length,wrongF]at hH
   exact hH.symm
  have hlab:=wrongF_lab (l:=l) (by rw [←hE0];exact hE)
  have hsz:=hsz hlab
  rw [hE0]at hcd
  simp at hcd
  simp [-cB,heq]
  refine pC hsz ?_
  simp
  refine pC hpl ?_
  have hcast:(65536:Int) < (lenZ z:Int)↔65536 < lenZ z:=by omega
  by_cases hL:65536 < lenZ z
  ·rw [if_pos hL]at hcd
   simp [hal,hag2,hL,hcast,←hcd]
   rfl
  ·rw [if_neg hL]at hcd
   simp [hal,hag2,hL,hcast]
   clear hH hE hw0 hz hag hag2
   refine AWP.weaken (Wk.own' (t:=8) (h:=1000) (k:=1) (ty:=5) (by rfl) (by simp [keys])) ?_
   refine AWP.loopS [0,6,7,8,9] l.length (fun i=> [(9,iD i)]) (fun i=> [(1000,.row 5 1 (dd (encY (codeZ z 0 (z.take i)))))]) (fun i=>∀p∈z.take i,(jmp p.1.Op && decide (p.2=3))=false) (by rfl) (by simp [codeZ,encY]) ?_
   intro j hj hJ
   have hcl:=codeZ_le z 0 (z.take j)
   rw [List.length_take]at hcl
   rcases Nat.lt_or_eq_of_le hj with hlt | heq2
   ·have hjz:j < z.length:=by omega
    have h64:inR .i64 ((j:Int)+1):=iW
    have hlj:l[j]=z[j].1:=by
     have:=fst_get (a:=z) (b:=zipZ l) (by rw [hf,zipZ_fst]) hjz (by simp [zipZ];omega)
     rw [this];simp [zipZ]
    have hjj:=jumps30_ok z[j].1
    have hcs:=codeZ_succ z z j hjz
    have hsg:=szI_get z hjz
    have hsl:(szI z).length=l.length:=by simp [szI,hzl]
    have hsg2:(szI z)[j]'(by omega)=(z[j].2:Int):=(List.getElem?_eq_some_iff.1 hsg).2
    have hp3:=h33 z[j] (List.getElem_mem hjz)
    have hsnoc:(jmp z[j].1.Op && decide (z[j].2=3))=false→∀p∈z.take (j+1),(jmp p.1.Op && decide (p.2=3))=false:=by
     intro h p hp
     rcases take_mem_snoc (List.getElem?_eq_getElem hjz) hp with h' | rfl
     ·exact hJ p h'
     ·exact h
    cases hjm:jmp z[j].1.Op with
    | false=>
      rw [hjm]at hjj hsnoc
      have he:=encode27_ok z[j].1
      have hel:=encM_len z[j].1
      rw [codeP_enc hjm]at hcs
      simp [-cB,hlt,hlj]
      refine pC hjj ?_
      simp [-cB,hlt,hlj]
      refine pC he ?_
      simp [hlt,h64,hcs]
      exact⟨⟨encY_one _,by omega⟩,fun a b hab hja=>by have:=hsnoc rfl (a,b) hab;simpa [hja]using this⟩
    | true=>
      rw [hjm]at hjj hsnoc
      simp [-cB,hlt,hlj]
      refine pC hjj ?_
      by_cases h3:z[j].2=3
      ·simp [hlt,hlj,hsl,hsg2,h3]
       have hany:(z.any fun p=>jmp p.1.Op && decide (p.2=3))=true:=List.any_eq_true.2 ⟨z[j],List.getElem_mem hjz,by simp [hjm,h3]⟩
       rw [hany]at hcd
       simp at hcd
       rw [←hcd]
       exact⟨rfl,rfl⟩
      ·have h3':¬((z[j].2:Nat):Int)=3:=by omega
       have hfa:=far30_ok z (by omega) h33 j hjz (labAt_some _ _ (by rw [hf];have:=hlab z[j].1 (by rw [←hlj];exact List.getElem_mem hlt) hjm;simpa using this))
       rw [hf,hzl]at hfa
       rw [codeP_jmp hjm,←lenZ_succ z j hjz]at hcs
       have hjp:=jump30_ok z[j].1.Op (farZ z z[j].1.Arg (lenZ (z.take (j+1)))) z[j].2 (jmp_op hjm) (by omega)
       simp [hlt,hlj,hsl,hsg2,h3']
       refine AWP.regionM0 [some (0,0),some (0,0),some (0,0),some (0,0),some (0,0),some (0,0),some (0,0),some (0,0),some (0,0),some (0,0),some (0,0),some (0,0),some (0,0),some (0,0),some (0,0),none,some (1,1)] [iD (farZ z z[j].1.Arg (lenZ (z.take (j+1)))),bytD (encK z[j].1.Op (farZ z z[j].1.Arg (lenZ (z.take (j+1)))) z[j].2)] tmix (by kernel_rfl) ?_
       simp [hlt,hlj,hsl,hsg2,h3',hfa.ok,hjp.ok,hcs,h64]
       have hkl:(encK z[j].1.Op (farZ z z[j].1.Arg (lenZ (z.take (j+1)))) z[j].2).length≤3:=by
        have:=codeP_le z (lenZ (z.take j)) z[j]
        rw [codeP_jmp hjm,←lenZ_succ z j hjz]at this
        exact this
       exact⟨⟨encY_one _,by omega⟩,fun a b hab hja=>by have:=hsnoc (by simp [h3]) (a,b) hab;simpa [hja]using this⟩
   ·have hnone:(z.any fun p=>jmp p.1.Op && decide (p.2=3))=false:=by
     rw [List.any_eq_false]
     intro p hp
     rw [heq2,←hzl,List.take_length]at hJ
     rw [hJ p hp];simp
    rw [hnone]at hcd
    simp at hcd
    simp [heq2,←hcd]
    rw [←hzl,List.take_length]
end Go.Ab
namespace Go.Ab
open Go.Proofs Go.Proofs.Tryz
set_option maxRecDepth 40000
set_option maxHeartbeats 4000000
def sayI(x:GExpr) (n:Int):List GIns×Int:=
 if x.Kind=19 then([⟨21,x.Num⟩],n)else if x.Kind=13 then((genEs x.Args n).1++ [⟨23,0⟩],(genEs x.Args n).2)else((genE x n).1++ [⟨22,0⟩],(genE x n).2)
def genSay:List GExpr→Int→List GIns×Int
 | [],n=>([],n)
 | x::l,n=>((sayI x n).1++(genSay l (sayI x n).2).1,(genSay l (sayI x n).2).2)
def deedM(k num:Int):GIns:=
 if k=2∨k=3 then⟨6,num⟩else if k=23 then⟨4,num⟩else if k=4 then⟨14,num⟩else if k=5 then⟨15,num⟩else if k=6 then⟨16,num⟩else if k=17 then⟨32,num⟩else if k=18 then⟨33,num⟩
 else if k=7 then⟨17,0⟩else if k=8 then⟨18,0⟩else if k=12 then⟨27,0⟩else if k=13 then⟨28,0⟩else if k=14 then⟨29,0⟩else if k=15 then⟨30,0⟩else if k=16 then⟨31,0⟩
 else if k=20 then⟨34,0⟩else if k=21 then⟨35,0⟩else if k=22 then⟨36,0⟩else⟨2,0⟩
def tick:GIns:=⟨37,0⟩
mutual
def genS:GStmt→Int→List GIns×Int
 | .mk k num _ a b c,n=>
   if k=9 then
    (if c.isEmpty then([tick]++(genEs a (n+1)).1++ [⟨25,n⟩]++(genB b (genEs a (n+1)).2).1++ [⟨38,n⟩],(genB b (genEs a (n+1)).2).2)
     else([tick]++(genEs a (n+2)).1++ [⟨25,n⟩]++(genB b (genEs a (n+2)).2).1++ [⟨24,n+1⟩,⟨38,n⟩]++(genB c (genB b (genEs a (n+2)).2).2).1++ [⟨38,n+1⟩],(genB c (genB b (genEs a (n+2)).2).2).2))
   else if k=10 then([⟨38,n⟩,tick]++(genEs a (n+2)).1++ [⟨25,n+1⟩]++(genB b (genEs a (n+2)).2).1++ [⟨24,n⟩,⟨38,n+1⟩],(genB b (genEs a (n+2)).2).2)
   else if k=11 then([tick]++(genEs a (n+2)).1++ [⟨19,2⟩,⟨6,num⟩,⟨38,n⟩,⟨5,num⟩,⟨25,n+1⟩,tick]++ [⟨5,num⟩,⟨19,3⟩,⟨6,num+1⟩]++(genB b (genEs a (n+2)).2).1++ [⟨5,num+1⟩,⟨6,num⟩,⟨24,n⟩,⟨38,n+1⟩],(genB b (genEs a (n+2)).2).2)
   else if k=1 then([tick]++(genSay a n).1,(genSay a n).2)
   else([tick]++(genEs a n).1++ [deedM k num],(genEs a n).2)
def genB:List GStmt→Int→List GIns×Int
 | [],n=>([],n)
 | s::l,n=>((genS s n).1++(genB l (genS s n).2).1,(genB l (genS s n).2).2)
end
theorem genS_if0(s:GStmt) (n:Int) (hk:s.Kind=9) (he:s.Else=[]):genS s n=([tick]++(genEs s.Args (n+1)).1++ [⟨25,n⟩]++(genB s.Body (genEs s.Args (n+1)).2).1++ [⟨38,n⟩],(genB s.Body (genEs s.Args (n+1)).2).2):=by
 cases s;cases hk;cases he;rw [genS];rfl
theorem genS_if1(s:GStmt) (n:Int) (hk:s.Kind=9) (he:s.Else≠ []):genS s n=([tick]++(genEs s.Args (n+2)).1++ [⟨25,n⟩]++(genB s.Body (genEs s.Args (n+2)).2).1++ [⟨24,n+1⟩,⟨38,n⟩]++(genB s.Else (genB s.Body (genEs s.Args (n+2)).2).2).1++ [⟨38,n+1⟩],(genB s.Else (genB s.Body (genEs s.Args (n+2)).2).2).2):=by
 cases s with
 | mk k num nm a b c=>
   cases hk
   rw [genS]
   have:c.isEmpty=false:=by cases c with | nil=>exact(he rfl).elim | cons x l=>rfl
   simp [this]
theorem genS_while(s:GStmt) (n:Int) (hk:s.Kind=10):genS s n=([⟨38,n⟩,tick]++(genEs s.Args (n+2)).1++ [⟨25,n+1⟩]++(genB s.Body (genEs s.Args (n+2)).2).1++ [⟨24,n⟩,⟨38,n+1⟩],(genB s.Body (genEs s.Args (n+2)).2).2):=by
 cases s;cases hk;rw [genS];rfl
theorem genS_each(s:GStmt) (n:Int) (hk:s.Kind=11):genS s n=([tick]++(genEs s.Args (n+2)).1++ [⟨19,2⟩,⟨6,s.Num⟩,⟨38,n⟩,⟨5,s.Num⟩,⟨25,n+1⟩,tick]++ [⟨5,s.Num⟩,⟨19,3⟩,⟨6,s.Num+1⟩]++(genB s.Body (genEs s.Args (n+2)).2).1++ [⟨5,s.Num+1⟩,⟨6,s.Num⟩,⟨24,n⟩,⟨38,n+1⟩],(genB s.Body (genEs s.Args (n+2)).2).2):=by
 cases s;cases hk;rw [genS];rfl
theorem genS_say(s:GStmt) (n:Int) (hk:s.Kind=1):genS s n=([tick]++(genSay s.Args n).1,(genSay s.Args n).2):=by
 cases s;cases hk;rw [genS];rfl
theorem genS_plain(s:GStmt) (n:Int) (h1:s.Kind≠9) (h2:s.Kind≠10) (h3:s.Kind≠11) (h4:s.Kind≠1):genS s n=([tick]++(genEs s.Args n).1++ [deedM s.Kind s.Num],(genEs s.Args n).2):=by
 cases s with
 | mk k num nm a b c=>
   rw [genS.eq_def]
   simp only [GStmt.Kind_mk]at h1 h2 h3 h4
   simp [h1,h2,h3,h4]
theorem genB_snoc(l:List GStmt) (x:GStmt) (m:Int):genB (l++ [x]) m=((genB l m).1++(genS x (genB l m).2).1,(genS x (genB l m).2).2):=by
 induction l generalizing m with
 | nil=>simp [genB]
 | cons y l ih=>simp [genB,ih]
theorem genSay_snoc(l:List GExpr) (x:GExpr) (m:Int):genSay (l++ [x]) m=((genSay l m).1++(sayI x (genSay l m).2).1,(sayI x (genSay l m).2).2):=by
 induction l generalizing m with
 | nil=>simp [genSay]
 | cons y l ih=>simp [genSay,ih]
theorem szB_app(l r:List GStmt):szB (l++r)=szB l+szB r:=by
 induction l with
 | nil=>simp [szB]
 | cons x l ih=>simp only [List.cons_append,szB,ih];omega
theorem genEs_bd' (l:List GExpr) (m:Int):m≤(genEs l m).2∧(genEs l m).2≤m+2 *szEs l∧(genEs l m).1.length≤6 *szEs l:=genEs_bd l (fun x _ m=>genE_bd x m) m
theorem sayI_bd(x:GExpr) (m:Int):m≤(sayI x m).2∧(sayI x m).2≤m+2 *szE x∧(sayI x m).1.length≤7 *szE x:=by
 have h1:=genEs_bd' x.Args m
 have h2:=genE_bd x m
 have h3:=szE_eq x
 unfold sayI
 split
 ·simp only [List.length_cons,List.length_nil];omega
 ·split
  ·simp only [List.length_append,List.length_cons,List.length_nil];omega
  ·simp only [List.length_append,List.length_cons,List.length_nil];omega
theorem genSay_bd(l:List GExpr) (m:Int):m≤(genSay l m).2∧(genSay l m).2≤m+2 *szEs l∧(genSay l m).1.length≤7 *szEs l:=by
 induction l generalizing m with
 | nil=>simp [genSay,szEs]
 | cons x l ih=>
   have h1:=sayI_bd x m
   have h2:=ih (sayI x m).2
   rw [genSay,szEs,List.length_append]
   omega
theorem genB_bd:∀(N:Nat) (l:List GStmt),SizeOf.sizeOf l < N→∀m:Int,m≤(genB l m).2∧(genB l m).2≤m+2 *szB l∧(genB l m).1.length≤16 *szB l:=by
 intro N
 induction N with
 | zero=>intro l h;omega
 | succ N ih=>
   intro l h m
   cases l with
   | nil=>simp [genB,szB]
   | cons s l=>
     have hl:SizeOf.sizeOf l < N:=by simp only [List.cons.sizeOf_spec]at h;omega
     have hs:SizeOf.sizeOf s < N:=by simp only [List.cons.sizeOf_spec]at h;omega
     have hb:=GStmt.lt_body s
     have he:=GStmt.lt_else s
     rw [genB,szB,szS_eq,List.length_append]
     have h2:=ih l hl (genS s m).2
     have key:m≤(genS s m).2∧(genS s m).2≤m+2 *(1+szEs s.Args+szB s.Body+szB s.Else)∧(genS s m).1.length≤16 *(1+szEs s.Args+szB s.Body+szB s.Else):=by
      by_cases k9:s.Kind=9
      ·by_cases he0:s.Else=[]
       ·rw [genS_if0 s m k9 he0]
        have a1:=genEs_bd' s.Args (m+1)
        have a2:=ih s.Body (by omega) (genEs s.Args (m+1)).2
        simp only [List.length_append,List.length_cons,List.length_nil]
        omega
       ·rw [genS_if1 s m k9 he0]
        have a1:=genEs_bd' s.Args (m+2)
        have a2:=ih s.Body (by omega) (genEs s.Args (m+2)).2
        have a3:=ih s.Else (by omega) (genB s.Body (genEs s.Args (m+2)).2).2
        simp only [List.length_append,List.length_cons,List.length_nil]
        omega
      by_cases k10:s.Kind=10
      ·rw [genS_while s m k10]
       have a1:=genEs_bd' s.Args (m+2)
       have a2:=ih s.Body (by omega) (genEs s.Args (m+2)).2
       simp only [List.length_append,List.length_cons,List.length_nil]
       omega
      by_cases k11:s.Kind=11
      ·rw [genS_each s m k11]
       have a1:=genEs_bd' s.Args (m+2)
       have a2:=ih s.Body (by omega) (genEs s.Args (m+2)).2
       simp only [List.length_append,List.length_cons,List.length_nil]
       omega
      by_cases k1:s.Kind=1
      ·rw [genS_say s m k1]
       have a1:=genSay_bd s.Args m
       simp only [List.length_append,List.length_cons,List.length_nil]
       omega
      ·rw [genS_plain s m k9 k10 k11 k1]
       have a1:=genEs_bd' s.Args m
       simp only [List.length_append,List.length_cons,List.length_nil]
       omega
     omega
theorem genB_bd' (l:List GStmt) (m:Int):m≤(genB l m).2∧(genB l m).2≤m+2 *szB l∧(genB l m).1.length≤16 *szB l:=genB_bd _ l (Nat.lt_succ_self _) m
theorem genS_bd(s:GStmt) (m:Int):m≤(genS s m).2∧(genS s m).2≤m+2 *szS s∧(genS s m).1.length≤16 *szS s:=by
 have:=genB_bd' [s] m
 simpa [genB,szB]using this
end Go.Ab
namespace Go.Ab
open Go.Proofs Go.Proofs.Tryz
set_option maxRecDepth 40000
set_option maxHeartbeats 4000000
theorem deed_ok(s:GStmt):Pure prog 229 [.agg (s.enc.map .d)] (.agg ((deedM s.Kind s.Num).enc.map .d)):=by
 refine rn func229 ?_;simp [-cB,f229]
 intro bs
 repeat' (first
  | (with_reducible refine And.intro ?_ ?_)
  | ((first | (refine condC_split (fun h=>?_) (fun h=>?_) <;> (try simp at h)) | refine pC (code_ok _ _) ?_ | refine lC (code_ok _ _) ?_ | refine pG (code_ok _ _) ?_) <;> (try simp [-cB, *]))
  | (with_reducible intro _))
 all_goals simp [deedM, *]
theorem join_own(a b:List GIns) (ha:a.length≤1000000000000) (hb:b.length≤1000000000000):ACalls prog 102 [.d (.sl (a.map GIns.enc)),.d (.sl (b.map GIns.enc))] [] (fun r L=>r= .ret (.rv 5)∧L=[(5,.row 93 2 (dd ((a++b).map GIns.enc)))]):=by
 refine ACalls.run func102 rfl (by simp [f102]) ?_;simp [f102]
 omega
theorem genE_one(x:GExpr) (m:Int):genEs [x] m=genE x m:=by
 simp [genEs]
theorem bound_title {t:GTables} {locals:Int} {e:GExpr} (h:boundM t locals e true=true) (hk:e.Kind=13):∃a,e.Args=[a]:=by
 rw [boundM_eq,Bool.and_eq_true]at h
 have h1:=h.1
 simp [boundK,hk,bareM]at h1
 have hl:e.Args.length=1:=by omega
 generalize e.Args=l at hl
 match l,hl with
 | [a],_=>exact⟨a,rfl⟩
theorem refSay_ok(t:GTables) (locals:Int) (l:List GExpr) (hl:∀x∈l,x.wf) (hb:∀x∈l,boundM t locals x true=true) (hlen:l.length≤1000000000000000) (n:Int) (hn:0≤n∧n+2 *szEs l≤1000000000):
  Pure prog 227 [.d (.sl (l.map GExpr.enc)),iD n] (genT (genSay l n)):=by
 unfold genT
 refine rn func227 ?_;simp [-cB,f227]
 refine AWP.weaken (Wk.own' (t:=6) (h:=5) (k:=2) (ty:=93) rfl (by simp)) ?_
 refine AWP.loopL [0,1,6,7] l (fun pre=> [(1,iD (genSay pre n).2),(7,iD pre.length)]) (fun pre=> [(5,.row 93 2 (dd ((genSay pre n).1.map GIns.enc)))]) (fun _=>True) (by rfl) (by omega) (by simp [genSay]) ?_ ?_
 ·rintro pre x post hsp-hlt hge a4
  have hw:=hl x (by rw [hsp];simp)
  have hbx:=hb x (by rw [hsp];simp)
  have hsn:=genSay_snoc pre x n
  have hsz:szEs pre+szE x≤szEs l:=by rw [hsp,szEs_app];simp only [szEs];omega
  have b1:=genSay_bd pre n
  have b2:=sayI_bd x (genSay pre n).2
  clear hsp
  generalize genSay pre n=k at *
  obtain⟨k1,k2⟩:=k
  simp only at hsn b1 b2 ⊢
  have hz:=szE_eq x
  by_cases h19:x.Kind=19
  ·have hI:sayI x k2=([⟨21,x.Num⟩],k2):=by simp [sayI,h19]
   rw [hI]at hsn
   simp [hlt,hge,h19]
   refine pC (code_ok _ _) ?_
   simp [hge,hsn,a4]
   omega
  ·have hE:∃y,(∀m,sayI x m=((genE y m).1++ [⟨if x.Kind=13 then 23 else 22,0⟩],(genE y m).2))∧boundM t locals y false=true∧y.wf∧szE y≤szE x∧(if x.Kind=13 then x.Args=[y]else y=x):=by
    by_cases h13:x.Kind=13
    ·obtain⟨y,hy⟩:=bound_title hbx h13
     refine⟨y,fun m=>by simp [sayI,h13,hy,genE_one],bound_mem hbx (by simp [hy]),GExpr.wf_Args hw y (by simp [hy]),?_,by simp [h13,hy]⟩
     rw [hz,hy];simp only [szEs];omega
    ·exact⟨x,fun m=>by simp [sayI,h19,h13],bound_said hbx h19 h13,hw,by omega,by simp [h13]⟩
   obtain⟨y,h1,h2,h3,h4,h5⟩:=hE
   have hC:=refExpr_ok t locals y h3 h2 k2 ⟨by omega,by omega⟩
   have b3:=genE_bd y k2
   rw [h1]at hsn
   generalize genE y k2=q at *
   obtain⟨q1,q2⟩:=q
   unfold genT at hC
   simp only at hsn hC b3
   by_cases h13:x.Kind=13
   ·rw [if_pos h13]at h5 hsn
    simp [hlt,hge,h19,h13,h5]
    intro bs
    refine pC hC ?_
    simp
    refine AOps.weaken (Wk.freeze 5 (ys:=k1.map GIns.enc) rfl) ?_
    simp
    refine AOps.pureC rfl (join_ok k1 q1 (by omega) (by omega)) (by simp) rfl (by simp) rfl ?_
    simp
    refine pC (code_ok _ _) ?_
    simp
    refine AOps.weaken (Wk.freeze 55 (ys:=([GIns.mk 23 0]).map _) rfl) ?_
    simp
    refine AOps.effD [] rfl (join_own (k1++q1) [GIns.mk 23 0] (by simp <;> omega) (by simp)) (by simp) rfl (by simp) rfl (by kernel_rfl) (by simp) (by simp) (by simp) (by simp) (by simp) ?_
    simp [hsn,a4]
   ·rw [if_neg h13]at h5 hsn
    subst h5
    simp [hlt,hge,h19,h13]
    intro bs
    refine pC hC ?_
    simp
    refine AOps.weaken (Wk.freeze 5 (ys:=k1.map GIns.enc) rfl) ?_
    simp
    refine AOps.pureC rfl (join_ok k1 q1 (by omega) (by omega)) (by simp) rfl (by simp) rfl ?_
    simp
    refine pC (code_ok _ _) ?_
    simp
    refine AOps.weaken (Wk.freeze 55 (ys:=([GIns.mk 22 0]).map _) rfl) ?_
    simp
    refine AOps.effD [] rfl (join_own (k1++q1) [GIns.mk 22 0] (by simp <;> omega) (by simp)) (by simp) rfl (by simp) rfl (by kernel_rfl) (by simp) (by simp) (by simp) (by simp) (by simp) ?_
    simp [hsn,a4]
 ·intro _
  simp
end Go.Ab
namespace Go.Ab
open Go.Proofs Go.Proofs.Tryz
set_option maxRecDepth 40000
set_option maxHeartbeats 4000000
theorem join_r2(h:Nat) (hh:h≠5) (a b:List GIns) (ha:a.length≤1000000000000) (hb:b.length≤1000000000000):ACalls prog 102 [.d (.sl (a.map GIns.enc)),.rv h] [(h,.row 93 2 (dd (b.map GIns.enc)))] (fun r L=>r= .ret (.d (.sl ((a++b).map GIns.enc)))∧L=[(h,.row 93 2 (dd (b.map GIns.enc)))]):=by
 have h5:(h==5)=false:=by simp [hh]
 refine ACalls.of_AWP func102 rfl (by simp [f102]) ?_
 refine AWP.seqK ?_
 simp [f102]
 refine AWP.seqK ?_
 simp [hh,hh.symm,h5]
 refine⟨by omega,by omega,?_⟩
 refine AWP.weaken (Wk.freeze 5 (k:=2) (ty:=93) (ys:=a.map GIns.enc++b.map GIns.enc) rfl) (AWP.ret ?_)
 simp [hh,hh.symm,h5]
theorem join_r1(h:Nat) (hh:h≠5) (a b:List GIns) (ha:a.length≤1000000000000) (hb:b.length≤1000000000000):ACalls prog 102 [.rv h,.d (.sl (b.map GIns.enc))] [(h,.row 93 2 (dd (a.map GIns.enc)))] (fun r L=>r= .ret (.d (.sl ((a++b).map GIns.enc)))∧L=[(h,.row 93 2 (dd (a.map GIns.enc)))]):=by
 have h5:(h==5)=false:=by simp [hh]
 refine ACalls.of_AWP func102 rfl (by simp [f102]) ?_
 refine AWP.seqK ?_
 simp [f102]
 refine AWP.seqK ?_
 simp [hh,hh.symm,h5]
 refine⟨by omega,by omega,?_⟩
 refine AWP.weaken (Wk.freeze 5 (k:=2) (ty:=93) (ys:=a.map GIns.enc++b.map GIns.enc) rfl) (AWP.ret ?_)
 simp [hh,hh.symm,h5]
theorem boundS_parts {t:GTables} {locals:Int} {s:GStmt} (h:boundS t locals s=true):(shapeM s).1=true∧thereM t s locals=true∧(∀x∈s.Args,boundM t locals x (decide (s.Kind=1))=true)∧(∀x∈s.Body,boundS t locals x=true)∧(∀x∈s.Else,boundS t locals x=true):=by
 rw [boundS_eq]at h
 simp only [Bool.and_eq_true,boundB,boundSs_all,List.all_eq_true]at h
 obtain⟨⟨⟨⟨⟨h1,h2⟩,h3⟩,h4⟩,h5⟩,h6⟩:=h
 exact⟨h1,h2,h4,h5.1,h6.1⟩
theorem shape_one {s:GStmt} (h:(shapeM s).1=true) (hk:s.Kind=9∨s.Kind=10∨s.Kind=11):∃x,s.Args=[x]:=by
 have hl:s.Args.length=1:=by
  rcases hk with hk | hk | hk <;> · simp [shapeM,hk,hasM]at h;omega
 generalize s.Args=l at hl
 match l,hl with
 | [x],_=>exact⟨x,rfl⟩
def RStmt(s:GStmt):Prop:=∀n:Int,0≤n∧n+2 *szS s≤1000000000→Pure prog 201 [.agg (s.enc.map .d),iD n] (genT (genS s n))
theorem refBlock_of(l:List GStmt) (hlen:l.length≤1000000000000000) (ih:∀s∈l,RStmt s) (n:Int) (hn:0≤n∧n+2 *szB l≤1000000000):Pure prog 163 [.d (.sl (l.map GStmt.enc)),iD n] (genT (genB l n)):=by
 unfold genT
 refine rn func163 ?_;simp [f163]
 refine AWP.weaken (Wk.nil' (t:=6) rfl) ?_
 refine AWP.loopL [0,1,6,7] l (fun pre=> [(1,iD (genB pre n).2),(6,.d (.sl ((genB pre n).1.map GIns.enc))),(7,iD pre.length)]) (fun _=> []) (fun _=>True) (by rfl) (by omega) (by simp [genB]) ?_ ?_
 ·rintro pre s post hsp-hlt hge a4
  have hS:=ih s (by rw [hsp];simp)
  have hsn:=genB_snoc pre s n
  have hsz:szB pre+szS s≤szB l:=by rw [hsp,szB_app];simp only [szB];omega
  have b1:=genB_bd' pre n
  clear hsp
  generalize genB pre n=k at *
  obtain⟨k1,k2⟩:=k
  simp only at hsn b1
  have b2:=genS_bd s k2
  have hC:=hS k2 ⟨by omega,by omega⟩
  generalize genS s k2=q at *
  obtain⟨q1,q2⟩:=q
  unfold genT at hC
  simp only at hsn hC b2
  simp [hlt,hge]
  refine pC hC ?_
  simp
  refine AOps.pureC rfl (join_ok k1 q1 (by omega) (by omega)) (by simp) rfl (by simp) rfl ?_
  simp [hsn,a4]
 ·intro _
  simp
theorem refEach_of(s:GStmt) (x:GExpr) (hA:s.Args=[x]) (n:Int) (hn:0≤n∧n+2 *szS s≤1000000000) (hnum:inR .i64 (s.Num+1)) (hw:s.wf)
  (hx:∀m:Int,0≤m∧m+2 *szE x≤1000000000→Pure prog 222 [.agg (x.enc.map .d),iD m] (genT (genE x m)))
  (hb:∀m:Int,0≤m∧m+2 *szB s.Body≤1000000000→Pure prog 163 [.d (.sl (s.Body.map GStmt.enc)),iD m] (genT (genB s.Body m))) (hk:s.Kind=11):
  Pure prog 226 [.agg (s.enc.map .d),iD n] (genT (genS s n)):=by
 rw [genS_each s n hk,hA,genE_one]
 have hz:=szS_eq s
 rw [hA]at hz
 simp only [szEs]at hz
 have b1:=genE_bd x (n+2)
 have b2:=genB_bd' s.Body (genE x (n+2)).2
 have hC:=hx (n+2) ⟨by omega,by omega⟩
 generalize genE x (n+2)=p at *
 obtain⟨p1,p2⟩:=p
 simp only at b1 b2 hC ⊢
 have hD:=hb p2 ⟨by omega,by omega⟩
 generalize genB s.Body p2=q at *
 obtain⟨q1,q2⟩:=q
 unfold genT at hC hD ⊢
 simp only at b2 hC hD ⊢
 have a1:inR .i64 (n+2):=iW
 have a2:inR .i64 (n+1):=iW
 have c1:=fun a b L=>(code_ok a b).ok L
 have c2:=fun m L=>(label_ok m).ok L
 have c3:=fun m L=>(jump_ok m).ok L
 have c4:=fun m L=>(zero_ok m).ok L
 refine rn func226 ?_;simp [f226]
 intro bs
 simp [hA,a1]
 refine pC hC ?_
 simp
 refine pC hD ?_
 simp
 refine pC (code_ok 37 0) ?_
 simp
 refine AOps.weaken (Wk.freeze 29 (ys:=([GIns.mk 37 0]).map _) rfl) ?_
 simp
 refine AOps.pureC rfl (join_ok [GIns.mk 37 0] p1 (by simp) (by omega)) (by simp) rfl (by simp) rfl ?_
 simp
 refine AWP.regionM0 [some (0,1),some (0,0),some (0,0),some (0,0),some (0,0),some (0,0),some (0,0),some (0,0),some (0,0),some (0,0),some (0,0),some (0,0),some (0,0),some (0,0),none,none,some (2,2)] [.agg ((GIns.mk 19 2).enc.map .d),.agg ((GIns.mk 6 s.Num).enc.map .d),.agg ((GIns.mk 38 n).enc.map .d),.agg ((GIns.mk 5 s.Num).enc.map .d),.agg ((GIns.mk 25 (n+1)).enc.map .d),.agg ((GIns.mk 37 0).enc.map .d)] tmix (by kernel_rfl) ?_
 simp [c1,c2,c3,c4,a1,a2]
 refine EffM.intro (fun _=>LOp.call 46 [46] rfl (join_r2 46 (by decide) ([GIns.mk 37 0]++p1) [GIns.mk 19 2,GIns.mk 6 s.Num,GIns.mk 38 n,GIns.mk 5 s.Num,GIns.mk 25 (n+1),GIns.mk 37 0] (by simp <;> omega) (by simp)) (by simp) rfl (by kernel_rfl) (by simp [dd]) (by simp) (by simp+contextual) (by simp) (by simp)) ?_
 simp
 refine AWP.regionM0 [some (0,1),some (0,0),some (0,0),some (0,0),some (0,0),some (0,0),some (0,0),some (0,0),some (0,0),none,none,some (2,2)] [.agg ((GIns.mk 5 s.Num).enc.map .d),.agg ((GIns.mk 19 3).enc.map .d),.agg ((GIns.mk 6 (s.Num+1)).enc.map .d)] tmix (by kernel_rfl) ?_
 simp [c1,c2,c3,c4,a1,a2,hnum]
 refine EffM.intro (fun _=>LOp.call 57 [57] rfl (join_r2 57 (by decide) (([GIns.mk 37 0]++p1)++ [GIns.mk 19 2,GIns.mk 6 s.Num,GIns.mk 38 n,GIns.mk 5 s.Num,GIns.mk 25 (n+1),GIns.mk 37 0]) [GIns.mk 5 s.Num,GIns.mk 19 3,GIns.mk 6 (s.Num+1)] (by simp <;> omega) (by simp)) (by simp) rfl (by kernel_rfl) (by simp [dd]) (by simp) (by simp+contextual) (by simp) (by simp)) ?_
 simp
 have c5:=fun L=>(join_ok ((([GIns.mk 37 0]++p1)++ [GIns.mk 19 2,GIns.mk 6 s.Num,GIns.mk 38 n,GIns.mk 5 s.Num,GIns.mk 25 (n+1),GIns.mk 37 0])++ [GIns.mk 5 s.Num,GIns.mk 19 3,GIns.mk 6 (s.Num+1)]) q1 (by simp <;> omega) (by omega)).ok L
 simp at c5
 refine AWP.regionM0 [some (0,0),some (0,0),some (0,0),some (0,0),some (0,0),some (0,0),some (0,0),some (0,0),some (0,0),some (0,0),some (0,0),some (0,0),some (0,0),some (0,0),some (0,0),none,none,some (0,2),some (2,2),some (2,2)] [.d (.sl ((((([GIns.mk 37 0]++p1)++ [GIns.mk 19 2,GIns.mk 6 s.Num,GIns.mk 38 n,GIns.mk 5 s.Num,GIns.mk 25 (n+1),GIns.mk 37 0])++ [GIns.mk 5 s.Num,GIns.mk 19 3,GIns.mk 6 (s.Num+1)])++q1).map GIns.enc)),.agg ((GIns.mk 5 (s.Num+1)).enc.map .d),.agg ((GIns.mk 6 s.Num).enc.map .d),.agg ((GIns.mk 24 n).enc.map .d),.agg ((GIns.mk 38 (n+1)).enc.map .d)] tmix (by kernel_rfl) ?_
 simp [c1,c2,c3,c4,c5,a1,a2,hnum]
 refine EffM.intro (fun _=>LOp.call 74 [74] rfl (join_r2 74 (by decide) (((([GIns.mk 37 0]++p1)++ [GIns.mk 19 2,GIns.mk 6 s.Num,GIns.mk 38 n,GIns.mk 5 s.Num,GIns.mk 25 (n+1),GIns.mk 37 0])++ [GIns.mk 5 s.Num,GIns.mk 19 3,GIns.mk 6 (s.Num+1)])++q1) [GIns.mk 5 (s.Num+1),GIns.mk 6 s.Num,GIns.mk 24 n,GIns.mk 38 (n+1)] (by simp <;> omega) (by simp)) (by simp) rfl (by kernel_rfl) (by simp [dd]) (by simp) (by simp+contextual) (by simp) (by simp)) ?_
 simp [tick]
end Go.Ab
namespace Go.Ab
open Go.Proofs Go.Proofs.Tryz
set_option maxRecDepth 40000
set_option maxHeartbeats 4000000
def RExpr(x:GExpr):Prop:=∀m:Int,0≤m∧m+2 *szE x≤1000000000→Pure prog 222 [.agg (x.enc.map .d),iD m] (genT (genE x m))
def RBlock(l:List GStmt):Prop:=∀m:Int,0≤m∧m+2 *szB l≤1000000000→Pure prog 163 [.d (.sl (l.map GStmt.enc)),iD m] (genT (genB l m))
theorem refIf0_of(s:GStmt) (x:GExpr) (hA:s.Args=[x]) (n:Int) (hn:0≤n∧n+2 *szS s≤1000000000) (hx:RExpr x) (hb:RBlock s.Body) (hk:s.Kind=9) (he:s.Else=[]):
  Pure prog 201 [.agg (s.enc.map .d),iD n] (genT (genS s n)):=by
 rw [genS_if0 s n hk he,hA,genE_one]
 have hz:=szS_eq s
 rw [hA]at hz
 simp only [szEs]at hz
 have b1:=genE_bd x (n+1)
 have b2:=genB_bd' s.Body (genE x (n+1)).2
 have hC:=hx (n+1) ⟨by omega,by omega⟩
 generalize genE x (n+1)=p at *
 obtain⟨p1,p2⟩:=p
 simp only at b1 b2 hC ⊢
 have hD:=hb p2 ⟨by omega,by omega⟩
 generalize genB s.Body p2=q at *
 obtain⟨q1,q2⟩:=q
 unfold genT at hC hD ⊢
 simp only at b2 hC hD ⊢
 have a1:inR .i64 (n+2):=iW
 have a2:inR .i64 (n+1):=iW
 have hlen:s.Else.length=0:=by
  simp [he]
 have e0:((s.Else.length:Int)==0)=true:=by simp [he]
 refine rn func201 ?_;simp [-cB,f201,hk]
 intro bs
 refine pC (code_ok 37 0) ?_
 simp [-cB,hk,a1,a2,hlen,hA,he]
 refine AOps.weaken (Wk.freeze 25 (ys:=([GIns.mk 37 0]).map _) rfl) ?_
 simp [-cB]
 refine pC hC ?_
 simp [-cB]
 refine pC hD ?_
 simp [-cB]
 refine AOps.pureC rfl (join_ok [GIns.mk 37 0] p1 (by simp) (by omega)) (by simp) rfl (by simp) rfl ?_
 simp [-cB]
 refine pC (zero_ok n) ?_
 simp [-cB]
 refine AOps.weaken (Wk.freeze 59 (ys:=([GIns.mk 25 n]).map _) rfl) ?_
 simp [-cB]
 refine AOps.pureC rfl (join_ok ([GIns.mk 37 0]++p1) [GIns.mk 25 n] (by simp <;> omega) (by simp)) (by simp) rfl (by simp) rfl ?_
 simp [-cB]
 refine AOps.pureC rfl (join_ok ([GIns.mk 37 0]++p1++ [GIns.mk 25 n]) q1 (by simp <;> omega) (by omega)) (by simp) rfl (by simp) rfl ?_
 simp [-cB,hlen,he,e0]
 refine pC (label_ok n) ?_
 simp [-cB]
 refine AOps.weaken (Wk.freeze 70 (ys:=([GIns.mk 38 n]).map _) rfl) ?_
 simp [-cB]
 refine AOps.pureC rfl (join_ok ([GIns.mk 37 0]++p1++ [GIns.mk 25 n]++q1) [GIns.mk 38 n] (by simp <;> omega) (by simp)) (by simp) rfl (by simp) rfl ?_
 simp [tick]
theorem refIf1_of(s:GStmt) (x:GExpr) (hA:s.Args=[x]) (n:Int) (hn:0≤n∧n+2 *szS s≤1000000000) (hx:RExpr x) (hb:RBlock s.Body) (hc:RBlock s.Else) (hk:s.Kind=9) (he:s.Else≠ []):
  Pure prog 201 [.agg (s.enc.map .d),iD n] (genT (genS s n)):=by
 rw [genS_if1 s n hk he,hA,genE_one]
 have hz:=szS_eq s
 rw [hA]at hz
 simp only [szEs]at hz
 have b1:=genE_bd x (n+2)
 have b2:=genB_bd' s.Body (genE x (n+2)).2
 have hC:=hx (n+2) ⟨by omega,by omega⟩
 generalize genE x (n+2)=p at *
 obtain⟨p1,p2⟩:=p
 simp only at b1 b2 hC ⊢
 have hD:=hb p2 ⟨by omega,by omega⟩
 have b3:=genB_bd' s.Else (genB s.Body p2).2
 generalize genB s.Body p2=q at *
 obtain⟨q1,q2⟩:=q
 simp only at b2 b3 hD ⊢
 have hF:=hc q2 ⟨by omega,by omega⟩
 generalize genB s.Else q2=r at *
 obtain⟨r1,r2⟩:=r
 unfold genT at hC hD hF ⊢
 simp only at b2 hC hD b3 hF ⊢
 have a1:inR .i64 (n+2):=iW
 have a2:inR .i64 (n+1):=iW
 have hlen:0 < s.Else.length:=by
  cases h:s.Else with | nil=>exact(he h).elim | cons a l=>simp
 have e0:((s.Else.length:Int)==0)=false:=by simp [he]
 refine rn func201 ?_;simp [-cB,f201,hk]
 intro bs
 refine pC (code_ok 37 0) ?_
 simp [-cB,hk,a1,a2,hlen,hA,he]
 refine AOps.weaken (Wk.freeze 25 (ys:=([GIns.mk 37 0]).map _) rfl) ?_
 simp [-cB]
 refine pC hC ?_
 simp [-cB]
 refine pC hD ?_
 simp [-cB]
 refine AOps.pureC rfl (join_ok [GIns.mk 37 0] p1 (by simp) (by omega)) (by simp) rfl (by simp) rfl ?_
 simp [-cB]
 refine pC (zero_ok n) ?_
 simp [-cB]
 refine AOps.weaken (Wk.freeze 59 (ys:=([GIns.mk 25 n]).map _) rfl) ?_
 simp [-cB]
 refine AOps.pureC rfl (join_ok ([GIns.mk 37 0]++p1) [GIns.mk 25 n] (by simp <;> omega) (by simp)) (by simp) rfl (by simp) rfl ?_
 simp [-cB]
 refine AOps.pureC rfl (join_ok ([GIns.mk 37 0]++p1++ [GIns.mk 25 n]) q1 (by simp <;> omega) (by omega)) (by simp) rfl (by simp) rfl ?_
 simp [-cB,hlen,he,e0]
 refine pC hF ?_
 simp [-cB,a2]
 refine pC (jump_ok (n+1)) ?_
 simp [-cB]
 refine pC (label_ok n) ?_
 simp [-cB]
 refine AOps.weaken (Wk.freeze 86 (ys:=([GIns.mk 24 (n+1),GIns.mk 38 n]).map _) rfl) ?_
 simp [-cB]
 refine AOps.pureC rfl (join_ok ([GIns.mk 37 0]++p1++ [GIns.mk 25 n]++q1) [GIns.mk 24 (n+1),GIns.mk 38 n] (by simp <;> omega) (by simp)) (by simp) rfl (by simp) rfl ?_
 simp [-cB]
 refine AOps.pureC rfl (join_ok (([GIns.mk 37 0]++p1++ [GIns.mk 25 n]++q1)++ [GIns.mk 24 (n+1),GIns.mk 38 n]) r1 (by simp <;> omega) (by omega)) (by simp) rfl (by simp) rfl ?_
 simp [-cB,a2]
 refine pC (label_ok (n+1)) ?_
 simp [-cB]
 refine AOps.weaken (Wk.freeze 93 (ys:=([GIns.mk 38 (n+1)]).map _) rfl) ?_
 simp [-cB]
 refine AOps.pureC rfl (join_ok (([GIns.mk 37 0]++p1++ [GIns.mk 25 n]++q1)++ [GIns.mk 24 (n+1),GIns.mk 38 n]++r1) [GIns.mk 38 (n+1)] (by simp <;> omega) (by simp)) (by simp) rfl (by simp) rfl ?_
 simp [tick]
theorem refWhile_of(s:GStmt) (x:GExpr) (hA:s.Args=[x]) (n:Int) (hn:0≤n∧n+2 *szS s≤1000000000) (hx:RExpr x) (hb:RBlock s.Body) (hk:s.Kind=10):
  Pure prog 201 [.agg (s.enc.map .d),iD n] (genT (genS s n)):=by
 rw [genS_while s n hk,hA,genE_one]
 have hz:=szS_eq s
 rw [hA]at hz
 simp only [szEs]at hz
 have b1:=genE_bd x (n+2)
 have b2:=genB_bd' s.Body (genE x (n+2)).2
 have hC:=hx (n+2) ⟨by omega,by omega⟩
 generalize genE x (n+2)=p at *
 obtain⟨p1,p2⟩:=p
 simp only at b1 b2 hC ⊢
 have hD:=hb p2 ⟨by omega,by omega⟩
 generalize genB s.Body p2=q at *
 obtain⟨q1,q2⟩:=q
 unfold genT at hC hD ⊢
 simp only at b2 hC hD ⊢
 have a1:inR .i64 (n+2):=iW
 have a2:inR .i64 (n+1):=iW
 have c2:=fun m L=>(label_ok m).ok L
 have c4:=fun m L=>(zero_ok m).ok L
 refine rn func201 ?_;simp [-cB,f201,hk]
 intro bs
 refine pC (code_ok 37 0) ?_
 simp [-cB,hk,hA,a1]
 refine AOps.weaken (Wk.freeze 25 (ys:=([GIns.mk 37 0]).map _) rfl) ?_
 simp [-cB]
 refine pC hC ?_
 simp [-cB]
 refine pC hD ?_
 simp [-cB]
 refine AWP.regionM0 [some (0,0),some (0,0),some (0,0),some (0,0),some (0,0),none,some (0,1),none,some (0,2),some (0,2),some (2,2),none,none,some (4,4)] [.agg ((GIns.mk 38 n).enc.map .d),.agg ((GIns.mk 25 (n+1)).enc.map .d)] tmix (by kernel_rfl) ?_
 simp [c2,c4,a2]
 refine EffM.intro (fun _=>LOp.call 120 [120] rfl (join_r1 120 (by decide) [GIns.mk 38 n,GIns.mk 37 0] p1 (by simp) (by omega)) (by simp) rfl (by kernel_rfl) (by simp [dd]) (by simp) (by simp+contextual) (by simp) (by simp)) ?_
 simp [c2,c4,a2]
 refine EffM.intro (fun _=>LOp.call 126 [126] rfl (join_r2 126 (by decide) ([GIns.mk 38 n,GIns.mk 37 0]++p1) [GIns.mk 25 (n+1)] (by simp <;> omega) (by simp)) (by simp) rfl (by kernel_rfl) (by simp [dd]) (by simp) (by simp+contextual) (by simp) (by simp)) ?_
 simp [c2,c4,a2]
 refine AOps.pureC rfl (join_ok (([GIns.mk 38 n,GIns.mk 37 0]++p1)++ [GIns.mk 25 (n+1)]) q1 (by simp <;> omega) (by omega)) (by simp) rfl (by simp) rfl ?_
 simp
 refine pC (jump_ok n) ?_
 simp [a2]
 refine pC (label_ok (n+1)) ?_
 simp
 refine AOps.weaken (Wk.freeze 136 (ys:=([GIns.mk 24 n,GIns.mk 38 (n+1)]).map _) rfl) ?_
 simp
 refine AOps.pureC rfl (join_ok ((([GIns.mk 38 n,GIns.mk 37 0]++p1)++ [GIns.mk 25 (n+1)])++q1) [GIns.mk 24 n,GIns.mk 38 (n+1)] (by simp <;> omega) (by simp)) (by simp) rfl (by simp) rfl ?_
 simp [tick]
theorem refSayS_of(s:GStmt) (n:Int) (hn:0≤n∧n+2 *szS s≤1000000000) (hk:s.Kind=1) (hS:Pure prog 227 [.d (.sl (s.Args.map GExpr.enc)),iD n] (genT (genSay s.Args n))):
  Pure prog 201 [.agg (s.enc.map .d),iD n] (genT (genS s n)):=by
 rw [genS_say s n hk]
 have hz:=szS_eq s
 have b1:=genSay_bd s.Args n
 generalize genSay s.Args n=p at *
 obtain⟨p1,p2⟩:=p
 unfold genT at hS ⊢
 simp only at hS b1 ⊢
 refine rn func201 ?_;simp [-cB,f201,hk]
 intro bs
 refine pC (code_ok 37 0) ?_
 simp [-cB,hk]
 refine AOps.weaken (Wk.freeze 25 (ys:=([GIns.mk 37 0]).map _) rfl) ?_
 simp [-cB,hk]
 refine pC hS ?_
 simp [-cB]
 refine AOps.pureC rfl (join_ok [GIns.mk 37 0] p1 (by simp) (by omega)) (by simp) rfl (by simp) rfl ?_
 simp [tick]
theorem refEachS_of(s:GStmt) (n:Int) (hk:s.Kind=11) (hS:Pure prog 226 [.agg (s.enc.map .d),iD n] (genT (genS s n))):
  Pure prog 201 [.agg (s.enc.map .d),iD n] (genT (genS s n)):=by
 generalize genS s n=p at *
 obtain⟨p1,p2⟩:=p
 unfold genT at hS ⊢
 simp only at hS ⊢
 refine rn func201 ?_;simp [-cB,f201,hk]
 intro bs
 refine pC (code_ok 37 0) ?_
 simp [-cB,hk]
 refine pC hS ?_
 simp
theorem refPlain_of(s:GStmt) (n:Int) (hn:0≤n∧n+2 *szS s≤1000000000) (h1:s.Kind≠9) (h2:s.Kind≠10) (h3:s.Kind≠11) (h4:s.Kind≠1) (hS:Pure prog 228 [.d (.sl (s.Args.map GExpr.enc)),iD n] (genT (genEs s.Args n))):
  Pure prog 201 [.agg (s.enc.map .d),iD n] (genT (genS s n)):=by
 rw [genS_plain s n h1 h2 h3 h4]
 have hz:=szS_eq s
 have b1:=genEs_bd' s.Args n
 generalize genEs s.Args n=p at *
 obtain⟨p1,p2⟩:=p
 unfold genT at hS ⊢
 simp only at hS b1 ⊢
 have e1:(s.Kind==9)=false:=by simp [h1]
 have e2:(s.Kind==10)=false:=by simp [h2]
 have e3:(s.Kind==11)=false:=by simp [h3]
 have e4:(s.Kind==1)=false:=by simp [h4]
 have c1:=(deed_ok s).ok
 have c2:=fun L=>(join_ok [GIns.mk 37 0] p1 (by simp) (by omega)).ok L
 simp at c2
 refine rn func201 ?_;simp [-cB,f201]
 intro bs
 refine pC (code_ok 37 0) ?_
 simp [-cB,e1,e2,e3,e4]
 refine AOps.weaken (Wk.freeze 25 (ys:=([GIns.mk 37 0]).map _) rfl) ?_
 simp [-cB]
 refine pC hS ?_
 simp [-cB]
 refine AWP.regionM0 [some (0,0),some (0,0),some (0,0),some (0,0),some (0,0),none,none,some (0,2),some (2,2),some (2,2)] [.d (.sl (([GIns.mk 37 0]++p1).map GIns.enc)),.agg ((deedM s.Kind s.Num).enc.map .d)] tmix (by kernel_rfl) ?_
 simp [c1,c2]
 refine EffM.intro (fun _=>LOp.call 171 [171] rfl (join_r2 171 (by decide) ([GIns.mk 37 0]++p1) [deedM s.Kind s.Num] (by simp <;> omega) (by simp)) (by simp) rfl (by kernel_rfl) (by simp [dd]) (by simp) (by simp+contextual) (by simp) (by simp)) ?_
 simp [tick]
theorem refStmt_ok(t:GTables) (locals:Int) (hlo:inR .i64 locals) (s:GStmt) (hw:s.wf) (hb:boundS t locals s=true):RStmt s:=by
 obtain⟨N,hN⟩:∃N,SizeOf.sizeOf s < N:=⟨_,Nat.lt_succ_self _⟩
 induction N generalizing s with
 | zero=>omega
 | succ N ih=>
   intro n hn
   obtain⟨p1,p2,p3,p4,p5⟩:=boundS_parts hb
   have hz:=szS_eq s
   have hla:=GStmt.wl_Args hw
   have hlb:=GStmt.wl_Body hw
   have hle:=GStmt.wl_Else hw
   have hB:RBlock s.Body:=fun m hm=>refBlock_of s.Body (by omega) (fun x hx=>ih x (GStmt.wf_Body hw x hx) (p4 x hx) (by have:=GStmt.lt_body s;have:=List.sizeOf_lt_of_mem hx;omega)) m hm
   have hE:RBlock s.Else:=fun m hm=>refBlock_of s.Else (by omega) (fun x hx=>ih x (GStmt.wf_Else hw x hx) (p5 x hx) (by have:=GStmt.lt_else s;have:=List.sizeOf_lt_of_mem hx;omega)) m hm
   by_cases k1:s.Kind=1
   ·refine refSayS_of s n hn k1 (refSay_ok t locals s.Args (GStmt.wf_Args hw) (fun x hx=>?_) (by omega) n ⟨by omega,by omega⟩)
    have:=p3 x hx
    rwa [show decide (s.Kind=1)=true by simp [k1]]at this
   have hA:∀x∈s.Args,boundM t locals x false=true:=fun x hx=>by
    have:=p3 x hx
    rwa [show decide (s.Kind=1)=false by simp [k1]]at this
   have hX:∀x∈s.Args,RExpr x:=fun x hx m hm=>refExpr_ok t locals x (GStmt.wf_Args hw x hx) (hA x hx) m hm
   by_cases k9:s.Kind=9
   ·obtain⟨x,hx⟩:=shape_one p1 (.inl k9)
    by_cases he:s.Else=[]
    ·exact refIf0_of s x hx n hn (hX x (by simp [hx])) hB k9 he
    ·exact refIf1_of s x hx n hn (hX x (by simp [hx])) hB hE k9 he
   by_cases k10:s.Kind=10
   ·obtain⟨x,hx⟩:=shape_one p1 (.inr (.inl k10))
    exact refWhile_of s x hx n hn (hX x (by simp [hx])) hB k10
   by_cases k11:s.Kind=11
   ·obtain⟨x,hx⟩:=shape_one p1 (.inr (.inr k11))
    have hnum:inR .i64 (s.Num+1):=by
     have hnm:s.Name.toList=[]∧s.Num < locals-1:=by
      unfold thereM at p2
      cases h:s.Name.toList with
      | nil=>simp [h,k11]at p2;exact⟨rfl,by omega⟩
      | cons a l=>simp [h]at p2
     have h0:0≤s.Num:=by simp [thereM,hnm.1,k11]at p2;omega
     rw [inR_i64]at hlo ⊢
     omega
    exact refEachS_of s n k11 (refEach_of s x hx n hn hnum hw (hX x (by simp [hx])) hB k11)
   ·exact refPlain_of s n hn k9 k10 k11 k1 (refExprs_of s.Args (by omega) n ⟨by omega,by omega⟩ (fun i h m hm=>hX _ (List.getElem_mem h) m hm))
end Go.Ab
namespace Go.Ab
open Go.Proofs Go.Proofs.Tryz
set_option maxRecDepth 40000
set_option maxHeartbeats 4000000
def WEs(es:List GExpr):Prop:=∀(b:Nat) (l:List GIns) (n:Int),0≤n∧n+2 *szEs es≤1000000000∧l.length+6 *szEs es≤100000000000→
 WCalls 189 [.d (.sl (es.map GExpr.enc))] b l n (.tup []) (l++(genEs es n).1) (genEs es n).2
def WBlock(ss:List GStmt):Prop:=∀(b:Nat) (l:List GIns) (n:Int),0≤n∧n+2 *szB ss≤1000000000∧l.length+16 *szB ss≤100000000000→
 WCalls 58 [.d (.sl (ss.map GStmt.enc))] b l n (.tup []) (l++(genB ss n).1) (genB ss n).2
def WSt(f:FuncId) (s:GStmt):Prop:=∀(b:Nat) (l:List GIns) (n:Int),0≤n∧n+2 *szS s≤1000000000∧l.length+16 *szS s≤100000000000→
 WCalls f [.agg (s.enc.map .d)] b l n (.tup []) (l++(genS s n).1) (genS s n).2
theorem wIf0_of(s:GStmt) (hA:WEs s.Args) (hB:WBlock s.Body) (hk:s.Kind=9) (he:s.Else=[]):WSt 151 s:=by
 intro b l n hn
 rw [genS_if0 s n hk he]
 have hz:=szS_eq s
 have b1:=genEs_bd' s.Args (n+1)
 have b2:=genB_bd' s.Body (genEs s.Args (n+1)).2
 have wA:=fun b l h=>hA b l (n+1) h
 have wB:=fun b l h=>hB b l (genEs s.Args (n+1)).2 h
 generalize genEs s.Args (n+1)=p at *
 obtain⟨p1,p2⟩:=p
 simp only at wB b2
 generalize genB s.Body p2=q at *
 obtain⟨q1,q2⟩:=q
 simp only at b1 wA b2 wB ⊢
 have a1:inR .i64 (n+1):=iW
 have hlen:s.Else.length=0:=by simp [he]
 unfold WCalls wb at *
 refine ACalls.runP [5001,5002] (by simp) func151 rfl (by simp [f151]) ?_;simp [-cB,f151]
 intro bs
 refine AOps.effD [5001,5002] rfl (wlabel_ok b l n (by omega)) (by simp [wb]) rfl (by simp) rfl (by kernel_rfl) (by simp [wb]) (by simp [wb]) (by simp [wb]) (by simp [wb]) (by simp [wb]) ?_
 simp [-cB,wb,hlen,a1,he]
 refine AOps.effD [5001,5002] rfl (lay0_ok b l (n+1) 37 (by omega)) (by simp [wb]) rfl (by simp) rfl (by kernel_rfl) (by simp [wb]) (by simp [wb]) (by simp [wb]) (by simp [wb]) (by simp [wb]) ?_
 simp [-cB,wb,hlen,a1,he]
 refine AOps.effD [5001,5002] rfl (wA b (l++ [GIns.mk 37 0]) ⟨by omega,by omega,by simp <;> omega⟩) (by simp [wb]) rfl (by simp) rfl (by kernel_rfl) (by simp [wb]) (by simp [wb]) (by simp [wb]) (by simp [wb]) (by simp [wb]) ?_
 simp [-cB,wb,hlen,a1,he]
 refine AOps.weaken (Wk.freeze 23 (ys:=encI [n]) rfl) ?_
 simp [-cB]
 refine AOps.effD [5001,5002] rfl (lay1_ok b ((l++ [GIns.mk 37 0])++p1) p2 25 n (by simp <;> omega)) (by simp [wb]) rfl (by simp) rfl (by kernel_rfl) (by simp [wb]) (by simp [wb]) (by simp [wb]) (by simp [wb]) (by simp [wb]) ?_
 simp [-cB,wb,hlen,a1,he]
 refine AOps.effD [5001,5002] rfl (wB b (((l++ [GIns.mk 37 0])++p1)++ [GIns.mk 25 n]) ⟨by omega,by omega,by simp <;> omega⟩) (by simp [wb]) rfl (by simp) rfl (by kernel_rfl) (by simp [wb]) (by simp [wb]) (by simp [wb]) (by simp [wb]) (by simp [wb]) ?_
 simp [-cB,wb,hlen,a1,he]
 refine AOps.weaken (Wk.freeze 47 (ys:=encI [n]) rfl) ?_
 simp [-cB]
 refine AOps.effD [5001,5002] rfl (lay1_ok b ((((l++ [GIns.mk 37 0])++p1)++ [GIns.mk 25 n])++q1) q2 38 n (by simp <;> omega)) (by simp [wb]) rfl (by simp) rfl (by kernel_rfl) (by simp [wb]) (by simp [wb]) (by simp [wb]) (by simp [wb]) (by simp [wb]) ?_
 simp [wb,tick]
theorem wIf1_of(s:GStmt) (hA:WEs s.Args) (hB:WBlock s.Body) (hE:WBlock s.Else) (hk:s.Kind=9) (he:s.Else≠ []):WSt 151 s:=by
 intro b l n hn
 rw [genS_if1 s n hk he]
 have hz:=szS_eq s
 have b1:=genEs_bd' s.Args (n+2)
 have b2:=genB_bd' s.Body (genEs s.Args (n+2)).2
 have b3:=genB_bd' s.Else (genB s.Body (genEs s.Args (n+2)).2).2
 have wA:=fun b l h=>hA b l (n+2) h
 have wB:=fun b l h=>hB b l (genEs s.Args (n+2)).2 h
 have wE:=fun b l h=>hE b l (genB s.Body (genEs s.Args (n+2)).2).2 h
 generalize genEs s.Args (n+2)=p at *
 obtain⟨p1,p2⟩:=p
 simp only at wB b2 wE b3
 generalize genB s.Body p2=q at *
 obtain⟨q1,q2⟩:=q
 simp only at wE b3
 generalize genB s.Else q2=r at *
 obtain⟨r1,r2⟩:=r
 simp only at b1 wA b2 wB b3 wE ⊢
 have a1:inR .i64 (n+1):=iW
 have hlen:0 < s.Else.length:=by
  cases h:s.Else with | nil=>exact(he h).elim | cons a l=>simp
 unfold WCalls wb at *
 refine ACalls.runP [5001,5002] (by simp) func151 rfl (by simp [f151]) ?_;simp [-cB,f151]
 intro bs
 refine AOps.effD [5001,5002] rfl (wlabel_ok b l n (by omega)) (by simp [wb]) rfl (by simp) rfl (by kernel_rfl) (by simp [wb]) (by simp [wb]) (by simp [wb]) (by simp [wb]) (by simp [wb]) ?_
 simp [-cB,wb,hlen,a1]
 have hl2:=wlabel_ok b l (n+1) (by omega)
 rw [show n+1+1=n+2 by omega]at hl2
 unfold WCalls wb at hl2
 refine AOps.effD [5001,5002] rfl (hl2) (by simp [wb]) rfl (by simp) rfl (by kernel_rfl) (by simp [wb]) (by simp [wb]) (by simp [wb]) (by simp [wb]) (by simp [wb]) ?_
 simp [-cB,wb,hlen,a1]
 refine AOps.effD [5001,5002] rfl (lay0_ok b l (n+2) 37 (by omega)) (by simp [wb]) rfl (by simp) rfl (by kernel_rfl) (by simp [wb]) (by simp [wb]) (by simp [wb]) (by simp [wb]) (by simp [wb]) ?_
 simp [-cB,wb,hlen,a1]
 refine AOps.effD [5001,5002] rfl (wA b (l++ [GIns.mk 37 0]) ⟨by omega,by omega,by simp <;> omega⟩) (by simp [wb]) rfl (by simp) rfl (by kernel_rfl) (by simp [wb]) (by simp [wb]) (by simp [wb]) (by simp [wb]) (by simp [wb]) ?_
 simp [-cB,wb,hlen,a1]
 refine AOps.weaken (Wk.freeze 23 (ys:=encI [n]) rfl) ?_
 simp [-cB]
 refine AOps.effD [5001,5002] rfl (lay1_ok b ((l++ [GIns.mk 37 0])++p1) p2 25 n (by simp <;> omega)) (by simp [wb]) rfl (by simp) rfl (by kernel_rfl) (by simp [wb]) (by simp [wb]) (by simp [wb]) (by simp [wb]) (by simp [wb]) ?_
 simp [-cB,wb,hlen,a1]
 refine AOps.effD [5001,5002] rfl (wB b (((l++ [GIns.mk 37 0])++p1)++ [GIns.mk 25 n]) ⟨by omega,by omega,by simp <;> omega⟩) (by simp [wb]) rfl (by simp) rfl (by kernel_rfl) (by simp [wb]) (by simp [wb]) (by simp [wb]) (by simp [wb]) (by simp [wb]) ?_
 simp [-cB,wb,hlen,a1]
 refine AOps.weaken (Wk.freeze 35 (ys:=encI [(n+1)]) rfl) ?_
 simp [-cB]
 refine AOps.effD [5001,5002] rfl (lay1_ok b ((((l++ [GIns.mk 37 0])++p1)++ [GIns.mk 25 n])++q1) q2 24 (n+1) (by simp <;> omega)) (by simp [wb]) rfl (by simp) rfl (by kernel_rfl) (by simp [wb]) (by simp [wb]) (by simp [wb]) (by simp [wb]) (by simp [wb]) ?_
 simp [-cB,wb,hlen,a1]
 refine AOps.weaken (Wk.freeze 39 (ys:=encI [n]) rfl) ?_
 simp [-cB]
 refine AOps.effD [5001,5002] rfl (lay1_ok b (((((l++ [GIns.mk 37 0])++p1)++ [GIns.mk 25 n])++q1)++ [GIns.mk 24 (n+1)]) q2 38 n (by simp <;> omega)) (by simp [wb]) rfl (by simp) rfl (by kernel_rfl) (by simp [wb]) (by simp [wb]) (by simp [wb]) (by simp [wb]) (by simp [wb]) ?_
 simp [-cB,wb,hlen,a1]
 refine AOps.effD [5001,5002] rfl (wE b ((((((l++ [GIns.mk 37 0])++p1)++ [GIns.mk 25 n])++q1)++ [GIns.mk 24 (n+1)])++ [GIns.mk 38 n]) ⟨by omega,by omega,by simp <;> omega⟩) (by simp [wb]) rfl (by simp) rfl (by kernel_rfl) (by simp [wb]) (by simp [wb]) (by simp [wb]) (by simp [wb]) (by simp [wb]) ?_
 simp [-cB,wb,hlen,a1]
 refine AOps.weaken (Wk.freeze 47 (ys:=encI [(n+1)]) rfl) ?_
 simp [-cB]
 refine AOps.effD [5001,5002] rfl (lay1_ok b (((((((l++ [GIns.mk 37 0])++p1)++ [GIns.mk 25 n])++q1)++ [GIns.mk 24 (n+1)])++ [GIns.mk 38 n])++r1) r2 38 (n+1) (by simp <;> omega)) (by simp [wb]) rfl (by simp) rfl (by kernel_rfl) (by simp [wb]) (by simp [wb]) (by simp [wb]) (by simp [wb]) (by simp [wb]) ?_
 simp [wb,tick]
theorem wWhile_of(s:GStmt) (hA:WEs s.Args) (hB:WBlock s.Body) (hk:s.Kind=10):WSt 152 s:=by
 intro b l n hn
 rw [genS_while s n hk]
 have hz:=szS_eq s
 have b1:=genEs_bd' s.Args (n+2)
 have b2:=genB_bd' s.Body (genEs s.Args (n+2)).2
 have wA:=fun b l h=>hA b l (n+2) h
 have wB:=fun b l h=>hB b l (genEs s.Args (n+2)).2 h
 generalize genEs s.Args (n+2)=p at *
 obtain⟨p1,p2⟩:=p
 simp only at wB b2
 generalize genB s.Body p2=q at *
 obtain⟨q1,q2⟩:=q
 simp only at b1 wA b2 wB ⊢
 have a1:inR .i64 (n+1):=iW
 unfold WCalls wb at *
 refine ACalls.runP [5001,5002] (by simp) func152 rfl (by simp [f152]) ?_;simp [-cB,f152]
 intro bs
 refine AOps.effD [5001,5002] rfl (two_ok b l n (by omega)) (by simp [wb]) rfl (by simp) rfl (by kernel_rfl) (by simp [wb]) (by simp [wb]) (by simp [wb]) (by simp [wb]) (by simp [wb]) ?_
 simp [-cB,wb,a1]
 refine AOps.weaken (Wk.freeze 13 (ys:=encI [n]) rfl) ?_
 simp [-cB]
 refine AOps.effD [5001,5002] rfl (lay1_ok b l (n+2) 38 n (by omega)) (by simp [wb]) rfl (by simp) rfl (by kernel_rfl) (by simp [wb]) (by simp [wb]) (by simp [wb]) (by simp [wb]) (by simp [wb]) ?_
 simp [-cB,wb,a1]
 refine AOps.effD [5001,5002] rfl (lay0_ok b (l++ [GIns.mk 38 n]) (n+2) 37 (by simp <;> omega)) (by simp [wb]) rfl (by simp) rfl (by kernel_rfl) (by simp [wb]) (by simp [wb]) (by simp [wb]) (by simp [wb]) (by simp [wb]) ?_
 simp [-cB,wb,a1]
 refine AOps.effD [5001,5002] rfl (wA b ((l++ [GIns.mk 38 n])++ [GIns.mk 37 0]) ⟨by omega,by omega,by simp <;> omega⟩) (by simp [wb]) rfl (by simp) rfl (by kernel_rfl) (by simp [wb]) (by simp [wb]) (by simp [wb]) (by simp [wb]) (by simp [wb]) ?_
 simp [-cB,wb,a1]
 refine AOps.weaken (Wk.freeze 23 (ys:=encI [(n+1)]) rfl) ?_
 simp [-cB]
 refine AOps.effD [5001,5002] rfl (lay1_ok b (((l++ [GIns.mk 38 n])++ [GIns.mk 37 0])++p1) p2 25 (n+1) (by simp <;> omega)) (by simp [wb]) rfl (by simp) rfl (by kernel_rfl) (by simp [wb]) (by simp [wb]) (by simp [wb]) (by simp [wb]) (by simp [wb]) ?_
 simp [-cB,wb,a1]
 refine AOps.effD [5001,5002] rfl (wB b ((((l++ [GIns.mk 38 n])++ [GIns.mk 37 0])++p1)++ [GIns.mk 25 (n+1)]) ⟨by omega,by omega,by simp <;> omega⟩) (by simp [wb]) rfl (by simp) rfl (by kernel_rfl) (by simp [wb]) (by simp [wb]) (by simp [wb]) (by simp [wb]) (by simp [wb]) ?_
 simp [-cB,wb,a1]
 refine AOps.weaken (Wk.freeze 31 (ys:=encI [n]) rfl) ?_
 simp [-cB]
 refine AOps.effD [5001,5002] rfl (lay1_ok b (((((l++ [GIns.mk 38 n])++ [GIns.mk 37 0])++p1)++ [GIns.mk 25 (n+1)])++q1) q2 24 n (by simp <;> omega)) (by simp [wb]) rfl (by simp) rfl (by kernel_rfl) (by simp [wb]) (by simp [wb]) (by simp [wb]) (by simp [wb]) (by simp [wb]) ?_
 simp [-cB,wb,a1]
 refine AOps.weaken (Wk.freeze 35 (ys:=encI [(n+1)]) rfl) ?_
 simp [-cB]
 refine AOps.effD [5001,5002] rfl (lay1_ok b ((((((l++ [GIns.mk 38 n])++ [GIns.mk 37 0])++p1)++ [GIns.mk 25 (n+1)])++q1)++ [GIns.mk 24 n]) q2 38 (n+1) (by simp <;> omega)) (by simp [wb]) rfl (by simp) rfl (by kernel_rfl) (by simp [wb]) (by simp [wb]) (by simp [wb]) (by simp [wb]) (by simp [wb]) ?_
 simp [wb,tick]
theorem wEach_of(s:GStmt) (hA:WEs s.Args) (hB:WBlock s.Body) (hk:s.Kind=11) (hnum:inR .i64 (s.Num+1)):WSt 153 s:=by
 intro b l n hn
 rw [genS_each s n hk]
 have hz:=szS_eq s
 have b1:=genEs_bd' s.Args (n+2)
 have b2:=genB_bd' s.Body (genEs s.Args (n+2)).2
 have wA:=fun b l h=>hA b l (n+2) h
 have wB:=fun b l h=>hB b l (genEs s.Args (n+2)).2 h
 generalize genEs s.Args (n+2)=p at *
 obtain⟨p1,p2⟩:=p
 simp only at wB b2
 generalize genB s.Body p2=q at *
 obtain⟨q1,q2⟩:=q
 simp only at b1 wA b2 wB ⊢
 have a1:inR .i64 (n+1):=iW
 unfold WCalls wb at *
 refine ACalls.runP [5001,5002] (by simp) func153 rfl (by simp [f153]) ?_;simp [-cB,f153]
 intro bs
 refine AOps.effD [5001,5002] rfl (two_ok b l n (by omega)) (by simp [wb]) rfl (by simp) rfl (by kernel_rfl) (by simp [wb]) (by simp [wb]) (by simp [wb]) (by simp [wb]) (by simp [wb]) ?_
 simp [-cB,wb,a1,hnum]
 refine AOps.effD [5001,5002] rfl (lay0_ok b l (n+2) 37 (by omega)) (by simp [wb]) rfl (by simp) rfl (by kernel_rfl) (by simp [wb]) (by simp [wb]) (by simp [wb]) (by simp [wb]) (by simp [wb]) ?_
 simp [-cB,wb,a1,hnum]
 refine AOps.effD [5001,5002] rfl (wA b (l++ [GIns.mk 37 0]) ⟨by omega,by omega,by simp <;> omega⟩) (by simp [wb]) rfl (by simp) rfl (by kernel_rfl) (by simp [wb]) (by simp [wb]) (by simp [wb]) (by simp [wb]) (by simp [wb]) ?_
 simp [-cB,wb,a1,hnum]
 refine AOps.weaken (Wk.freeze 18 (ys:=encI [2]) rfl) ?_
 simp [-cB]
 refine AOps.effD [5001,5002] rfl (lay1_ok b ((l++ [GIns.mk 37 0])++p1) p2 19 2 (by simp <;> omega)) (by simp [wb]) rfl (by simp) rfl (by kernel_rfl) (by simp [wb]) (by simp [wb]) (by simp [wb]) (by simp [wb]) (by simp [wb]) ?_
 simp [-cB,wb,a1,hnum]
 refine AOps.weaken (Wk.freeze 23 (ys:=encI [s.Num]) rfl) ?_
 simp [-cB]
 refine AOps.effD [5001,5002] rfl (lay1_ok b (((l++ [GIns.mk 37 0])++p1)++ [GIns.mk 19 2]) p2 6 s.Num (by simp <;> omega)) (by simp [wb]) rfl (by simp) rfl (by kernel_rfl) (by simp [wb]) (by simp [wb]) (by simp [wb]) (by simp [wb]) (by simp [wb]) ?_
 simp [-cB,wb,a1,hnum]
 refine AOps.weaken (Wk.freeze 27 (ys:=encI [n]) rfl) ?_
 simp [-cB]
 refine AOps.effD [5001,5002] rfl (lay1_ok b ((((l++ [GIns.mk 37 0])++p1)++ [GIns.mk 19 2])++ [GIns.mk 6 s.Num]) p2 38 n (by simp <;> omega)) (by simp [wb]) rfl (by simp) rfl (by kernel_rfl) (by simp [wb]) (by simp [wb]) (by simp [wb]) (by simp [wb]) (by simp [wb]) ?_
 simp [-cB,wb,a1,hnum]
 refine AOps.weaken (Wk.freeze 32 (ys:=encI [s.Num]) rfl) ?_
 simp [-cB]
 refine AOps.effD [5001,5002] rfl (lay1_ok b (((((l++ [GIns.mk 37 0])++p1)++ [GIns.mk 19 2])++ [GIns.mk 6 s.Num])++ [GIns.mk 38 n]) p2 5 s.Num (by simp <;> omega)) (by simp [wb]) rfl (by simp) rfl (by kernel_rfl) (by simp [wb]) (by simp [wb]) (by simp [wb]) (by simp [wb]) (by simp [wb]) ?_
 simp [-cB,wb,a1,hnum]
 refine AOps.weaken (Wk.freeze 36 (ys:=encI [(n+1)]) rfl) ?_
 simp [-cB]
 refine AOps.effD [5001,5002] rfl (lay1_ok b ((((((l++ [GIns.mk 37 0])++p1)++ [GIns.mk 19 2])++ [GIns.mk 6 s.Num])++ [GIns.mk 38 n])++ [GIns.mk 5 s.Num]) p2 25 (n+1) (by simp <;> omega)) (by simp [wb]) rfl (by simp) rfl (by kernel_rfl) (by simp [wb]) (by simp [wb]) (by simp [wb]) (by simp [wb]) (by simp [wb]) ?_
 simp [-cB,wb,a1,hnum]
 refine AOps.effD [5001,5002] rfl (lay0_ok b (((((((l++ [GIns.mk 37 0])++p1)++ [GIns.mk 19 2])++ [GIns.mk 6 s.Num])++ [GIns.mk 38 n])++ [GIns.mk 5 s.Num])++ [GIns.mk 25 (n+1)]) p2 37 (by simp <;> omega)) (by simp [wb]) rfl (by simp) rfl (by kernel_rfl) (by simp [wb]) (by simp [wb]) (by simp [wb]) (by simp [wb]) (by simp [wb]) ?_
 simp [-cB,wb,a1,hnum]
 refine AOps.weaken (Wk.freeze 43 (ys:=encI [s.Num]) rfl) ?_
 simp [-cB]
 refine AOps.effD [5001,5002] rfl (lay1_ok b ((((((((l++ [GIns.mk 37 0])++p1)++ [GIns.mk 19 2])++ [GIns.mk 6 s.Num])++ [GIns.mk 38 n])++ [GIns.mk 5 s.Num])++ [GIns.mk 25 (n+1)])++ [GIns.mk 37 0]) p2 5 s.Num (by simp <;> omega)) (by simp [wb]) rfl (by simp) rfl (by kernel_rfl) (by simp [wb]) (by simp [wb]) (by simp [wb]) (by simp [wb]) (by simp [wb]) ?_
 simp [-cB,wb,a1,hnum]
 refine AOps.weaken (Wk.freeze 46 (ys:=encI [3]) rfl) ?_
 simp [-cB]
 refine AOps.effD [5001,5002] rfl (lay1_ok b (((((((((l++ [GIns.mk 37 0])++p1)++ [GIns.mk 19 2])++ [GIns.mk 6 s.Num])++ [GIns.mk 38 n])++ [GIns.mk 5 s.Num])++ [GIns.mk 25 (n+1)])++ [GIns.mk 37 0])++ [GIns.mk 5 s.Num]) p2 19 3 (by simp <;> omega)) (by simp [wb]) rfl (by simp) rfl (by kernel_rfl) (by simp [wb]) (by simp [wb]) (by simp [wb]) (by simp [wb]) (by simp [wb]) ?_
 simp [-cB,wb,a1,hnum]
 refine AOps.weaken (Wk.freeze 52 (ys:=encI [(s.Num+1)]) rfl) ?_
 simp [-cB]
 refine AOps.effD [5001,5002] rfl (lay1_ok b ((((((((((l++ [GIns.mk 37 0])++p1)++ [GIns.mk 19 2])++ [GIns.mk 6 s.Num])++ [GIns.mk 38 n])++ [GIns.mk 5 s.Num])++ [GIns.mk 25 (n+1)])++ [GIns.mk 37 0])++ [GIns.mk 5 s.Num])++ [GIns.mk 19 3]) p2 6 (s.Num+1) (by simp <;> omega)) (by simp [wb]) rfl (by simp) rfl (by kernel_rfl) (by simp [wb]) (by simp [wb]) (by simp [wb]) (by simp [wb]) (by simp [wb]) ?_
 simp [-cB,wb,a1,hnum]
 refine AOps.effD [5001,5002] rfl (wB b (((((((((((l++ [GIns.mk 37 0])++p1)++ [GIns.mk 19 2])++ [GIns.mk 6 s.Num])++ [GIns.mk 38 n])++ [GIns.mk 5 s.Num])++ [GIns.mk 25 (n+1)])++ [GIns.mk 37 0])++ [GIns.mk 5 s.Num])++ [GIns.mk 19 3])++ [GIns.mk 6 (s.Num+1)]) ⟨by omega,by omega,by simp <;> omega⟩) (by simp [wb]) rfl (by simp) rfl (by kernel_rfl) (by simp [wb]) (by simp [wb]) (by simp [wb]) (by simp [wb]) (by simp [wb]) ?_
 simp [-cB,wb,a1,hnum]
 refine AOps.weaken (Wk.freeze 62 (ys:=encI [(s.Num+1)]) rfl) ?_
 simp [-cB]
 refine AOps.effD [5001,5002] rfl (lay1_ok b ((((((((((((l++ [GIns.mk 37 0])++p1)++ [GIns.mk 19 2])++ [GIns.mk 6 s.Num])++ [GIns.mk 38 n])++ [GIns.mk 5 s.Num])++ [GIns.mk 25 (n+1)])++ [GIns.mk 37 0])++ [GIns.mk 5 s.Num])++ [GIns.mk 19 3])++ [GIns.mk 6 (s.Num+1)])++q1) q2 5 (s.Num+1) (by simp <;> omega)) (by simp [wb]) rfl (by simp) rfl (by kernel_rfl) (by simp [wb]) (by simp [wb]) (by simp [wb]) (by simp [wb]) (by simp [wb]) ?_
 simp [-cB,wb,a1,hnum]
 refine AOps.weaken (Wk.freeze 67 (ys:=encI [s.Num]) rfl) ?_
 simp [-cB]
 refine AOps.effD [5001,5002] rfl (lay1_ok b (((((((((((((l++ [GIns.mk 37 0])++p1)++ [GIns.mk 19 2])++ [GIns.mk 6 s.Num])++ [GIns.mk 38 n])++ [GIns.mk 5 s.Num])++ [GIns.mk 25 (n+1)])++ [GIns.mk 37 0])++ [GIns.mk 5 s.Num])++ [GIns.mk 19 3])++ [GIns.mk 6 (s.Num+1)])++q1)++ [GIns.mk 5 (s.Num+1)]) q2 6 s.Num (by simp <;> omega)) (by simp [wb]) rfl (by simp) rfl (by kernel_rfl) (by simp [wb]) (by simp [wb]) (by simp [wb]) (by simp [wb]) (by simp [wb]) ?_
 simp [-cB,wb,a1,hnum]
 refine AOps.weaken (Wk.freeze 71 (ys:=encI [n]) rfl) ?_
 simp [-cB]
 refine AOps.effD [5001,5002] rfl (lay1_ok b ((((((((((((((l++ [GIns.mk 37 0])++p1)++ [GIns.mk 19 2])++ [GIns.mk 6 s.Num])++ [GIns.mk 38 n])++ [GIns.mk 5 s.Num])++ [GIns.mk 25 (n+1)])++ [GIns.mk 37 0])++ [GIns.mk 5 s.Num])++ [GIns.mk 19 3])++ [GIns.mk 6 (s.Num+1)])++q1)++ [GIns.mk 5 (s.Num+1)])++ [GIns.mk 6 s.Num]) q2 24 n (by simp <;> omega)) (by simp [wb]) rfl (by simp) rfl (by kernel_rfl) (by simp [wb]) (by simp [wb]) (by simp [wb]) (by simp [wb]) (by simp [wb]) ?_
 simp [-cB,wb,a1,hnum]
 refine AOps.weaken (Wk.freeze 75 (ys:=encI [(n+1)]) rfl) ?_
 simp [-cB]
 refine AOps.effD [5001,5002] rfl (lay1_ok b (((((((((((((((l++ [GIns.mk 37 0])++p1)++ [GIns.mk 19 2])++ [GIns.mk 6 s.Num])++ [GIns.mk 38 n])++ [GIns.mk 5 s.Num])++ [GIns.mk 25 (n+1)])++ [GIns.mk 37 0])++ [GIns.mk 5 s.Num])++ [GIns.mk 19 3])++ [GIns.mk 6 (s.Num+1)])++q1)++ [GIns.mk 5 (s.Num+1)])++ [GIns.mk 6 s.Num])++ [GIns.mk 24 n]) q2 38 (n+1) (by simp <;> omega)) (by simp [wb]) rfl (by simp) rfl (by kernel_rfl) (by simp [wb]) (by simp [wb]) (by simp [wb]) (by simp [wb]) (by simp [wb]) ?_
 simp [wb,tick]
def bareN(k:Int):Int:=if k=7 then 17 else if k=8 then 18 else if k=12 then 27 else if k=13 then 28 else if k=14 then 29 else if k=15 then 30 else if k=16 then 31 else if k=20 then 34 else if k=21 then 35 else 36
theorem bareN_ok(k:Int):Pure prog 190 [iD k] (iD (bareN k)):=by
 refine rn func190 ?_;simp [-cB,f190]
 repeat' (first
  | (with_reducible refine And.intro ?_ ?_)
  | (refine condC_split (fun h=>?_) (fun h=>?_) <;> (try simp at h) <;> (try simp [-cB, *]))
  | (with_reducible intro _))
 all_goals simp [bareN, *]
theorem wPlain_of(s:GStmt) (hA:WEs s.Args) (h1:s.Kind≠9) (h2:s.Kind≠10) (h3:s.Kind≠11) (h4:s.Kind≠1) (hk:s.Kind=2∨s.Kind=3∨s.Kind=23∨s.Kind=4∨s.Kind=5∨s.Kind=6∨s.Kind=17∨s.Kind=18∨s.Kind=19∨s.Kind=7∨s.Kind=8∨s.Kind=12∨s.Kind=13∨s.Kind=14∨s.Kind=15∨s.Kind=16∨s.Kind=20∨s.Kind=21∨s.Kind=22):WSt 150 s:=by
 intro b l n hn
 rw [genS_plain s n h1 h2 h3 h4]
 have hz:=szS_eq s
 have b1:=genEs_bd' s.Args n
 have wA:=fun b l h=>hA b l n h
 generalize genEs s.Args n=p at *
 obtain⟨p1,p2⟩:=p
 simp only at b1 wA ⊢
 unfold WCalls wb at *
 rcases hk with hk | hk | hk | hk | hk | hk | hk | hk | hk | hk | hk | hk | hk | hk | hk | hk | hk | hk | hk
 ·refine ACalls.runP [5001,5002] (by simp) func150 rfl (by simp [f150]) ?_;simp [-cB,f150,hk]
  intro bs
  refine AOps.effD [5001,5002] rfl (lay0_ok b l n 37 (by omega)) (by simp [wb]) rfl (by simp) rfl (by kernel_rfl) (by simp [wb]) (by simp [wb]) (by simp [wb]) (by simp [wb]) (by simp [wb]) ?_
  simp [-cB,wb,hk]
  refine AOps.effD [5001,5002] rfl (wA b (l++ [GIns.mk 37 0]) ⟨by omega,by omega,by simp <;> omega⟩) (by simp [wb]) rfl (by simp) rfl (by kernel_rfl) (by simp [wb]) (by simp [wb]) (by simp [wb]) (by simp [wb]) (by simp [wb]) ?_
  simp [-cB,wb,hk]
  refine AOps.weaken (Wk.freeze 23 (ys:=encI [s.Num]) rfl) ?_
  simp [-cB]
  refine AOps.effD [5001,5002] rfl (lay1_ok b ((l++ [GIns.mk 37 0])++p1) p2 6 s.Num (by simp <;> omega)) (by simp [wb]) rfl (by simp) rfl (by kernel_rfl) (by simp [wb]) (by simp [wb]) (by simp [wb]) (by simp [wb]) (by simp [wb]) ?_
  simp [wb,tick,hk,deedM]
 ·refine ACalls.runP [5001,5002] (by simp) func150 rfl (by simp [f150]) ?_;simp [-cB,f150,hk]
  intro bs
  refine AOps.effD [5001,5002] rfl (lay0_ok b l n 37 (by omega)) (by simp [wb]) rfl (by simp) rfl (by kernel_rfl) (by simp [wb]) (by simp [wb]) (by simp [wb]) (by simp [wb]) (by simp [wb]) ?_
  simp [-cB,wb,hk]
  refine AOps.effD [5001,5002] rfl (wA b (l++ [GIns.mk 37 0]) ⟨by omega,by omega,by simp <;> omega⟩) (by simp [wb]) rfl (by simp) rfl (by kernel_rfl) (by simp [wb]) (by simp [wb]) (by simp [wb]) (by simp [wb]) (by simp [wb]) ?_
  simp [-cB,wb,hk]
  refine AOps.weaken (Wk.freeze 23 (ys:=encI [s.Num]) rfl) ?_
  simp [-cB]
  refine AOps.effD [5001,5002] rfl (lay1_ok b ((l++ [GIns.mk 37 0])++p1) p2 6 s.Num (by simp <;> omega)) (by simp [wb]) rfl (by simp) rfl (by kernel_rfl) (by simp [wb]) (by simp [wb]) (by simp [wb]) (by simp [wb]) (by simp [wb]) ?_
  simp [wb,tick,hk,deedM]
 ·refine ACalls.runP [5001,5002] (by simp) func150 rfl (by simp [f150]) ?_;simp [-cB,f150,hk]
  intro bs
  refine AOps.effD [5001,5002] rfl (lay0_ok b l n 37 (by omega)) (by simp [wb]) rfl (by simp) rfl (by kernel_rfl) (by simp [wb]) (by simp [wb]) (by simp [wb]) (by simp [wb]) (by simp [wb]) ?_
  simp [-cB,wb,hk]
  refine AOps.effD [5001,5002] rfl (wA b (l++ [GIns.mk 37 0]) ⟨by omega,by omega,by simp <;> omega⟩) (by simp [wb]) rfl (by simp) rfl (by kernel_rfl) (by simp [wb]) (by simp [wb]) (by simp [wb]) (by simp [wb]) (by simp [wb]) ?_
  simp [-cB,wb,hk]
  refine AOps.weaken (Wk.freeze 30 (ys:=encI [s.Num]) rfl) ?_
  simp [-cB]
  refine AOps.effD [5001,5002] rfl (lay1_ok b ((l++ [GIns.mk 37 0])++p1) p2 4 s.Num (by simp <;> omega)) (by simp [wb]) rfl (by simp) rfl (by kernel_rfl) (by simp [wb]) (by simp [wb]) (by simp [wb]) (by simp [wb]) (by simp [wb]) ?_
  simp [wb,tick,hk,deedM]
 ·refine ACalls.runP [5001,5002] (by simp) func150 rfl (by simp [f150]) ?_;simp [-cB,f150,hk]
  intro bs
  refine AOps.effD [5001,5002] rfl (lay0_ok b l n 37 (by omega)) (by simp [wb]) rfl (by simp) rfl (by kernel_rfl) (by simp [wb]) (by simp [wb]) (by simp [wb]) (by simp [wb]) (by simp [wb]) ?_
  simp [-cB,wb,hk]
  refine AOps.effD [5001,5002] rfl (wA b (l++ [GIns.mk 37 0]) ⟨by omega,by omega,by simp <;> omega⟩) (by simp [wb]) rfl (by simp) rfl (by kernel_rfl) (by simp [wb]) (by simp [wb]) (by simp [wb]) (by simp [wb]) (by simp [wb]) ?_
  simp [-cB,wb,hk]
  refine AOps.weaken (Wk.freeze 37 (ys:=encI [s.Num]) rfl) ?_
  simp [-cB]
  refine AOps.effD [5001,5002] rfl (lay1_ok b ((l++ [GIns.mk 37 0])++p1) p2 14 s.Num (by simp <;> omega)) (by simp [wb]) rfl (by simp) rfl (by kernel_rfl) (by simp [wb]) (by simp [wb]) (by simp [wb]) (by simp [wb]) (by simp [wb]) ?_
  simp [wb,tick,hk,deedM]
 ·refine ACalls.runP [5001,5002] (by simp) func150 rfl (by simp [f150]) ?_;simp [-cB,f150,hk]
  intro bs
  refine AOps.effD [5001,5002] rfl (lay0_ok b l n 37 (by omega)) (by simp [wb]) rfl (by simp) rfl (by kernel_rfl) (by simp [wb]) (by simp [wb]) (by simp [wb]) (by simp [wb]) (by simp [wb]) ?_
  simp [-cB,wb,hk]
  refine AOps.effD [5001,5002] rfl (wA b (l++ [GIns.mk 37 0]) ⟨by omega,by omega,by simp <;> omega⟩) (by simp [wb]) rfl (by simp) rfl (by kernel_rfl) (by simp [wb]) (by simp [wb]) (by simp [wb]) (by simp [wb]) (by simp [wb]) ?_
  simp [-cB,wb,hk]
  refine AOps.weaken (Wk.freeze 44 (ys:=encI [s.Num]) rfl) ?_
  simp [-cB]
  refine AOps.effD [5001,5002] rfl (lay1_ok b ((l++ [GIns.mk 37 0])++p1) p2 15 s.Num (by simp <;> omega)) (by simp [wb]) rfl (by simp) rfl (by kernel_rfl) (by simp [wb]) (by simp [wb]) (by simp [wb]) (by simp [wb]) (by simp [wb]) ?_
  simp [wb,tick,hk,deedM]
 ·refine ACalls.runP [5001,5002] (by simp) func150 rfl (by simp [f150]) ?_;simp [-cB,f150,hk]
  intro bs
  refine AOps.effD [5001,5002] rfl (lay0_ok b l n 37 (by omega)) (by simp [wb]) rfl (by simp) rfl (by kernel_rfl) (by simp [wb]) (by simp [wb]) (by simp [wb]) (by simp [wb]) (by simp [wb]) ?_
  simp [-cB,wb,hk]
  refine AOps.effD [5001,5002] rfl (wA b (l++ [GIns.mk 37 0]) ⟨by omega,by omega,by simp <;> omega⟩) (by simp [wb]) rfl (by simp) rfl (by kernel_rfl) (by simp [wb]) (by simp [wb]) (by simp [wb]) (by simp [wb]) (by simp [wb]) ?_
  simp [-cB,wb,hk]
  refine AOps.weaken (Wk.freeze 51 (ys:=encI [s.Num]) rfl) ?_
  simp [-cB]
  refine AOps.effD [5001,5002] rfl (lay1_ok b ((l++ [GIns.mk 37 0])++p1) p2 16 s.Num (by simp <;> omega)) (by simp [wb]) rfl (by simp) rfl (by kernel_rfl) (by simp [wb]) (by simp [wb]) (by simp [wb]) (by simp [wb]) (by simp [wb]) ?_
  simp [wb,tick,hk,deedM]
 ·refine ACalls.runP [5001,5002] (by simp) func150 rfl (by simp [f150]) ?_;simp [-cB,f150,hk]
  intro bs
  refine AOps.effD [5001,5002] rfl (lay0_ok b l n 37 (by omega)) (by simp [wb]) rfl (by simp) rfl (by kernel_rfl) (by simp [wb]) (by simp [wb]) (by simp [wb]) (by simp [wb]) (by simp [wb]) ?_
  simp [-cB,wb,hk]
  refine AOps.effD [5001,5002] rfl (wA b (l++ [GIns.mk 37 0]) ⟨by omega,by omega,by simp <;> omega⟩) (by simp [wb]) rfl (by simp) rfl (by kernel_rfl) (by simp [wb]) (by simp [wb]) (by simp [wb]) (by simp [wb]) (by simp [wb]) ?_
  simp [-cB,wb,hk]
  refine AOps.weaken (Wk.freeze 58 (ys:=encI [s.Num]) rfl) ?_
  simp [-cB]
  refine AOps.effD [5001,5002] rfl (lay1_ok b ((l++ [GIns.mk 37 0])++p1) p2 32 s.Num (by simp <;> omega)) (by simp [wb]) rfl (by simp) rfl (by kernel_rfl) (by simp [wb]) (by simp [wb]) (by simp [wb]) (by simp [wb]) (by simp [wb]) ?_
  simp [wb,tick,hk,deedM]
 ·refine ACalls.runP [5001,5002] (by simp) func150 rfl (by simp [f150]) ?_;simp [-cB,f150,hk]
  intro bs
  refine AOps.effD [5001,5002] rfl (lay0_ok b l n 37 (by omega)) (by simp [wb]) rfl (by simp) rfl (by kernel_rfl) (by simp [wb]) (by simp [wb]) (by simp [wb]) (by simp [wb]) (by simp [wb]) ?_
  simp [-cB,wb,hk]
  refine AOps.effD [5001,5002] rfl (wA b (l++ [GIns.mk 37 0]) ⟨by omega,by omega,by simp <;> omega⟩) (by simp [wb]) rfl (by simp) rfl (by kernel_rfl) (by simp [wb]) (by simp [wb]) (by simp [wb]) (by simp [wb]) (by simp [wb]) ?_
  simp [-cB,wb,hk]
  refine AOps.weaken (Wk.freeze 65 (ys:=encI [s.Num]) rfl) ?_
  simp [-cB]
  refine AOps.effD [5001,5002] rfl (lay1_ok b ((l++ [GIns.mk 37 0])++p1) p2 33 s.Num (by simp <;> omega)) (by simp [wb]) rfl (by simp) rfl (by kernel_rfl) (by simp [wb]) (by simp [wb]) (by simp [wb]) (by simp [wb]) (by simp [wb]) ?_
  simp [wb,tick,hk,deedM]
 ·refine ACalls.runP [5001,5002] (by simp) func150 rfl (by simp [f150]) ?_;simp [-cB,f150,hk]
  intro bs
  refine AOps.effD [5001,5002] rfl (lay0_ok b l n 37 (by omega)) (by simp [wb]) rfl (by simp) rfl (by kernel_rfl) (by simp [wb]) (by simp [wb]) (by simp [wb]) (by simp [wb]) (by simp [wb]) ?_
  simp [-cB,wb,hk]
  refine AOps.effD [5001,5002] rfl (wA b (l++ [GIns.mk 37 0]) ⟨by omega,by omega,by simp <;> omega⟩) (by simp [wb]) rfl (by simp) rfl (by kernel_rfl) (by simp [wb]) (by simp [wb]) (by simp [wb]) (by simp [wb]) (by simp [wb]) ?_
  simp [-cB,wb,hk]
  refine AOps.effD [5001,5002] rfl (lay0_ok b ((l++ [GIns.mk 37 0])++p1) p2 2 (by simp <;> omega)) (by simp [wb]) rfl (by simp) rfl (by kernel_rfl) (by simp [wb]) (by simp [wb]) (by simp [wb]) (by simp [wb]) (by simp [wb]) ?_
  simp [wb,tick,hk,deedM]
 ·refine ACalls.runP [5001,5002] (by simp) func150 rfl (by simp [f150]) ?_;simp [-cB,f150,hk]
  intro bs
  refine AOps.effD [5001,5002] rfl (lay0_ok b l n 37 (by omega)) (by simp [wb]) rfl (by simp) rfl (by kernel_rfl) (by simp [wb]) (by simp [wb]) (by simp [wb]) (by simp [wb]) (by simp [wb]) ?_
  simp [-cB,wb,hk]
  refine AOps.effD [5001,5002] rfl (wA b (l++ [GIns.mk 37 0]) ⟨by omega,by omega,by simp <;> omega⟩) (by simp [wb]) rfl (by simp) rfl (by kernel_rfl) (by simp [wb]) (by simp [wb]) (by simp [wb]) (by simp [wb]) (by simp [wb]) ?_
  simp [-cB,wb,hk]
  have hbare:=bareN_ok 7
  rw [show bareN 7=17 by simp [bareN]]at hbare
  refine pC hbare ?_
  simp [-cB,wb,hk]
  refine AOps.effD [5001,5002] rfl (lay0_ok b ((l++ [GIns.mk 37 0])++p1) p2 17 (by simp <;> omega)) (by simp [wb]) rfl (by simp) rfl (by kernel_rfl) (by simp [wb]) (by simp [wb]) (by simp [wb]) (by simp [wb]) (by simp [wb]) ?_
  simp [wb,tick,hk,deedM]
 ·refine ACalls.runP [5001,5002] (by simp) func150 rfl (by simp [f150]) ?_;simp [-cB,f150,hk]
  intro bs
  refine AOps.effD [5001,5002] rfl (lay0_ok b l n 37 (by omega)) (by simp [wb]) rfl (by simp) rfl (by kernel_rfl) (by simp [wb]) (by simp [wb]) (by simp [wb]) (by simp [wb]) (by simp [wb]) ?_
  simp [-cB,wb,hk]
  refine AOps.effD [5001,5002] rfl (wA b (l++ [GIns.mk 37 0]) ⟨by omega,by omega,by simp <;> omega⟩) (by simp [wb]) rfl (by simp) rfl (by kernel_rfl) (by simp [wb]) (by simp [wb]) (by simp [wb]) (by simp [wb]) (by simp [wb]) ?_
  simp [-cB,wb,hk]
  have hbare:=bareN_ok 8
  rw [show bareN 8=18 by simp [bareN]]at hbare
  refine pC hbare ?_
  simp [-cB,wb,hk]
  refine AOps.effD [5001,5002] rfl (lay0_ok b ((l++ [GIns.mk 37 0])++p1) p2 18 (by simp <;> omega)) (by simp [wb]) rfl (by simp) rfl (by kernel_rfl) (by simp [wb]) (by simp [wb]) (by simp [wb]) (by simp [wb]) (by simp [wb]) ?_
  simp [wb,tick,hk,deedM]
 ·refine ACalls.runP [5001,5002] (by simp) func150 rfl (by simp [f150]) ?_;simp [-cB,f150,hk]
  intro bs
  refine AOps.effD [5001,5002] rfl (lay0_ok b l n 37 (by omega)) (by simp [wb]) rfl (by simp) rfl (by kernel_rfl) (by simp [wb]) (by simp [wb]) (by simp [wb]) (by simp [wb]) (by simp [wb]) ?_
  simp [-cB,wb,hk]
  refine AOps.effD [5001,5002] rfl (wA b (l++ [GIns.mk 37 0]) ⟨by omega,by omega,by simp <;> omega⟩) (by simp [wb]) rfl (by simp) rfl (by kernel_rfl) (by simp [wb]) (by simp [wb]) (by simp [wb]) (by simp [wb]) (by simp [wb]) ?_
  simp [-cB,wb,hk]
  have hbare:=bareN_ok 12
  rw [show bareN 12=27 by simp [bareN]]at hbare
  refine pC hbare ?_
  simp [-cB,wb,hk]
  refine AOps.effD [5001,5002] rfl (lay0_ok b ((l++ [GIns.mk 37 0])++p1) p2 27 (by simp <;> omega)) (by simp [wb]) rfl (by simp) rfl (by kernel_rfl) (by simp [wb]) (by simp [wb]) (by simp [wb]) (by simp [wb]) (by simp [wb]) ?_
  simp [wb,tick,hk,deedM]
 ·refine ACalls.runP [5001,5002] (by simp) func150 rfl (by simp [f150]) ?_;simp [-cB,f150,hk]
  intro bs
  refine AOps.effD [5001,5002] rfl (lay0_ok b l n 37 (by omega)) (by simp [wb]) rfl (by simp) rfl (by kernel_rfl) (by simp [wb]) (by simp [wb]) (by simp [wb]) (by simp [wb]) (by simp [wb]) ?_
  simp [-cB,wb,hk]
  refine AOps.effD [5001,5002] rfl (wA b (l++ [GIns.mk 37 0]) ⟨by omega,by omega,by simp <;> omega⟩) (by simp [wb]) rfl (by simp) rfl (by kernel_rfl) (by simp [wb]) (by simp [wb]) (by simp [wb]) (by simp [wb]) (by simp [wb]) ?_
  simp [-cB,wb,hk]
  have hbare:=bareN_ok 13
  rw [show bareN 13=28 by simp [bareN]]at hbare
  refine pC hbare ?_
  simp [-cB,wb,hk]
  refine AOps.effD [5001,5002] rfl (lay0_ok b ((l++ [GIns.mk 37 0])++p1) p2 28 (by simp <;> omega)) (by simp [wb]) rfl (by simp) rfl (by kernel_rfl) (by simp [wb]) (by simp [wb]) (by simp [wb]) (by simp [wb]) (by simp [wb]) ?_
  simp [wb,tick,hk,deedM]
 ·refine ACalls.runP [5001,5002] (by simp) func150 rfl (by simp [f150]) ?_;simp [-cB,f150,hk]
  intro bs
  refine AOps.effD [5001,5002] rfl (lay0_ok b l n 37 (by omega)) (by simp [wb]) rfl (by simp) rfl (by kernel_rfl) (by simp [wb]) (by simp [wb]) (by simp [wb]) (by simp [wb]) (by simp [wb]) ?_
  simp [-cB,wb,hk]
  refine AOps.effD [5001,5002] rfl (wA b (l++ [GIns.mk 37 0]) ⟨by omega,by omega,by simp <;> omega⟩) (by simp [wb]) rfl (by simp) rfl (by kernel_rfl) (by simp [wb]) (by simp [wb]) (by simp [wb]) (by simp [wb]) (by simp [wb]) ?_
  simp [-cB,wb,hk]
  have hbare:=bareN_ok 14
  rw [show bareN 14=29 by simp [bareN]]at hbare
  refine pC hbare ?_
  simp [-cB,wb,hk]
  refine AOps.effD [5001,5002] rfl (lay0_ok b ((l++ [GIns.mk 37 0])++p1) p2 29 (by simp <;> omega)) (by simp [wb]) rfl (by simp) rfl (by kernel_rfl) (by simp [wb]) (by simp [wb]) (by simp [wb]) (by simp [wb]) (by simp [wb]) ?_
  simp [wb,tick,hk,deedM]
 ·refine ACalls.runP [5001,5002] (by simp) func150 rfl (by simp [f150]) ?_;simp [-cB,f150,hk]
  intro bs
  refine AOps.effD [5001,5002] rfl (lay0_ok b l n 37 (by omega)) (by simp [wb]) rfl (by simp) rfl (by kernel_rfl) (by simp [wb]) (by simp [wb]) (by simp [wb]) (by simp [wb]) (by simp [wb]) ?_
  simp [-cB,wb,hk]
  refine AOps.effD [5001,5002] rfl (wA b (l++ [GIns.mk 37 0]) ⟨by omega,by omega,by simp <;> omega⟩) (by simp [wb]) rfl (by simp) rfl (by kernel_rfl) (by simp [wb]) (by simp [wb]) (by simp [wb]) (by simp [wb]) (by simp [wb]) ?_
  simp [-cB,wb,hk]
  have hbare:=bareN_ok 15
  rw [show bareN 15=30 by simp [bareN]]at hbare
  refine pC hbare ?_
  simp [-cB,wb,hk]
  refine AOps.effD [5001,5002] rfl (lay0_ok b ((l++ [GIns.mk 37 0])++p1) p2 30 (by simp <;> omega)) (by simp [wb]) rfl (by simp) rfl (by kernel_rfl) (by simp [wb]) (by simp [wb]) (by simp [wb]) (by simp [wb]) (by simp [wb]) ?_
  simp [wb,tick,hk,deedM]
 ·refine ACalls.runP [5001,5002] (by simp) func150 rfl (by simp [f150]) ?_;simp [-cB,f150,hk]
  intro bs
  refine AOps.effD [5001,5002] rfl (lay0_ok b l n 37 (by omega)) (by simp [wb]) rfl (by simp) rfl (by kernel_rfl) (by simp [wb]) (by simp [wb]) (by simp [wb]) (by simp [wb]) (by simp [wb]) ?_
  simp [-cB,wb,hk]
  refine AOps.effD [5001,5002] rfl (wA b (l++ [GIns.mk 37 0]) ⟨by omega,by omega,by simp <;> omega⟩) (by simp [wb]) rfl (by simp) rfl (by kernel_rfl) (by simp [wb]) (by simp [wb]) (by simp [wb]) (by simp [wb]) (by simp [wb]) ?_
  simp [-cB,wb,hk]
  have hbare:=bareN_ok 16
  rw [show bareN 16=31 by simp [bareN]]at hbare
  refine pC hbare ?_
  simp [-cB,wb,hk]
  refine AOps.effD [5001,5002] rfl (lay0_ok b ((l++ [GIns.mk 37 0])++p1) p2 31 (by simp <;> omega)) (by simp [wb]) rfl (by simp) rfl (by kernel_rfl) (by simp [wb]) (by simp [wb]) (by simp [wb]) (by simp [wb]) (by simp [wb]) ?_
  simp [wb,tick,hk,deedM]
 ·refine ACalls.runP [5001,5002] (by simp) func150 rfl (by simp [f150]) ?_;simp [-cB,f150,hk]
  intro bs
  refine AOps.effD [5001,5002] rfl (lay0_ok b l n 37 (by omega)) (by simp [wb]) rfl (by simp) rfl (by kernel_rfl) (by simp [wb]) (by simp [wb]) (by simp [wb]) (by simp [wb]) (by simp [wb]) ?_
  simp [-cB,wb,hk]
  refine AOps.effD [5001,5002] rfl (wA b (l++ [GIns.mk 37 0]) ⟨by omega,by omega,by simp <;> omega⟩) (by simp [wb]) rfl (by simp) rfl (by kernel_rfl) (by simp [wb]) (by simp [wb]) (by simp [wb]) (by simp [wb]) (by simp [wb]) ?_
  simp [-cB,wb,hk]
  have hbare:=bareN_ok 20
  rw [show bareN 20=34 by simp [bareN]]at hbare
  refine pC hbare ?_
  simp [-cB,wb,hk]
  refine AOps.effD [5001,5002] rfl (lay0_ok b ((l++ [GIns.mk 37 0])++p1) p2 34 (by simp <;> omega)) (by simp [wb]) rfl (by simp) rfl (by kernel_rfl) (by simp [wb]) (by simp [wb]) (by simp [wb]) (by simp [wb]) (by simp [wb]) ?_
  simp [wb,tick,hk,deedM]
 ·refine ACalls.runP [5001,5002] (by simp) func150 rfl (by simp [f150]) ?_;simp [-cB,f150,hk]
  intro bs
  refine AOps.effD [5001,5002] rfl (lay0_ok b l n 37 (by omega)) (by simp [wb]) rfl (by simp) rfl (by kernel_rfl) (by simp [wb]) (by simp [wb]) (by simp [wb]) (by simp [wb]) (by simp [wb]) ?_
  simp [-cB,wb,hk]
  refine AOps.effD [5001,5002] rfl (wA b (l++ [GIns.mk 37 0]) ⟨by omega,by omega,by simp <;> omega⟩) (by simp [wb]) rfl (by simp) rfl (by kernel_rfl) (by simp [wb]) (by simp [wb]) (by simp [wb]) (by simp [wb]) (by simp [wb]) ?_
  simp [-cB,wb,hk]
  have hbare:=bareN_ok 21
  rw [show bareN 21=35 by simp [bareN]]at hbare
  refine pC hbare ?_
  simp [-cB,wb,hk]
  refine AOps.effD [5001,5002] rfl (lay0_ok b ((l++ [GIns.mk 37 0])++p1) p2 35 (by simp <;> omega)) (by simp [wb]) rfl (by simp) rfl (by kernel_rfl) (by simp [wb]) (by simp [wb]) (by simp [wb]) (by simp [wb]) (by simp [wb]) ?_
  simp [wb,tick,hk,deedM]
 ·refine ACalls.runP [5001,5002] (by simp) func150 rfl (by simp [f150]) ?_;simp [-cB,f150,hk]
  intro bs
  refine AOps.effD [5001,5002] rfl (lay0_ok b l n 37 (by omega)) (by simp [wb]) rfl (by simp) rfl (by kernel_rfl) (by simp [wb]) (by simp [wb]) (by simp [wb]) (by simp [wb]) (by simp [wb]) ?_
  simp [-cB,wb,hk]
  refine AOps.effD [5001,5002] rfl (wA b (l++ [GIns.mk 37 0]) ⟨by omega,by omega,by simp <;> omega⟩) (by simp [wb]) rfl (by simp) rfl (by kernel_rfl) (by simp [wb]) (by simp [wb]) (by simp [wb]) (by simp [wb]) (by simp [wb]) ?_
  simp [-cB,wb,hk]
  have hbare:=bareN_ok 22
  rw [show bareN 22=36 by simp [bareN]]at hbare
  refine pC hbare ?_
  simp [-cB,wb,hk]
  refine AOps.effD [5001,5002] rfl (lay0_ok b ((l++ [GIns.mk 37 0])++p1) p2 36 (by simp <;> omega)) (by simp [wb]) rfl (by simp) rfl (by kernel_rfl) (by simp [wb]) (by simp [wb]) (by simp [wb]) (by simp [wb]) (by simp [wb]) ?_
  simp [wb,tick,hk,deedM]
theorem wSay_of(s:GStmt) (hk:s.Kind=1) (hlen:s.Args.length≤1000000000000000) (hX:∀x∈s.Args,x.Kind≠19→(if x.Kind=13 then WEs x.Args else WExpr x)):WSt 154 s:=by
 intro b l n hn
 rw [genS_say s n hk]
 have hz:=szS_eq s
 unfold WCalls wb
 refine ACalls.runP [5001,5002] (by simp) func154 rfl (by simp [f154]) ?_;simp [-cB,f154]
 intro bs
 refine AOps.effD [5001,5002] rfl (lay0_ok b l n 37 (by omega)) (by simp [wb]) rfl (by simp) rfl (by kernel_rfl) (by simp [wb]) (by simp [wb]) (by simp [wb]) (by simp [wb]) (by simp [wb]) ?_
 simp [-cB,wb]
 refine AWP.loopL [0,9,10,11] s.Args (fun pre=> [(11,iD pre.length)]) (fun pre=> [(5001,.box (b+1) 103 [.rv 5002,iD (genSay pre n).2]),(5002,.row 93 2 (dd ((l++ [GIns.mk 37 0]++(genSay pre n).1).map GIns.enc)))]) (fun _=>True) (by rfl) (by omega) (by simp [genSay]) ?_ ?_
 ·rintro pre x post hsp-hlt hge a4
  have hx:=hX x (by rw [hsp];simp)
  have hsn:=genSay_snoc pre x n
  have hsz:szEs pre+szE x≤szEs s.Args:=by rw [hsp,szEs_app];simp only [szEs];omega
  have b1:=genSay_bd pre n
  have b2:=sayI_bd x (genSay pre n).2
  have hzx:=szE_eq x
  clear hsp hX
  generalize genSay pre n=k at *
  obtain⟨k1,k2⟩:=k
  simp only at hsn b1 b2 ⊢
  by_cases h19:x.Kind=19
  ·have hI:sayI x k2=([⟨21,x.Num⟩],k2):=by simp [sayI,h19]
   rw [hI]at hsn
   simp [-cB,hlt,hge,h19]
   intro bs2
   refine AOps.weaken (Wk.freeze 27 (ys:=encI [x.Num]) rfl) ?_
   simp [-cB]
   refine AOps.effD [5001,5002] rfl (lay1_ok b (l++ [GIns.mk 37 0]++k1) k2 21 x.Num (by simp <;> omega)) (by simp [wb]) rfl (by simp) rfl (by kernel_rfl) (by simp [wb]) (by simp [wb]) (by simp [wb]) (by simp [wb]) (by simp [wb]) ?_
   simp [wb,hsn,a4]
  ·have hx:=hx h19
   have e19:(x.Kind==19)=false:=by simp [h19]
   by_cases h13:x.Kind=13
   ·rw [if_pos h13]at hx
    have hI:sayI x k2=((genEs x.Args k2).1++ [⟨23,0⟩],(genEs x.Args k2).2):=by simp [sayI,h13]
    have hC:=hx b (l++ [GIns.mk 37 0]++k1) k2 ⟨by omega,by omega,by simp <;> omega⟩
    rw [hI]at hsn
    have b3:=genEs_bd' x.Args k2
    generalize genEs x.Args k2=q at *
    obtain⟨q1,q2⟩:=q
    simp only at hsn hC b3
    unfold WCalls wb at hC
    simp [-cB,hlt,hge,h13]
    intro bs2
    refine AOps.effD [5001,5002] rfl (hC) (by simp [wb]) rfl (by simp) rfl (by kernel_rfl) (by simp [wb]) (by simp [wb]) (by simp [wb]) (by simp [wb]) (by simp [wb]) ?_
    simp [-cB,wb]
    refine AOps.effD [5001,5002] rfl (lay0_ok b (l++ [GIns.mk 37 0]++k1++q1) q2 23 (by simp <;> omega)) (by simp [wb]) rfl (by simp) rfl (by kernel_rfl) (by simp [wb]) (by simp [wb]) (by simp [wb]) (by simp [wb]) (by simp [wb]) ?_
    simp [wb,hsn,a4]
   ·rw [if_neg h13]at hx
    have e13:(x.Kind==13)=false:=by simp [h13]
    have hI:sayI x k2=((genE x k2).1++ [⟨22,0⟩],(genE x k2).2):=by simp [sayI,h13,h19]
    have hC:=hx b (l++ [GIns.mk 37 0]++k1) k2 ⟨by omega,by omega,by simp <;> omega⟩
    rw [hI]at hsn
    have b3:=genE_bd x k2
    generalize genE x k2=q at *
    obtain⟨q1,q2⟩:=q
    simp only at hsn hC b3
    unfold WCalls wb at hC
    simp [-cB,hlt,hge,e19,e13]
    intro bs2
    refine AOps.effD [5001,5002] rfl (hC) (by simp [wb]) rfl (by simp) rfl (by kernel_rfl) (by simp [wb]) (by simp [wb]) (by simp [wb]) (by simp [wb]) (by simp [wb]) ?_
    simp [-cB,wb]
    refine AOps.effD [5001,5002] rfl (lay0_ok b (l++ [GIns.mk 37 0]++k1++q1) q2 22 (by simp <;> omega)) (by simp [wb]) rfl (by simp) rfl (by kernel_rfl) (by simp [wb]) (by simp [wb]) (by simp [wb]) (by simp [wb]) (by simp [wb]) ?_
    simp [wb,hsn,a4]
 ·intro _
  simp [tick]
end Go.Ab
namespace Go.Ab
open Go.Proofs Go.Proofs.Tryz
set_option maxRecDepth 40000
set_option maxHeartbeats 4000000
theorem WSt.stmt {s:GStmt} (h9:s.Kind=9→WSt 151 s) (h10:s.Kind=10→WSt 152 s) (h11:s.Kind=11→WSt 153 s) (h1:s.Kind=1→WSt 154 s)
  (hp:s.Kind≠9→s.Kind≠10→s.Kind≠11→s.Kind≠1→WSt 150 s):WSt 93 s:=by
 intro b l n hn
 by_cases k9:s.Kind=9
 ·have hC:=h9 k9 b l n hn
  unfold WCalls wb at *
  refine ACalls.runP [5001,5002] (by simp) func93 rfl (by simp [f93]) ?_;simp [-cB,f93,k9]
  intro bs
  refine AOps.effD [5001,5002] rfl (hC) (by simp [wb]) rfl (by simp) rfl (by kernel_rfl) (by simp [wb]) (by simp [wb]) (by simp [wb]) (by simp [wb]) (by simp [wb]) ?_
  simp [wb]
 have e9:(s.Kind==9)=false:=by simp [k9]
 by_cases k10:s.Kind=10
 ·have hC:=h10 k10 b l n hn
  unfold WCalls wb at *
  refine ACalls.runP [5001,5002] (by simp) func93 rfl (by simp [f93]) ?_;simp [-cB,f93,k10]
  intro bs
  refine AOps.effD [5001,5002] rfl (hC) (by simp [wb]) rfl (by simp) rfl (by kernel_rfl) (by simp [wb]) (by simp [wb]) (by simp [wb]) (by simp [wb]) (by simp [wb]) ?_
  simp [wb]
 have e10:(s.Kind==10)=false:=by simp [k10]
 by_cases k11:s.Kind=11
 ·have hC:=h11 k11 b l n hn
  unfold WCalls wb at *
  refine ACalls.runP [5001,5002] (by simp) func93 rfl (by simp [f93]) ?_;simp [-cB,f93,k11]
  intro bs
  refine AOps.effD [5001,5002] rfl (hC) (by simp [wb]) rfl (by simp) rfl (by kernel_rfl) (by simp [wb]) (by simp [wb]) (by simp [wb]) (by simp [wb]) (by simp [wb]) ?_
  simp [wb]
 have e11:(s.Kind==11)=false:=by simp [k11]
 by_cases k1:s.Kind=1
 ·have hC:=h1 k1 b l n hn
  unfold WCalls wb at *
  refine ACalls.runP [5001,5002] (by simp) func93 rfl (by simp [f93]) ?_;simp [-cB,f93,k1]
  intro bs
  refine AOps.effD [5001,5002] rfl (hC) (by simp [wb]) rfl (by simp) rfl (by kernel_rfl) (by simp [wb]) (by simp [wb]) (by simp [wb]) (by simp [wb]) (by simp [wb]) ?_
  simp [wb]
 have e1:(s.Kind==1)=false:=by simp [k1]
 have hC:=hp k9 k10 k11 k1 b l n hn
 unfold WCalls wb at *
 refine ACalls.runP [5001,5002] (by simp) func93 rfl (by simp [f93]) ?_;simp [-cB,f93,e9,e10,e11,e1]
 intro bs
 refine AOps.effD [5001,5002] rfl (hC) (by simp [wb]) rfl (by simp) rfl (by kernel_rfl) (by simp [wb]) (by simp [wb]) (by simp [wb]) (by simp [wb]) (by simp [wb]) ?_
 simp [wb]
theorem wBlock_of(ss:List GStmt) (hlen:ss.length≤1000000000000000) (ih:∀s∈ss,WSt 93 s):WBlock ss:=by
 intro b l n hn
 unfold WCalls wb
 refine ACalls.runP [5001,5002] (by simp) func58 rfl (by simp [f58]) ?_;simp [f58]
 refine AWP.loopL [0,6,7,8] ss (fun pre=> [(8,iD pre.length)]) (fun pre=> [(5001,.box (b+1) 103 [.rv 5002,iD (genB pre n).2]),(5002,.row 93 2 (dd ((l++(genB pre n).1).map GIns.enc)))]) (fun _=>True) (by rfl) (by omega) (by simp [genB]) ?_ ?_
 ·rintro pre s post hsp-hlt hge a4
  have hS:=ih s (by rw [hsp];simp)
  have hsn:=genB_snoc pre s n
  have hsz:szB pre+szS s≤szB ss:=by rw [hsp,szB_app];simp only [szB];omega
  have b1:=genB_bd' pre n
  clear hsp ih
  generalize genB pre n=k at *
  obtain⟨k1,k2⟩:=k
  simp only at hsn b1 ⊢
  have hC:=hS b (l++k1) k2 ⟨by omega,by omega,by rw [List.length_append];omega⟩
  have b2:=genS_bd s k2
  generalize genS s k2=q at *
  obtain⟨q1,q2⟩:=q
  simp only at hsn hC b2
  simp [hlt,hge]
  intro bs
  refine AOps.effD [5001,5002] rfl (hC) (by simp [wb]) rfl (by simp) rfl (by kernel_rfl) (by simp [wb]) (by simp [wb]) (by simp [wb]) (by simp [wb]) (by simp [wb]) ?_
  simp [hsn,a4,wb]
 ·intro _
  simp
theorem shape_kind {s:GStmt} (h:(shapeM s).1=true):s.Kind=1∨s.Kind=9∨s.Kind=10∨s.Kind=11∨s.Kind=2∨s.Kind=3∨s.Kind=23∨s.Kind=4∨s.Kind=5∨s.Kind=6∨s.Kind=17∨s.Kind=18∨s.Kind=19∨s.Kind=7∨s.Kind=8∨s.Kind=12∨s.Kind=13∨s.Kind=14∨s.Kind=15∨s.Kind=16∨s.Kind=20∨s.Kind=21∨s.Kind=22:=by
 refine Decidable.byContradiction fun hn=>?_
 simp only [not_or]at hn
 obtain⟨n1,n9,n10,n11,n2,n3,n23,n4,n5,n6,n17,n18,n19,n7,n8,n12,n13,n14,n15,n16,n20,n21,n22⟩:=hn
 simp [shapeM,n1,n9,n10,n11,n2,n3,n23,n4,n5,n6,n17,n18,n19,n7,n8,n12,n13,n14,n15,n16,n20,n21,n22]at h
theorem each_num {t:GTables} {locals:Int} (hlo:inR .i64 locals) {s:GStmt} (p2:thereM t s locals=true) (k11:s.Kind=11):inR .i64 (s.Num+1):=by
 have hnm:s.Name.toList=[]∧s.Num < locals-1:=by
  unfold thereM at p2
  cases h:s.Name.toList with
  | nil=>simp [h,k11]at p2;exact⟨rfl,by omega⟩
  | cons a l=>simp [h]at p2
 have h0:0≤s.Num:=by simp [thereM,hnm.1,k11]at p2;omega
 rw [inR_i64]at hlo ⊢
 omega
theorem wStmt_ok(t:GTables) (locals:Int) (hlo:inR .i64 locals) (s:GStmt) (hw:s.wf) (hb:boundS t locals s=true):WSt 93 s:=by
 obtain⟨N,hN⟩:∃N,SizeOf.sizeOf s < N:=⟨_,Nat.lt_succ_self _⟩
 induction N generalizing s with
 | zero=>omega
 | succ N ih=>
   obtain⟨p1,p2,p3,p4,p5⟩:=boundS_parts hb
   have hla:=GStmt.wl_Args hw
   have hlb:=GStmt.wl_Body hw
   have hle:=GStmt.wl_Else hw
   have hB:WBlock s.Body:=wBlock_of s.Body (by omega) (fun x hx=>ih x (GStmt.wf_Body hw x hx) (p4 x hx) (by have:=GStmt.lt_body s;have:=List.sizeOf_lt_of_mem hx;omega))
   have hE:WBlock s.Else:=wBlock_of s.Else (by omega) (fun x hx=>ih x (GStmt.wf_Else hw x hx) (p5 x hx) (by have:=GStmt.lt_else s;have:=List.sizeOf_lt_of_mem hx;omega))
   have hEs:s.Kind≠1→WEs s.Args:=fun k1 b l n hn=>wexprs_of s.Args (by omega) b l n hn (fun x hx=>wexpr_ok t locals x (GStmt.wf_Args hw x hx) (by
    have:=p3 x hx
    rwa [show decide (s.Kind=1)=false by simp [k1]]at this))
   refine WSt.stmt (fun k=>?_) (fun k=>wWhile_of s (hEs (by omega)) hB k) (fun k=>wEach_of s (hEs (by omega)) hB k (each_num hlo p2 k)) (fun k=>?_) (fun h9 h10 h11 h1=>?_)
   ·by_cases he:s.Else=[]
    ·exact wIf0_of s (hEs (by omega)) hB k he
    ·exact wIf1_of s (hEs (by omega)) hB hE k he
   ·refine wSay_of s k (by omega) (fun x hx h19=>?_)
    have hbx:=p3 x hx
    rw [show decide (s.Kind=1)=true by simp [k]]at hbx
    have hwx:=GStmt.wf_Args hw x hx
    split
    ·rename_i h13
     have hlx:=GExpr.wl_Args hwx
     exact fun b l n hn=>wexprs_of x.Args (by omega) b l n hn (fun y hy=>wexpr_ok t locals y (GExpr.wf_Args hwx y hy) (bound_mem hbx hy))
    ·rename_i h13
     exact wexpr_ok t locals x hwx (bound_said hbx h19 h13)
   ·refine wPlain_of s (hEs h1) h9 h10 h11 h1 ?_
    have:=shape_kind p1
    omega
end Go.Ab
namespace Go.Ab
open Go.Proofs Go.Proofs.Tryz
set_option maxRecDepth 40000
set_option maxHeartbeats 4000000
section
variable {t : GTables} {locals : Int} {l : List GStmt}
theorem wBlock_ok(hlo:inR .i64 locals) (hl:∀s∈l,s.wf) (hlen:l.length *104≤140737488351232) (hb:boundB t locals l=true):WBlock l:=by
 unfold boundB at hb
 rw [Bool.and_eq_true,boundSs_all,List.all_eq_true]at hb
 exact wBlock_of l (by omega) (fun s hs=>wStmt_ok t locals hlo s (hl s hs) (hb.1 s hs))
theorem refBlock_ok(hlo:inR .i64 locals) (hl:∀s∈l,s.wf) (hlen:l.length *104≤140737488351232) (hb:boundB t locals l=true):RBlock l:=by
 unfold boundB at hb
 rw [Bool.and_eq_true,boundSs_all,List.all_eq_true]at hb
 exact fun m hm=>refBlock_of l (by omega) (fun s hs=>refStmt_ok t locals hlo s (hl s hs) (hb.1 s hs)) m hm
end
theorem genRoutine_ok(l:List GStmt) (hl:WBlock l) (hn:szB l≤30000000):Pure prog 23 [.d (.sl (l.map GStmt.enc))] (.d (.sl (((genB l 0).1++ [GIns.mk 1 0,GIns.mk 27 0]).map GIns.enc))):=by
 have hc:=fun b=>hl b [] 0 ⟨by omega,by omega,by simp <;> omega⟩
 have bd:=genB_bd' l 0
 generalize genB l 0=q at *
 obtain⟨q1,q2⟩:=q
 simp only [List.nil_append]at hc bd ⊢
 refine rn func23 ?_;simp [f23]
 intro bs
 refine AOps.weaken ((Wk.ren 5 5001 (by simp)).trans (Wk.ownBox 5001 0 5002 (e:=93) (k:=2) rfl rfl (by simp))) ?_
 simp [Heap.upd]
 refine AOps.weaken (Wk.pick [7,6,3,2] [5001,5002] (by rfl) (by simp) (by simp)) ?_
 simp
 refine AOps.effD [5001,5002] rfl (hc (bs 0)) (by simp [wb]) rfl (by simp) rfl (by kernel_rfl) (by simp [wb]) (by simp [wb]) (by simp [wb]) (by simp [wb]) (by simp [wb]) ?_
 simp [wb]
 refine AOps.effD [5001,5002] rfl (lay0_ok (bs 0) q1 q2 1 (by omega)) (by simp [wb]) rfl (by simp) rfl (by kernel_rfl) (by simp [wb]) (by simp [wb]) (by simp [wb]) (by simp [wb]) (by simp [wb]) ?_
 simp [wb]
 refine AOps.effD [5001,5002] rfl (lay0_ok (bs 0) (q1++ [GIns.mk 1 0]) q2 27 (by simp <;> omega)) (by simp [wb]) rfl (by simp) rfl (by kernel_rfl) (by simp [wb]) (by simp [wb]) (by simp [wb]) (by simp [wb]) (by simp [wb]) ?_
 simp [wb]
theorem refBlockTop_ok(l:List GStmt) (hl:RBlock l) (hn:szB l≤30000000):Pure prog 103 [.d (.sl (l.map GStmt.enc))] (.d (.sl ((genB l 0).1.map GIns.enc))):=by
 have hc:=hl 0 ⟨by omega,by omega⟩
 unfold genT at hc
 generalize genB l 0=q at *
 obtain⟨q1,q2⟩:=q
 simp only at hc ⊢
 refine rn func103 ?_;simp [f103]
 refine pC hc ?_
 simp
theorem refRoutineTop_ok(l:List GStmt) (hl:RBlock l) (hn:szB l≤30000000):Pure prog 62 [.d (.sl (l.map GStmt.enc))] (.d (.sl (((genB l 0).1++ [GIns.mk 1 0,GIns.mk 27 0]).map GIns.enc))):=by
 have hc:=refBlockTop_ok l hl hn
 have bd:=genB_bd' l 0
 generalize genB l 0=q at *
 obtain⟨q1,q2⟩:=q
 simp only at hc bd ⊢
 refine rn func62 ?_;simp [f62]
 refine pC hc ?_
 simp
 refine pC (code_ok 1 0) ?_
 simp
 refine pC (code_ok 27 0) ?_
 simp
 refine AOps.weaken (Wk.freeze 7 (ys:=([GIns.mk 1 0,GIns.mk 27 0]).map _) rfl) ?_
 simp
 refine AOps.pureC rfl (join_ok q1 [GIns.mk 1 0,GIns.mk 27 0] (by omega) (by simp)) (by simp) rfl (by simp) rfl ?_
 simp
end Go.Ab
namespace Go.Ab
open Go.Proofs Go.Proofs.Tryz
mutual
def hasKS(k:Int):GStmt→Bool
 | .mk a _ _ _ b c=>decide (a=k) || hasKB k b || hasKB k c
def hasKB(k:Int):List GStmt→Bool
 | []=>false
 | s::l=>hasKS k s || hasKB k l
end
theorem hasKS_eq(k:Int) (s:GStmt):hasKS k s=(decide (s.Kind=k) || hasKB k s.Body || hasKB k s.Else):=by cases s;rw [hasKS];rfl
theorem hasKB_any(k:Int) (l:List GStmt):hasKB k l=l.any (hasKS k):=by
 induction l with
 | nil=>rw [hasKB];rfl
 | cons s l ih=>rw [hasKB,ih];rfl
theorem hasKind_ok(k:Int):∀(n:Nat) (l:List GStmt),SizeOf.sizeOf l < n→(∀s∈l,s.wf)→l.length *104≤140737488351232→Pure prog 46 [.d (.sl (l.map GStmt.enc)),iD k] (oD (hasKB k l)):=by
 intro n
 induction n with
 | zero=>intro l hn;omega
 | succ n ih=>
   intro l hn hl hlen
   have hsub:∀s∈l,Pure prog 46 [.d (.sl (s.Body.map GStmt.enc)),iD k] (oD (hasKB k s.Body))∧Pure prog 46 [.d (.sl (s.Else.map GStmt.enc)),iD k] (oD (hasKB k s.Else)):=by
    intro s hs
    have h1:=List.sizeOf_lt_of_mem hs
    have hw:=hl s hs
    have h2:=GStmt.lt_body s
    have h3:=GStmt.lt_else s
    exact⟨ih s.Body (by omega) (GStmt.wf_Body hw) (GStmt.wl_Body hw),ih s.Else (by omega) (GStmt.wf_Else hw) (GStmt.wl_Else hw)⟩
   refine rn func46 ?_;simp [-cB,f46]
   refine AWP.loopL [0,1,5] l (fun pre=> [(5,iD pre.length)]) (fun _=> []) (fun pre=>pre.any (hasKS k)=false) (by rfl) (by omega) (by simp) ?_ ?_
   ·rintro pre s post hsp hpre hlt hge a4
    have hS:=hsub s (by rw [hsp];simp)
    have hyes:hasKS k s=true→hasKB k l=true:=fun h=>by rw [hasKB_any,hsp];simp [h]
    have hno:hasKS k s=false→(pre++ [s]).any (hasKS k)=false:=fun h=>by rw [List.any_append,hpre];simp [h]
    rw [hasKS_eq]at hyes hno
    have hsp':=hsp.symm
    clear ih hsub hlen hn hsp
    have hag:∀{f:FuncId} {args:List V} {x:V},False→Pure prog f args x:=fun h=>h.elim
    simp [-cB,hlt,hge]
    repeat' (first
     | (with_reducible refine And.intro ?_ ?_)
     | ((first | (refine condC_split (fun h=>?_) (fun h=>?_) <;> (try simp at h)) | refine pC hS.1 ?_ | refine pC hS.2 ?_ | refine lC hS.1 ?_ | refine lC hS.2 ?_ | refine pG hS.1 ?_ | refine pG hS.2 ?_) <;> (try simp [-cB, *,hlt,hge]))
     | (with_reducible intro _))
    rename_i y hy
    have h2:=hno (by simp [h])
    rw [List.any_eq_false]at h2
    simpa using h2 y (by simpa using hy)
   ·intro hall
    rw [hasKB_any,hall]
    simp
def ruledB(t:GTables) (i:Int):Bool:=t.Deeds.any fun d=>decide (d.Body=i)
def calledB(t:GTables) (i:Int):Bool:=(t.Funcs.any fun f=>decide (f=i)) || (t.Deeds.any fun d=>decide (d.When=i)) || t.Things.any fun x=>x.Ways.any fun w=>decide (w.When=i)
theorem ruled_ok(t:GTables) (ht:t.wf) (i:Int):Pure prog 48 [.agg (t.enc.map .d),iD i] (oD (ruledB t i)):=by
 have hlen:=GTables.wl_Deeds ht
 refine rn func48 ?_;simp [-cB,f48]
 intro bs
 refine AWP.loopL [1,2,5] t.Deeds (fun pre=> [(5,iD pre.length)]) (fun _=> []) (fun pre=>(pre.any fun d=>decide (d.Body=i))=false) (by rfl) (by omega) (by simp) ?_ ?_
 ·rintro pre s post hsp hpre hlt hge a4
  have hyes:s.Body=i→ruledB t i=true:=fun h=>by unfold ruledB;rw [hsp];simp [h]
  have hno:¬s.Body=i→((pre++ [s]).any fun d=>decide (d.Body=i))=false:=fun h=>by rw [List.any_append,hpre];simp [h]
  clear hsp
  by_cases h:s.Body=i
  ·simp [hlt,hge,h,hyes h]
  ·simp [hlt,hge,h]
   refine⟨a4,fun y hy=>?_⟩
   have h2:=hno h
   rw [List.any_eq_false]at h2
   simpa using h2 y (by simpa using hy)
 ·intro hall
  simp [ruledB,hall]
theorem called_ok(t:GTables) (ht:t.wf) (i:Int):Pure prog 47 [.agg (t.enc.map .d),iD i] (oD (calledB t i)):=by
 have hlen:=GTables.wl_Deeds ht
 have hlenF:=GTables.wl_Funcs ht
 have hlenT:=GTables.wl_Things ht
 have hwt:=GTables.wf_Things ht
 refine rn func47 ?_;simp [-cB,f47]
 intro bs
 refine AWP.loopL [1,2,5] t.Funcs (fun pre=> [(5,iD pre.length)]) (fun _=> []) (fun pre=>(pre.any fun d=>decide (d=i))=false) (by rfl) (by omega) (by simp) ?_ ?_
 ·rintro pre s post hsp hpre hlt hge a4
  have hyes:s=i→calledB t i=true:=fun h=>by unfold calledB;rw [hsp];simp [h]
  have hno:¬s=i→((pre++ [s]).any fun d=>decide (d=i))=false:=fun h=>by rw [List.any_append,hpre];simp [h]
  clear hsp
  by_cases h:s=i
  ·simp [hlt,hge,h,hyes h]
  ·simp [hlt,hge,h]
   refine⟨a4,fun y hy=>?_⟩
   have h2:=hno h
   rw [List.any_eq_false]at h2
   simpa using h2 y (by simpa using hy)
 ·intro hallF
  simp
  refine AWP.loopL [1,2,6] t.Deeds (fun pre=> [(6,iD pre.length)]) (fun _=> []) (fun pre=>(pre.any fun d=>decide (d.When=i))=false) (by rfl) (by omega) (by simp) ?_ ?_
  ·rintro pre s post hsp hpre hlt hge a4
   have hyes:s.When=i→calledB t i=true:=fun h=>by unfold calledB;rw [hsp];simp [h]
   have hno:¬s.When=i→((pre++ [s]).any fun d=>decide (d.When=i))=false:=fun h=>by rw [List.any_append,hpre];simp [h]
   clear hsp
   by_cases h:s.When=i
   ·simp [hlt,hge,h,hyes h]
   ·simp [hlt,hge,h]
    refine⟨a4,fun y hy=>?_⟩
    have h2:=hno h
    rw [List.any_eq_false]at h2
    simpa using h2 y (by simpa using hy)
  ·intro hallD
   simp
   refine AWP.loopL [1,2,7] t.Things (fun pre=> [(7,iD pre.length)]) (fun _=> []) (fun pre=>(pre.any fun x=>x.Ways.any fun w=>decide (w.When=i))=false) (by rfl) (by omega) (by simp) ?_ ?_
   ·rintro pre s post hsp hpre hlt hge a4
    have hwl:=GThing.wl_Ways (hwt s (by rw [hsp];simp))
    have hyes:(s.Ways.any fun w=>decide (w.When=i))=true→calledB t i=true:=fun h=>by unfold calledB;rw [hsp];simp only [List.any_append,List.any_cons,h];simp
    have hno:(s.Ways.any fun w=>decide (w.When=i))=false→((pre++ [s]).any fun x=>x.Ways.any fun w=>decide (w.When=i))=false:=fun h=>by rw [List.any_append,hpre];simp only [List.any_cons,h,List.any_nil];rfl
    clear hsp
    simp [hlt,hge]
    refine AWP.loopL [1,2,7,8,9] s.Ways (fun pre=> [(9,iD pre.length)]) (fun _=> []) (fun pre=>(pre.any fun w=>decide (w.When=i))=false) (by rfl) (by omega) (by simp) ?_ ?_
    ·rintro pre' u post' hsp' hpre' hlt' hge' a4'
     have hyes':u.When=i→calledB t i=true:=fun h=>hyes (by rw [hsp'];simp [h])
     have hno':¬u.When=i→((pre'++ [u]).any fun d=>decide (d.When=i))=false:=fun h=>by rw [List.any_append,hpre'];simp [h]
     clear hsp' hyes hno
     by_cases h:u.When=i
     ·simp [hlt',hge',h,hyes' h]
     ·simp [hlt',hge',h]
      refine⟨a4',fun y hy=>?_⟩
      have h2:=hno' h
      rw [List.any_eq_false]at h2
      simpa using h2 y (by simpa using hy)
    ·intro hall
     have h3:=hno hall
     simp [a4]
     intro y hy
     rw [List.any_eq_false]at h3
     have:=h3 y (by simpa using hy)
     simpa using this
   ·intro hallT
    have:calledB t i=false:=by unfold calledB;rw [hallF,hallD,hallT];rfl
    simp [this]
end Go.Ab
namespace Go.Ab
open Go.Proofs Go.Proofs.Tryz
set_option maxHeartbeats 4000000
set_option maxRecDepth 20000
theorem lStands1_ok(k:Int) (s:GStmt) (hb:Pure prog 43 [.d (.sl (s.Body.map GStmt.enc)),iD k] (oD (hasKB k s.Body))) (he:Pure prog 43 [.d (.sl (s.Else.map GStmt.enc)),iD k] (oD (hasKB k s.Else))):
  Pure prog 79 [.agg (s.enc.map .d),.rp [.v (.int .i64 k)]] (oD (hasKS k s)):=by
 rw [hasKS_eq]
 generalize hasKB k s.Body=b at *
 generalize hasKB k s.Else=c at *
 refine rn func79 ?_;simp [-cB,f79]
 repeat' (first
  | (with_reducible refine And.intro ?_ ?_)
  | ((first | (refine condC_split (fun h=>?_) (fun h=>?_) <;> (try simp at h)) | refine pC hb ?_ | refine pC he ?_ | refine lC hb ?_ | refine lC he ?_ | refine pG hb ?_ | refine pG he ?_) <;> (try simp [-cB, *]))
  | (with_reducible intro _))
 all_goals first | (simp_all;done) | grind | skip
theorem lStands_ok(k:Int):∀(N:Nat) (l:List GStmt),SizeOf.sizeOf l < N→(∀s∈l,s.wf)→l.length *104≤140737488351232→Pure prog 43 [.d (.sl (l.map GStmt.enc)),iD k] (oD (hasKB k l))
 | 0,l,h,_,_=>by omega
 | N+1,l,h,hw,hl=>by
   have hsub:∀s∈l,Pure prog 79 [.agg (s.enc.map .d),.rp [.v (.int .i64 k)]] (oD (hasKS k s)):=fun s hs=>by
    have h1:=List.sizeOf_lt_of_mem hs
    have h2:=GStmt.lt_body s
    have h3:=GStmt.lt_else s
    have hs':=hw s hs
    exact lStands1_ok k s (lStands_ok k N _ (by omega) (GStmt.wf_Body hs') (GStmt.wl_Body hs')) (lStands_ok k N _ (by omega) (GStmt.wf_Else hs') (GStmt.wl_Else hs'))
   have hq:=anyS_ok l (by omega) 79 [.rp [.v (.int .i64 k)]] rfl (hasKS k) hsub
   rw [←hasKB_any]at hq
   generalize hasKB k l=b at *
   clear hsub
   refine rn func43 ?_;simp [-cB,f43]
   intro bs
   refine AOps.weaken (Wk.freezeB 3 (ds:=[.v (.int .i64 k)]) rfl) ?_
   simp [-cB]
   repeat' (first
    | (with_reducible refine And.intro ?_ ?_)
    | ((first | (refine condC_split (fun h=>?_) (fun h=>?_) <;> (try simp at h)) | refine pC hq ?_ | refine lC hq ?_ | refine pG hq ?_) <;> (try simp [-cB, *]))
    | (with_reducible intro _))
end Go.Ab
namespace Go.Ab
open Go.Proofs Go.Proofs.Tryz
set_option maxHeartbeats 4000000
set_option maxRecDepth 20000
def linkE(t:GTables) (W F B:List Bool):List D:=t.enc++ [.sl (encB W),.sl (encB F),.sl (encB B)]
def mayB(t:GTables) (W F B:List Bool) (i:Nat) (l:List GStmt):Bool:=
 boundE t l (getI t.Locals i) && ((F[i]?.getD false || W[i]?.getD false ||!hasKB 12 l) && (B[i]?.getD false ||!hasKB 13 l))
theorem lMay_ok(t:GTables) (ht:t.wf) (W F B:List Bool) (i:Nat) (hi:i < t.Locals.length) (h1:W.length=t.Locals.length) (h2:F.length=t.Locals.length) (h3:B.length=t.Locals.length) (l:List GStmt) (hw:∀s∈l,s.wf) (hl:l.length *104≤140737488351232):
  Pure prog 18 [.rp (linkE t W F B),iD i,.d (.sl (l.map GStmt.enc))] (oD (mayB t W F B i l)):=by
 have hlo:=GTables.wf_Locals ht _ (List.getElem_mem hi)
 rw [inR_i64]at hlo
 have hgi:getI t.Locals i=t.Locals[i]:=by unfold getI;rw [Int.toNat_natCast,List.getElem?_eq_getElem hi];rfl
 have hq1:=tBound_ok t ht l hw hl t.Locals[i] (by omega)
 have hq2:=lStands_ok 12 _ l (Nat.lt_succ_self _) hw hl
 have hq3:=lStands_ok 13 _ l (Nat.lt_succ_self _) hw hl
 unfold mayB
 rw [hgi]
 have eW:W[i]?=some (W[i]?.getD false):=by rw [List.getElem?_eq_getElem (by omega)];rfl
 have eF:F[i]?=some (F[i]?.getD false):=by rw [List.getElem?_eq_getElem (by omega)];rfl
 have eB:B[i]?=some (B[i]?.getD false):=by rw [List.getElem?_eq_getElem (by omega)];rfl
 generalize boundE t l t.Locals[i]=b at *
 generalize hasKB 12 l=k12 at *
 generalize hasKB 13 l=k13 at *
 generalize W[i]?.getD false=w at *
 generalize F[i]?.getD false=f at *
 generalize B[i]?.getD false=bo at *
 have hlt:i < W.length:=by omega
 have hlt2:i < F.length:=by omega
 have hlt3:i < B.length:=by omega
 unfold linkE
 have g14:(t.enc++ [D.sl (encB W),D.sl (encB F),D.sl (encB B)])[14]?=some (.sl (encI t.Locals)):=rfl
 have g16:(t.enc++ [D.sl (encB W),D.sl (encB F),D.sl (encB B)])[15]?=some (.sl (encB W)):=rfl
 have g17:(t.enc++ [D.sl (encB W),D.sl (encB F),D.sl (encB B)])[16]?=some (.sl (encB F)):=rfl
 have g18:(t.enc++ [D.sl (encB W),D.sl (encB F),D.sl (encB B)])[17]?=some (.sl (encB B)):=rfl
 have gt:(t.enc++ [D.sl (encB W),D.sl (encB F),D.sl (encB B)]).take 15=t.enc:=rfl
 have gl:(t.enc++ [D.sl (encB W),D.sl (encB F),D.sl (encB B)]).length=18:=rfl
 have k1:=hq1.ok
 generalize t.enc++ [D.sl (encB W),D.sl (encB F),D.sl (encB B)]=lk at *
 have e14:∀h,lk[14]'h= .sl (encI t.Locals):=fun h=>by rw [List.getElem?_eq_getElem h]at g14;exact Option.some.inj g14
 have e16:∀h,lk[15]'h= .sl (encB W):=fun h=>by rw [List.getElem?_eq_getElem h]at g16;exact Option.some.inj g16
 have e17:∀h,lk[16]'h= .sl (encB F):=fun h=>by rw [List.getElem?_eq_getElem h]at g17;exact Option.some.inj g17
 have e18:∀h,lk[17]'h= .sl (encB B):=fun h=>by rw [List.getElem?_eq_getElem h]at g18;exact Option.some.inj g18
 refine rn func18 ?_
 simp [-cB,f18]
 refine AWP.regionD [oD b] tmix (by kernel_rfl) (by rfl) ?_
 simp [-cB, *]
 repeat' (first
  | (with_reducible refine And.intro ?_ ?_)
  | ((first | (refine condC_split (fun h=>?_) (fun h=>?_) <;> (try simp at h)) | refine pC hq2 ?_ | refine pC hq3 ?_ | refine lC hq2 ?_ | refine lC hq3 ?_ | refine pG hq2 ?_ | refine pG hq3 ?_) <;> (try simp [-cB, *]))
  | (with_reducible intro _))
 all_goals first | (simp_all;done) | grind | skip
end Go.Ab
namespace Go.Ab
open Go.Proofs Go.Proofs.Tryz
set_option maxRecDepth 40000
set_option maxHeartbeats 4000000
def stC(C:List GIns) (k:Int):Nat:=C.countP fun i=>decide (i.Op=38) && decide (i.Arg=k)
def akC(C:List GIns) (k:Int):Nat:=C.countP fun i=>(decide (i.Op=24) || decide (i.Op=25)) && decide (i.Arg=k)
def nlC(C:List GIns):Nat:=C.countP fun i=>decide (i.Op=38)
def tkC(C:List GIns):Nat:=C.countP fun i=>decide (i.Op=37)
@[simp] theorem stC_nil(k:Int):stC [] k=0:=rfl
@[simp] theorem akC_nil(k:Int):akC [] k=0:=rfl
@[simp] theorem nlC_nil:nlC []=0:=rfl
@[simp] theorem tkC_nil:tkC []=0:=rfl
structure Lab(C:List GIns) (a b:Int):Prop where
 le:a≤b
 st:∀k,(a≤k∧k < b→stC C k=1)∧(¬(a≤k∧k < b)→stC C k=0)
 ak:∀k,(a≤k∧k < b→0 < akC C k)∧(¬(a≤k∧k < b)→akC C k=0)
 nl:(nlC C:Int)=b-a
mutual
def sizeS:GStmt→Nat
 | .mk _ _ _ _ b c=>1+sizeSs b+sizeSs c
def sizeSs:List GStmt→Nat
 | []=>0
 | s::l=>sizeS s+sizeSs l
end
mutual
def eachS:GStmt→Nat
 | .mk k _ _ _ b c=>(if k=11 then 1 else 0)+(eachSs b+eachSs c)
def eachSs:List GStmt→Nat
 | []=>0
 | s::l=>eachS s+eachSs l
end
theorem sizeS_eq(s:GStmt):sizeS s=1+sizeSs s.Body+sizeSs s.Else:=by cases s;rw [sizeS];rfl
theorem sizeSs_snoc(l:List GStmt) (s:GStmt):sizeSs (l++ [s])=sizeSs l+sizeS s:=by
 induction l with
 | nil=>simp [sizeSs]
 | cons x l ih=>simp only [List.cons_append,sizeSs,ih];omega
end Go.Ab
namespace Go.Ab
end Go.Ab
namespace Go.Ab
structure OkW(t:GTables) (w:GWorld):Prop where
 wf:w.wf
 nest:Nest w.tree w.Parent.length (kidsM w.tree)
 hC:w.Child.length=w.Parent.length
 hN:w.Next.length=w.Parent.length
 hT:w.Parent.length=t.Things.length
 hF:w.Flags.length=t.Things.length
 hP:w.Props.length=t.Things.length *t.Props.length
 hG:w.Globals.length=t.Globals.length
 hD:w.Timers.length=t.Daemons.length
 hn:3≤t.Things.length∧t.Things.length≤128
 hp:t.Props.length≤16
 g16:∀x∈w.Globals,-32768≤x∧x≤32767
 p16:∀x∈w.Props,-32768≤x∧x≤32767
 fl:∀x∈w.Flags,0≤x∧x≤bitsM t.Flags-1
 tm:∀x∈w.Timers,0≤x∧x≤32767
 sc: -32768≤w.Score∧w.Score≤32767
 tu:0≤w.Turns∧w.Turns≤2147483647
 ov:0≤w.Over∧w.Over≤3
 it:0≤w.It∧w.It < t.Things.length
 go:0≤w.Go∧w.Go≤12
 pl:placedM t w=true
theorem fits_dims {t:GTables} (hf:fitsB t=true):(3≤t.Things.length∧t.Things.length≤128)∧t.Props.length≤16∧t.Globals.length≤64∧t.Daemons.length≤16∧t.Texts.length≤4096∧t.Params.length=t.Locals.length∧t.Params.length≤2048∧t.Funcs.length≤64∧(4≤t.Flags∧t.Flags≤16):=by
 unfold fitsB headB thingsB rulesB at hf
 simp only [Bool.and_eq_true,decide_eq_true_eq,fromB]at hf
 omega
end Go.Ab
namespace Go.Ab
def codeX(b:GBook) (r:Int):List GIns:=if inL b.Routines r then(genB (b.Routines[r.toNat]?.getD []) 0).1++ [⟨1,0⟩,⟨27,0⟩]else []
end Go.Ab
namespace Go.Ab
open Go.Proofs Go.Proofs.Tryz
def codeM(b:GBook) (i:Int):List Int×Int:=if i < 0∨(b.Routines.length:Int)≤i then([],11)else asmM (peepM (codeX b i))
theorem codeOf_ok(b:GBook) (hb:b.wf) (hR:∀l∈b.Routines,RBlock l∧szB l≤30000000) (i:Int):Pure prog 24 [.agg (b.enc.map .d),iD i] (.tup [bytD (codeM b i).1,iD (codeM b i).2]):=by
 have hlen:=GBook.wl_Routines hb
 by_cases hi:i < 0∨(b.Routines.length:Int)≤i
 ·have hc:codeM b i=([],11):=by unfold codeM;rw [if_pos hi]
  rw [hc]
  refine rn func24 ?_;simp [-cB,f24]
  intro bs
  repeat' (first
   | (with_reducible refine And.intro ?_ ?_)
   | (refine condC_split (fun h=>?_) (fun h=>?_) <;> (try simp at h) <;> (try simp [-cB, *]))
   | (with_reducible intro _))
  ·rfl
  ·omega
 ·have hc:codeM b i=asmM (peepM (codeX b i)):=by unfold codeM;rw [if_neg hi]
  rw [hc]
  have hil:i.toNat < b.Routines.length:=by omega
  obtain⟨h1,h2⟩:=hR b.Routines[i.toNat] (List.getElem_mem hil)
  have hcx:codeX b i=(genB b.Routines[i.toNat] 0).1++ [⟨1,0⟩,⟨27,0⟩]:=by
   unfold codeX
   rw [if_pos (by unfold inL;omega),List.getElem?_eq_getElem hil]
   rfl
  have bd:=genB_bd' b.Routines[i.toNat] 0
  have hl:(codeX b i).length≤1000000000:=by rw [hcx];simp;omega
  have hg:=refRoutineTop_ok b.Routines[i.toNat] h1 h2
  rw [←hcx]at hg
  have ha:=all29_ok (codeX b i) (by omega)
  have hp:(peepM (codeX b i)).length≤(codeX b i).length:=allM_len _ _
  have hs:=assemble30_ok (peepM (codeX b i)) (by omega)
  refine rn func24 ?_;simp [-cB,f24]
  intro bs
  have hi1:¬i < 0:=by omega
  have hi2:¬(b.Routines.length:Int)≤i:=by omega
  simp [-cB,hi1,hi2,List.getElem?_eq_getElem hil]
  refine⟨by omega,?_⟩
  refine pC hg ?_
  simp
  refine pC ha ?_
  simp
  refine pC hs ?_
  simp
end Go.Ab
namespace Go.Ab
open Go.Proofs Go.Proofs.Tryz
def goodR(b:GBook) (i:Nat):Bool:=
 (decide (deepB (b.Routines[i]?.getD []) 65≤32) && boundB b.Tables (b.Tables.Locals[i]?.getD 0) (b.Routines[i]?.getD [])) && (!hasKB 12 (b.Routines[i]?.getD []) || calledB b.Tables i) && (!hasKB 13 (b.Routines[i]?.getD []) || ruledB b.Tables i)
def rightBookB(b:GBook):Bool:=fitsB b.Tables && decide (b.Routines.length=b.Tables.Params.length) && (List.range b.Routines.length).all (goodR b)
theorem rightBook_ok(b:GBook) (hb:b.wf):Pure prog 19 [.agg (b.enc.map .d)] (oD (rightBookB b)):=by
 have ht:=GBook.wf_Tables hb
 have hlen:=GBook.wl_Routines hb
 have hlenP:=GTables.wl_Params ht
 have hfit:=refFits_ok b.Tables ht
 obtain⟨R,hR⟩:∃R,rightBookB b=R:=⟨_,rfl⟩
 have hRd:=hR
 unfold rightBookB at hRd
 rw [hR]
 cases hf:fitsB b.Tables with
 | false=>
   rw [hf]at hRd hfit
   simp at hRd
   refine rn func19 ?_;simp [-cB,f19]
   intro bs
   repeat' (first
    | (with_reducible refine And.intro ?_ ?_)
    | ((first | (refine condC_split (fun h=>?_) (fun h=>?_) <;> (try simp at h)) | refine pC hfit ?_ | refine lC hfit ?_ | refine pG hfit ?_) <;> (try simp [-cB, *,hRd]))
    | (with_reducible intro _))
 | true=>
   have hd:=(fits_dims hf).2.2.2.2.2.1
   rw [hf]at hRd hfit
   by_cases hL:b.Routines.length=b.Tables.Params.length
   ·rw [show decide (b.Routines.length=b.Tables.Params.length)=true by simpa using hL]at hRd
    simp only [Bool.true_and]at hRd
    refine rn func19 ?_;simp [-cB,f19]
    intro bs
    repeat' (first
     | (with_reducible refine And.intro ?_ ?_)
     | ((first | (refine condC_split (fun h=>?_) (fun h=>?_) <;> (try simp at h)) | refine pC hfit ?_ | refine lC hfit ?_ | refine pG hfit ?_) <;> (try simp [-cB, *,hL,hlenP]))
     | (with_reducible intro _))
    refine AWP.loopS [1,3,4] b.Routines.length (fun i=> [(4,iD i)]) (fun _=> []) (fun i=>∀j,j < i→goodR b j=true) (by rfl) (by simp) ?_
    intro i hi hH
    rcases Nat.lt_or_eq_of_le hi with hlt | heq
    ·have hlt':(i:Int) < b.Routines.length:=by omega
     have h64:inR .i64 ((i:Int)+1):=iW
     have hiL:i < b.Tables.Locals.length:=by omega
     obtain⟨l,hl⟩:∃l,b.Routines[i]=l:=⟨_,rfl⟩
     obtain⟨n,hn⟩:∃n,b.Tables.Locals[i]=n:=⟨_,rfl⟩
     obtain⟨w1,w2⟩:=GBook.wf_Routines hb l (hl ▸ List.getElem_mem hlt)
     have hnr:=GTables.wf_Locals ht n (hn ▸ List.getElem_mem hiL)
     have hbd:=refBoundB_ok b.Tables ht n hnr l w2 w1
     have hk12:=hasKind_ok 12 _ l (Nat.lt_succ_self _) w2 w1
     have hk13:=hasKind_ok 13 _ l (Nat.lt_succ_self _) w2 w1
     have hca:=called_ok b.Tables ht i
     have hru:=ruled_ok b.Tables ht i
     have hg:goodR b i=((decide (deepB l 65≤32) && boundB b.Tables n l) && (!hasKB 12 l || calledB b.Tables i) && (!hasKB 13 l || ruledB b.Tables i)):=by
      unfold goodR
      rw [List.getElem?_eq_getElem hlt,hl,List.getElem?_eq_getElem hiL,hn]
      rfl
     generalize (decide (deepB l 65≤32) && boundB b.Tables n l)=B1 at *
     generalize hasKB 12 l=B2 at *
     generalize calledB b.Tables i=B3 at *
     generalize hasKB 13 l=B4 at *
     generalize ruledB b.Tables i=B5 at *
     have hno:goodR b i=false→R=false:=fun h=>by
      rw [←hRd,List.all_eq_false]
      exact⟨i,by simpa using hlt,by simp [h]⟩
     have hyes:goodR b i=true→∀j,j < i+1→goodR b j=true:=fun h j hj=>by
      rcases Nat.lt_or_eq_of_le (Nat.le_of_lt_succ hj)with h1 | rfl
      ·exact hH j h1
      ·exact h
     rw [hg]at hno hyes
     clear hg hH hRd hR hL
     simp [-cB,hlt,hlt',hl]
     refine AWP.regionD [oD B1,oD B2,oD B3,oD B4,oD B5] tmix (by kernel_rfl) (by rfl) ?_
     simp [hbd.ok,hk12.ok,hca.ok,hk13.ok,hru.ok,hiL,hn]
     clear hbd hk12 hca hk13 hru hfit
     cases B1 <;> cases B2 <;> cases B3 <;> cases B4 <;> cases B5 <;> simp at hno hyes ⊢ <;> first | exact hno | exact⟨h64,hlt,hyes⟩
    ·simp [heq]
     rw [←hRd,List.all_eq_true]
     intro j hj
     exact hH j (by rw [heq];simpa using hj)
   ·rw [show decide (b.Routines.length=b.Tables.Params.length)=false by simpa using hL]at hRd
    simp at hRd
    have hL2:((b.Routines.length:Int) !=(b.Tables.Params.length:Int))=true:=by simp;omega
    refine rn func19 ?_;simp [-cB,f19]
    intro bs
    repeat' (first
     | (with_reducible refine And.intro ?_ ?_)
     | ((first | (refine condC_split (fun h=>?_) (fun h=>?_) <;> (try simp at h)) | refine pC hfit ?_ | refine lC hfit ?_ | refine pG hfit ?_) <;> (try simp [-cB, *,hL,hRd,hL2]))
     | (with_reducible intro _))
    exact absurd (by omega) hL
end Go.Ab
namespace Go.Ab
open Go.Proofs Go.Proofs.Tryz
set_option maxHeartbeats 4000000
set_option maxRecDepth 20000
theorem fits_things {t:GTables} (h:fitsB t=true):3≤t.Things.length∧t.Things.length≤128:=by
 simp only [fitsB,thingsB,Bool.and_eq_true,fromB_iff]at h
 omega
theorem fits_thing {t:GTables} (h:fitsB t=true) {x:GThing} (hx:x∈t.Things):x=thingAt t 0∧x.Ways=[]∧x.Room=false∨thingOk t x=true:=by
 have hn:=fits_things h
 simp only [fitsB,thingsB,Bool.and_eq_true]at h
 obtain⟨k,hk,rfl⟩:=List.getElem_of_mem hx
 cases k with
 | zero=>
   left
   have h0:thingAt t 0=t.Things[0]:=(thingAt_elem (t:=t) (n:=0) (by omega)).symm
   have:=h.1.2.1.1.1.1.2
   rw [h0]at this
   simp only [nothingB,Bool.and_eq_true]at this
   refine⟨h0.symm,?_,?_⟩
   ·have h1:=this.1.2
    simp at h1
    have:t.Things[0].Ways.length=0:=by simp [h1]
    exact List.length_eq_zero_iff.1 this
   ·simpa using this.1.1.1.2
 | succ k=>
   right
   have:=allB_iff.1 h.1.2.1.1.2 (t.Things[k+1]) (by
    rw [List.drop_one]
    have:t.Things.tail[k]'(by simp;omega)=t.Things[k+1]:=by simp
    rw [←this];exact List.getElem_mem _)
   exact this
theorem ways_all {t:GTables}:∀(l:List GWay) (p:Option GWay),waysM t p l=true→∀w∈l,fromB w.Dir 1 12=true∧thingB t w.To=true∧roomB t w.To=true∧routB t w.When true=true∧textB t w.Else true=true
 | [],_,_,w,hw=>by cases hw
 | y::l,p,h,w,hw=>by
   simp only [waysM,wayB,Bool.and_eq_true]at h
   rcases List.mem_cons.1 hw with rfl | hw
   ·exact⟨h.1.1.1.1.1.1,h.1.1.1.1.2,h.1.1.1.2,h.1.1.2,h.1.2⟩
   ·exact ways_all l (some y) h.2 w hw
theorem fits_way {t:GTables} (h:fitsB t=true) {x:GThing} (hx:x∈t.Things) {w:GWay} (hw:w∈x.Ways):fromB w.Dir 1 12=true∧thingB t w.To=true∧roomB t w.To=true∧routB t w.When true=true∧textB t w.Else true=true:=by
 rcases fits_thing h hx with⟨_,h1,_⟩ | h1
 ·rw [h1]at hw;cases hw
 ·simp only [thingOk,Bool.and_eq_true]at h1
  exact ways_all _ _ h1.2 w hw
theorem rout_lt {t:GTables} {n:Int} {b:Bool} (h:routB t n b=true):n < t.Params.length:=by
 unfold routB fromB at h;simp at h;omega
theorem fits_head {t:GTables} (hf:fitsB t=true):t.Params.length≤2048∧t.Params.length=t.Locals.length∧(∀p∈t.Params,p≤8)∧(∀n∈t.Funcs,n < t.Params.length)∧(∀d∈t.Deeds,d.When < t.Params.length∧d.Body < t.Params.length):=by
 unfold fitsB headB rulesB at hf
 simp only [Bool.and_eq_true,decide_eq_true_eq,fromB,allB,List.all_eq_true,List.mem_range]at hf
 obtain⟨⟨⟨⟨⟨h1,h2⟩,h3⟩,h4⟩,h5⟩,h6⟩:=hf
 refine⟨h2.2,h2.1.2,fun p hp=>?_,fun n hn=>by have:=h6.2.2.2.1 n hn;omega,fun d hd=>?_⟩
 ·obtain⟨k,hk,rfl⟩:=List.getElem_of_mem hp
  have:=h4 k hk
  unfold paramB fromB at this
  simp [hk]at this
  omega
 ·have:=h6.2.2.1 d hd
  unfold deedB at this
  simp only [Bool.and_eq_true]at this
  exact⟨rout_lt this.1.2,rout_lt this.2⟩
theorem mark_rep(is:List Int) (n k:Nat) (h:k < n):(markL (List.replicate n false) is)[k]?.getD false=is.any fun i=>decide (i=k):=by
 rw [markL_get _ _ _ (by simpa using h)]
 simp [h]
theorem may_good(b:GBook) (hf:fitsB b.Tables=true) (i:Nat) (hi:i < b.Tables.Params.length):mayB b.Tables (bgW b.Tables) (bgF b.Tables) (bgB b.Tables) i (b.Routines[i]?.getD [])=goodR b i:=by
 obtain⟨h1,h2,h3,h4,h5⟩:=fits_head hf
 unfold mayB goodR
 rw [boundE_eq _ h3]
 have e1:getI b.Tables.Locals i=b.Tables.Locals[i]?.getD 0:=by unfold getI;rw [Int.toNat_natCast]
 have eF:(bgF b.Tables)[i]?.getD false=b.Tables.Funcs.any fun f=>decide (f=i):=mark_rep _ _ _ hi
 have eB:(bgB b.Tables)[i]?.getD false=ruledB b.Tables i:=by unfold bgB ruledB;rw [mark_rep _ _ _ hi,List.any_map];rfl
 have eW:(bgW b.Tables)[i]?.getD false=((b.Tables.Things.any fun x=>x.Ways.any fun w=>decide (w.When=i)) || b.Tables.Deeds.any fun d=>decide (d.When=i)):=by
  unfold bgW
  rw [markL_get _ _ _ (by simpa using hi)]
  simp only [Option.getD_some]
  rw [mark_rep _ _ _ hi,List.any_map]
  unfold whenL
  rw [List.any_flatMap]
  simp only [List.any_map,Function.comp_def]
 rw [e1,eF,eB,eW]
 unfold calledB
 generalize hasKB 12 _=k12
 generalize hasKB 13 _=k13
 generalize (b.Tables.Funcs.any fun f=>decide (f=(i:Int)))=c1
 generalize (b.Tables.Deeds.any fun d=>decide (d.When=(i:Int)))=c2
 generalize (b.Tables.Things.any fun x=>x.Ways.any fun w=>decide (w.When=(i:Int)))=c3
 generalize ruledB b.Tables i=c4
 generalize (decide (deepB (b.Routines[i]?.getD []) 65≤32) && boundB b.Tables (b.Tables.Locals[i]?.getD 0) (b.Routines[i]?.getD []))=c5
 cases k12 <;> cases k13 <;> cases c1 <;> cases c2 <;> cases c3 <;> cases c4 <;> cases c5 <;> rfl
theorem lRight_ok(b:GBook) (hb:b.wf):Pure prog 7 [.agg (b.enc.map .d)] (oD (rightBookB b)):=by
 have hqF:Pure prog 16 [.agg (b.Tables.enc.map .d)] (oD (fitsB b.Tables)):=by rw [←fitsP_eq];exact wFits_ok b.Tables hb.1
 have hwr:=hb.2
 unfold rightBookB
 cases hf:fitsB b.Tables with
 | false=>
   rw [hf]at hqF
   refine rn func7 ?_;simp [-cB,Tryz.f7]
   repeat' (first
    | (with_reducible refine And.intro ?_ ?_)
    | ((first | (refine condC_split (fun h=>?_) (fun h=>?_) <;> (try simp at h)) | refine pC hqF ?_ | refine lC hqF ?_ | refine pG hqF ?_) <;> (try simp [-cB, *]))
    | (with_reducible intro _))
   all_goals first | (simp_all;done) | grind | skip
 | true=>
   rw [hf]at hqF
   obtain⟨h1,h2,h3,h4,h5⟩:=fits_head hf
   by_cases hn:b.Routines.length=b.Tables.Params.length
   ·have hq:=lBegin_ok b hb (fun x hx y hy=>rout_lt (fits_way hf hx hy).2.2.2.1) h5 h4 h1
    have hg:=fun i hi=>may_good b hf i hi
    have hW:(bgW b.Tables).length=b.Tables.Locals.length:=by unfold bgW;simp [h2]
    have hF:(bgF b.Tables).length=b.Tables.Locals.length:=by unfold bgF;simp [h2]
    have hB:(bgB b.Tables).length=b.Tables.Locals.length:=by unfold bgB;simp [h2]
    have hm:=fun i hi l hw hl=>lMay_ok b.Tables hb.1 (bgW b.Tables) (bgF b.Tables) (bgB b.Tables) i hi hW hF hB l hw hl
    unfold linkE at hm
    generalize b.Tables.enc++ [.sl (encB (bgW b.Tables)),.sl (encB (bgF b.Tables)),.sl (encB (bgB b.Tables))]=lk at *
    have hni:(b.Routines.length:Int)=b.Tables.Params.length:=by omega
    have hall:∀i,i < b.Routines.length→goodR b i=false→(List.range b.Routines.length).all (goodR b)=false:=fun i hi hgi=>by
     rw [List.all_eq_false];exact⟨i,List.mem_range.2 hi,by simp [hgi]⟩
    have hlen:=hwr.1
    refine rn func7 ?_;simp [-cB,Tryz.f7]
    intro bs
    refine pC hqF ?_
    simp [-cB,hn,hni]
    repeat' (first
     | (with_reducible refine And.intro ?_ ?_)
     | ((first | (refine condC_split (fun h=>?_) (fun h=>?_) <;> (try simp at h)) | refine pC hq ?_ | refine lC hq ?_ | refine pG hq ?_) <;> (try simp [-cB, *,hn,hni]))
     | (with_reducible intro _))
    refine AWP.loopS [3,23,24,25] b.Routines.length (fun i=> [(25,iD i)]) (fun _=> []) (fun i=>(List.range i).all (goodR b)=true) (by rfl) (by simp) ?_
    intro i hi hH
    rcases Nat.lt_or_eq_of_le hi with hlt | heq
    ·have hge:b.Routines[i]?=some b.Routines[i]:=List.getElem?_eq_getElem hlt
     obtain⟨hw1,hw2⟩:=hwr.2 _ (List.getElem_mem hlt)
     have hm:=hm i (by omega) b.Routines[i] hw2 hw1
     have hg:=hg i (by omega)
     rw [hge]at hg
     simp only [Option.getD_some]at hg
     rw [hg]at hm
     have hall:=hall i hlt
     have hsn:(List.range (i+1)).all (goodR b)=goodR b i:=by rw [List.range_succ,List.all_append,hH];simp
     have h64:inR .i64 ((i:Int)+1):=iW
     have hlt':(i:Int) < b.Routines.length:=by omega
     generalize goodR b i=g at *
     generalize hl:b.Routines[i]=l at *
     simp [-cB,hlt,hlt',hge,hl]
     repeat' (first
      | (with_reducible refine And.intro ?_ ?_)
      | ((first | (refine condC_split (fun h=>?_) (fun h=>?_) <;> (try simp at h)) | refine pC hm ?_ | refine lC hm ?_ | refine pG hm ?_) <;> (try simp [-cB, *]))
      | (with_reducible intro _))
     all_goals first | (simp_all;done) | grind | skip
    ·rw [heq,hn,h2]at hH
     simp [-cB,heq,hH,hn,h2]
   ·have hni:¬(b.Routines.length:Int)=b.Tables.Params.length:=by omega
    refine rn func7 ?_;simp [-cB,Tryz.f7]
    repeat' (first
     | (with_reducible refine And.intro ?_ ?_)
     | ((first | (refine condC_split (fun h=>?_) (fun h=>?_) <;> (try simp at h)) | refine pC hqF ?_ | refine lC hqF ?_ | refine pG hqF ?_) <;> (try simp [-cB, *]))
     | (with_reducible intro _))
    all_goals first | (simp_all;done) | grind | skip
end Go.Ab
namespace Go.Ab
open Go.Proofs Go.Proofs.Tryz
def stM(b:GBook):Nat→List Int×List Int
 | 0=>([],[])
 | i+1=>((stM b i).1++ [((stM b i).2.length:Int)],(stM b i).2++(codeM b i).1)
def firstE(b:GBook):Nat→Nat→Int
 | 0,_=>0
 | n+1,i=>if(codeM b i).2=0 then firstE b n (i+1)else(codeM b i).2
def storyM(b:GBook):GStory×Int:=
 if rightBookB b=false then(GStory.zero,18)
 else if firstE b b.Routines.length 0≠0 then(GStory.zero,firstE b b.Routines.length 0)
 else if 65536 < (stM b b.Routines.length).2.length then(GStory.zero,3)
 else(⟨b.Tables,(stM b b.Routines.length).1,(stM b b.Routines.length).2⟩,0)
theorem ons_app(ks:List Nat):∀(a b:List V),V.ons ks (a++b)=(V.ons ks a && V.ons ks b)
 | [],b=>by simp [V.ons]
 | x::a,b=>by simp [V.ons,ons_app ks a b,Bool.and_assoc]
theorem asm_len(l:List GIns):(asmM l).1.length≤3 *l.length:=by
 obtain⟨z,hz,hf,_⟩:=sizesM_ok (3 *l.length+1) (zipZ l) (zipZ_ok l) (by simp [zipZ];omega)
 rw [zipZ_fst]at hf
 have hzl:z.length=l.length:=by simpa using congrArg List.length hf
 have:=codeZ_le z 0 z
 unfold asmM
 split
 ·simp
 ·rw [hz]
  simp only
  split
  ·simp
  ·split
   ·simp
   ·simp only;omega
theorem code_len(b:GBook) (hR:∀l∈b.Routines,RBlock l∧szB l≤30000000) (i:Int):(codeM b i).1.length≤2000000000:=by
 unfold codeM
 split
 ·simp
 ·rename_i hi
  have hil:i.toNat < b.Routines.length:=by omega
  obtain⟨_,h2⟩:=hR b.Routines[i.toNat] (List.getElem_mem hil)
  have h1:=asm_len (peepM (codeX b i))
  have hp:(peepM (codeX b i)).length≤(codeX b i).length:=allM_len _ _
  have bd:=genB_bd' b.Routines[i.toNat] 0
  have hcx:codeX b i=(genB b.Routines[i.toNat] 0).1++ [⟨1,0⟩,⟨27,0⟩]:=by
   unfold codeX
   rw [if_pos (by unfold inL;omega),List.getElem?_eq_getElem hil]
   rfl
  have hl:(codeX b i).length≤500000000:=by rw [hcx];simp;omega
  omega
theorem st_len(b:GBook) (hR:∀l∈b.Routines,RBlock l∧szB l≤30000000):∀i:Nat,(stM b i).1.length=i∧(stM b i).2.length≤2000000000 *i
 | 0=>⟨rfl,Nat.le_refl _⟩
 | i+1=>by
   obtain⟨h1,h2⟩:=st_len b hR i
   have h3:=code_len b hR i
   rw [stM]
   constructor
   ·simp [h1]
   ·simp only [List.length_append];omega
theorem storyOf_ok(b:GBook) (hb:b.wf) (hR:rightBookB b=true→∀l∈b.Routines,RBlock l∧szB l≤30000000):Pure prog 20 [.agg (b.enc.map .d)] (.tup [.agg ((storyM b).1.enc.map .d),iD (storyM b).2]):=by
 have hrb:=rightBook_ok b hb
 obtain⟨S,hS⟩:∃S,storyM b=S:=⟨_,rfl⟩
 have hSd:=hS
 unfold storyM at hSd
 rw [hS]
 cases hr:rightBookB b with
 | false=>
   rw [hr]at hrb hSd
   simp at hSd
   refine rn func20 ?_;simp [-cB,f20]
   intro bs
   refine pC hrb ?_
   simp
   rw [←hSd];exact⟨rfl,rfl⟩
 | true=>
   replace hR:=hR hr
   have hn:b.Routines.length≤2048:=by
    unfold rightBookB at hr
    simp only [Bool.and_eq_true,decide_eq_true_eq]at hr
    have:=(fits_dims hr.1.1).2.2.2.2.2.2.1
    omega
   rw [hr]at hrb hSd
   simp only [Bool.true_eq_false,if_false]at hSd
   have hfE:firstE b (b.Routines.length-0) 0=firstE b b.Routines.length 0:=rfl
   obtain⟨E,hE⟩:∃E,firstE b b.Routines.length 0=E:=⟨_,rfl⟩
   rw [hE]at hSd hfE
   refine rn func20 ?_;simp [-cB,f20]
   intro bs
   refine pC hrb ?_
   simp
   intro bs2
   refine AWP.weaken (Wk.ownBox 4 15 5301 (e:=3) (k:=1) rfl rfl (by simp [keys])) ?_
   refine AWP.weaken (Wk.ownBox 4 16 5302 (e:=5) (k:=1) rfl rfl (by simp [keys,Heap.upd])) ?_
   simp only [Heap.upd,List.map_cons,List.map_nil,reduceIte,Nat.reduceEqDiff]
   refine AWP.loopS [1,2,4,5] b.Routines.length (fun i=> [(5,iD i)]) (fun i=> [(5301,.row 3 1 (dd (encI (stM b i).1))),(5302,.row 5 1 (dd (encY (stM b i).2)))]) (fun i=>firstE b (b.Routines.length-i) i=E) (by rfl) (by simp [stM,encY,hE,ons_app]) ?_
   intro i hi hH
   obtain⟨l1,l2⟩:=st_len b hR i
   rcases Nat.lt_or_eq_of_le hi with hlt | heq
   ·have hco:=codeOf_ok b hb hR i
    have h64:inR .i64 ((i:Int)+1):=iW
    have hcl:=code_len b hR i
    have hst:stM b (i+1)=((stM b i).1++ [((stM b i).2.length:Int)],(stM b i).2++(codeM b i).1):=rfl
    obtain⟨c,hc⟩:∃c,codeM b i=c:=⟨_,rfl⟩
    rw [hc]at hco hcl hst
    rw [show b.Routines.length-i=(b.Routines.length-(i+1))+1 by omega,firstE,hc]at hH
    simp [-cB,hlt]
    refine pC hco ?_
    by_cases he:c.2=0
    ·rw [if_pos he]at hH
     have k1:V.kills 5301 (List.map V.d b.Tables.enc++ [V.rv 5301,V.rv 5302])=List.map V.d b.Tables.enc++ [V.any,V.rv 5302]:=rfl
     have k2:V.kills 5302 (List.map V.d b.Tables.enc++ [V.rv 5301,V.rv 5302])=List.map V.d b.Tables.enc++ [V.rv 5301,V.any]:=rfl
     have k3:(List.map V.d b.Tables.enc++ [V.any,V.rv 5302]).take 15=List.map V.d b.Tables.enc:=rfl
     have k4:(List.map V.d b.Tables.enc++ [V.any,V.rv 5302]).drop 16=[V.rv 5302]:=rfl
     have k5:(List.map V.d b.Tables.enc++ [V.rv 5301,V.any]).take 16=List.map V.d b.Tables.enc++ [V.rv 5301]:=rfl
     have k6:(List.map V.d b.Tables.enc++ [V.rv 5301,V.any]).drop 17=[]:=rfl
     simp [hlt,he,h64,hst,hH,l1,k1,k2,k3,k4,k5,k6]
     exact⟨by omega,⟨encY_one _,by omega⟩,by simp [ons_app]⟩
    ·rw [if_neg he]at hH
     rw [←hH,if_pos he]at hSd
     simp [hlt,he]
     rw [←hSd];exact⟨rfl,rfl⟩
   ·have hE0:E=0:=by rw [heq,Nat.sub_self,firstE]at hH;exact hH.symm
    rw [if_neg (by rw [hE0];simp)]at hSd
    obtain⟨st,hstd⟩:∃st,stM b b.Routines.length=st:=⟨_,rfl⟩
    rw [hstd]at hSd
    rw [heq,hstd]at l1 l2
    have hc65:(65536:Int) < (st.2.length:Int)↔65536 < st.2.length:=by omega
    by_cases hL:65536 < st.2.length
    ·rw [if_pos hL]at hSd
     simp [heq,hstd,hL,hc65]
     rw [←hSd];exact⟨rfl,rfl⟩
    ·rw [if_neg hL]at hSd
     simp [heq,hstd,hL,hc65]
     rw [←hSd]
     refine⟨?_,rfl⟩
     simp [GTables.enc,GStory.enc]
     rfl
end Go.Ab
namespace Go.Ab
open Go.Proofs Go.Proofs.Tryz
set_option maxHeartbeats 4000000
set_option maxRecDepth 20000
theorem lCode_ok(b:GBook) (hb:b.wf) (hR:∀l∈b.Routines,WBlock l∧szB l≤30000000) (i:Int):Pure prog 12 [.agg (b.enc.map .d),iD i] (.tup [bytD (codeM b i).1,iD (codeM b i).2]):=by
 have hlen:=GBook.wl_Routines hb
 by_cases hi:i < 0∨(b.Routines.length:Int)≤i
 ·have hc:codeM b i=([],11):=by unfold codeM;rw [if_pos hi]
  rw [hc]
  refine rn func12 ?_;simp [-cB,f12]
  intro bs
  repeat' (first
   | (with_reducible refine And.intro ?_ ?_)
   | (refine condC_split (fun h=>?_) (fun h=>?_) <;> (try simp at h) <;> (try simp [-cB, *]))
   | (with_reducible intro _))
  all_goals first | rfl | omega
 ·have hc:codeM b i=asmM (peepM (codeX b i)):=by unfold codeM;rw [if_neg hi]
  rw [hc]
  have hil:i.toNat < b.Routines.length:=by omega
  obtain⟨h1,h2⟩:=hR b.Routines[i.toNat] (List.getElem_mem hil)
  have hcx:codeX b i=(genB b.Routines[i.toNat] 0).1++ [⟨1,0⟩,⟨27,0⟩]:=by
   unfold codeX
   rw [if_pos (by unfold inL;omega),List.getElem?_eq_getElem hil]
   rfl
  have bd:=genB_bd' b.Routines[i.toNat] 0
  have hl:(codeX b i).length≤1000000000:=by rw [hcx];simp;omega
  have hg:=genRoutine_ok b.Routines[i.toNat] h1 h2
  rw [←hcx]at hg
  have ha:=pAll_ok (codeX b i) (by omega)
  have hp:(peepM (codeX b i)).length≤(codeX b i).length:=allM_len _ _
  have hs:=asmAsm_ok (peepM (codeX b i)) (by omega)
  refine rn func12 ?_;simp [-cB,f12]
  intro bs
  have hi1:¬i < 0:=by omega
  have hi2:¬(b.Routines.length:Int)≤i:=by omega
  simp [-cB,hi1,hi2,List.getElem?_eq_getElem hil]
  refine⟨by omega,?_⟩
  refine pC hg ?_
  simp
  refine pC ha ?_
  simp
  refine pC hs ?_
  simp
theorem codeW_len(b:GBook) (hR:∀l∈b.Routines,szB l≤30000000) (i:Int):(codeM b i).1.length≤2000000000:=by
 unfold codeM
 split
 ·simp
 ·rename_i hi
  have hil:i.toNat < b.Routines.length:=by omega
  have h2:=hR b.Routines[i.toNat] (List.getElem_mem hil)
  have h1:=asm_len (peepM (codeX b i))
  have hp:(peepM (codeX b i)).length≤(codeX b i).length:=allM_len _ _
  have bd:=genB_bd' b.Routines[i.toNat] 0
  have hcx:codeX b i=(genB b.Routines[i.toNat] 0).1++ [⟨1,0⟩,⟨27,0⟩]:=by
   unfold codeX
   rw [if_pos (by unfold inL;omega),List.getElem?_eq_getElem hil]
   rfl
  have hl:(codeX b i).length≤500000000:=by rw [hcx];simp;omega
  omega
theorem stW_len(b:GBook) (hR:∀l∈b.Routines,szB l≤30000000):∀i:Nat,(stM b i).1.length=i∧(stM b i).2.length≤2000000000 *i
 | 0=>⟨rfl,Nat.le_refl _⟩
 | i+1=>by
   obtain⟨h1,h2⟩:=stW_len b hR i
   have h3:=codeW_len b hR i
   rw [stM]
   constructor
   ·simp [h1]
   ·simp only [List.length_append];omega
theorem lStory_ok(b:GBook) (hb:b.wf) (hR:rightBookB b=true→∀l∈b.Routines,WBlock l∧szB l≤30000000):Pure prog 9 [.agg (b.enc.map .d)] (.tup [.agg ((storyM b).1.enc.map .d),iD (storyM b).2]):=by
 have hrb:=lRight_ok b hb
 obtain⟨S,hS⟩:∃S,storyM b=S:=⟨_,rfl⟩
 have hSd:=hS
 unfold storyM at hSd
 rw [hS]
 cases hr:rightBookB b with
 | false=>
   rw [hr]at hrb hSd
   simp at hSd
   refine rn func9 ?_;simp [-cB,Tryz.f9]
   intro bs
   refine pC hrb ?_
   simp
   rw [←hSd];exact⟨rfl,rfl⟩
 | true=>
   replace hR:=hR hr
   have hn:b.Routines.length≤2048:=by
    unfold rightBookB at hr
    simp only [Bool.and_eq_true,decide_eq_true_eq]at hr
    have:=(fits_dims hr.1.1).2.2.2.2.2.2.1
    omega
   rw [hr]at hrb hSd
   simp only [Bool.true_eq_false,if_false]at hSd
   have hfE:firstE b (b.Routines.length-0) 0=firstE b b.Routines.length 0:=rfl
   obtain⟨E,hE⟩:∃E,firstE b b.Routines.length 0=E:=⟨_,rfl⟩
   rw [hE]at hSd hfE
   refine rn func9 ?_;simp [-cB,Tryz.f9]
   intro bs
   refine pC hrb ?_
   simp
   intro bs2
   refine AWP.weaken (Wk.ownBox 4 15 5301 (e:=3) (k:=1) rfl rfl (by simp [keys])) ?_
   refine AWP.weaken (Wk.ownBox 4 16 5302 (e:=5) (k:=1) rfl rfl (by simp [keys,Heap.upd])) ?_
   simp only [Heap.upd,List.map_cons,List.map_nil,reduceIte,Nat.reduceEqDiff]
   refine AWP.loopS [1,2,4,17,18] b.Routines.length (fun i=> [(18,iD i)]) (fun i=> [(5301,.row 3 1 (dd (encI (stM b i).1))),(5302,.row 5 1 (dd (encY (stM b i).2)))]) (fun i=>firstE b (b.Routines.length-i) i=E) (by rfl) (by simp [stM,encY,hE,ons_app]) ?_
   intro i hi hH
   obtain⟨l1,l2⟩:=stW_len b (fun l hl=>(hR l hl).2) i
   rcases Nat.lt_or_eq_of_le hi with hlt | heq
   ·have hco:=lCode_ok b hb hR i
    have h64:inR .i64 ((i:Int)+1):=iW
    have hcl:=codeW_len b (fun l hl=>(hR l hl).2) i
    have hst:stM b (i+1)=((stM b i).1++ [((stM b i).2.length:Int)],(stM b i).2++(codeM b i).1):=rfl
    obtain⟨c,hc⟩:∃c,codeM b i=c:=⟨_,rfl⟩
    rw [hc]at hco hcl hst
    rw [show b.Routines.length-i=(b.Routines.length-(i+1))+1 by omega,firstE,hc]at hH
    simp [-cB,hlt]
    refine pC hco ?_
    by_cases he:c.2=0
    ·rw [if_pos he]at hH
     have k1:V.kills 5301 (List.map V.d b.Tables.enc++ [V.rv 5301,V.rv 5302])=List.map V.d b.Tables.enc++ [V.any,V.rv 5302]:=rfl
     have k2:V.kills 5302 (List.map V.d b.Tables.enc++ [V.rv 5301,V.rv 5302])=List.map V.d b.Tables.enc++ [V.rv 5301,V.any]:=rfl
     have k3:(List.map V.d b.Tables.enc++ [V.any,V.rv 5302]).take 15=List.map V.d b.Tables.enc:=rfl
     have k4:(List.map V.d b.Tables.enc++ [V.any,V.rv 5302]).drop 16=[V.rv 5302]:=rfl
     have k5:(List.map V.d b.Tables.enc++ [V.rv 5301,V.any]).take 16=List.map V.d b.Tables.enc++ [V.rv 5301]:=rfl
     have k6:(List.map V.d b.Tables.enc++ [V.rv 5301,V.any]).drop 17=[]:=rfl
     simp [hlt,he,h64,hst,hH,l1,k1,k2,k3,k4,k5,k6]
     exact⟨by omega,⟨encY_one _,by omega⟩,by simp [ons_app]⟩
    ·rw [if_neg he]at hH
     rw [←hH,if_pos he]at hSd
     simp [hlt,he]
     rw [←hSd];exact⟨rfl,rfl⟩
   ·have hE0:E=0:=by rw [heq,Nat.sub_self,firstE]at hH;exact hH.symm
    rw [if_neg (by rw [hE0];simp)]at hSd
    obtain⟨st,hstd⟩:∃st,stM b b.Routines.length=st:=⟨_,rfl⟩
    rw [hstd]at hSd
    rw [heq,hstd]at l1 l2
    have hc65:(65536:Int) < (st.2.length:Int)↔65536 < st.2.length:=by omega
    by_cases hL:65536 < st.2.length
    ·rw [if_pos hL]at hSd
     simp [heq,hstd,hL,hc65]
     rw [←hSd];exact⟨rfl,rfl⟩
    ·rw [if_neg hL]at hSd
     simp [heq,hstd,hL,hc65]
     rw [←hSd]
     refine⟨?_,rfl⟩
     simp [GTables.enc,GStory.enc]
     rfl
end Go.Ab
namespace Go.Ab
open Go.Proofs Go.Proofs.Tryz
theorem opq_bytes {P:Program} {L:Heap} {o:Oper} {ρa:Operand→V} {src dst e:TypeId} {x:Operand} {l:List Int} (hop:o.op= .convert src dst x) (hs:P.underlying src=some (.slice e)) (he:P.underlying e=some (.int .u8)) (hd:P.underlying dst=some .string)
  (hx:ρa x= .d (.sl (encY l))):OpQ P o ρa L (.d (.v (.string (strOfNums l)))):=by
 intro fo m ρ w hi hr
 have h1:=hr x (by rw [hop];simp [Op.operands])
 rw [hx]at h1
 have key:∀v,RelV w (OO fo m) m v (.d (.sl (encY l)))→(convert src dst v).run P w= .ok (.string (strOfNums l)) w:=by
  intro v hv
  cases hv with
  | d _ _ h=>
    cases h with
    | sl a n cap xs k b off f hn hcap hmax ha hk hc hrr=>
      have hnl:n=l.length:=by simpa using hn
      by_cases h0:0 < n
      ·obtain⟨rfl,-,-⟩:=ha h0
       refine run_convert_bytes_arg w src e hs he b off n cap l hnl.symm (fun i hi=>?_) dst hd
       have hg:(encY l)[i]?=some [.v (.int .u8 (l[i]'(by omega)))]:=by simp [encY,List.getElem?_eq_getElem (show i < l.length by omega)]
       have hk1:1=k:=hk i _ hg
       subst hk1
       have h3:=hc i 0 hi (by omega)
       have h4:=hrr i 0 _ _ hg rfl
       have h5:f i 0= .int .u8 (l[i]'(by omega)):=(RelV.d (m:=m) _ _ h4).v_inv
       rw [h5]at h3
       simp only [Nat.mul_one,Nat.add_zero]at h3
       rw [h3]
       simp [List.getD,List.getElem?_eq_getElem (show i < l.length by omega)]
      ·have hn0:n=0:=by omega
       have hl0:l=[]:=by cases l with | nil=>rfl | cons y l=>simp at hnl;omega
       subst hn0
       subst hl0
       cases a with
       | none=>exact run_convert_bytes_nil w src e hs he 0 cap dst hd
       | some a=>
         rw [run_convert_bytes_string w src dst e _ 0 cap hs he hd,run_bytesToString w a 0 cap [] (by simpa using run_loadCells_list (P:=P) w a [] (fun j v h=>by simp at h))]
         rfl
 refine⟨.string (strOfNums l),?_,.d _ _ (.v _ rfl)⟩
 simp [execOp,hop,key _ h1]
theorem AOps.bytes {P:Program} {n:Nat} {s:St} {Q:AX→St→Prop} {ops:Array Oper} {o:Oper} {rest:List Oper} {src dst e:TypeId} {x:Operand} {l:List Int} (hop:o.op= .convert src dst x) (hg:o.guard=none) (hd:∀d,o.dst=some d→d < n)
  (ht:P.underlying src=some (.slice e)∧P.underlying e=some (.int .u8)∧P.underlying dst=some .string) (hx:s.ev x= .d (.sl (encY l)))
  (k:AOps P n ops rest (s.put o.dst (.d (.v (.string (strOfNums l))))) Q):AOps P n ops (o::rest) s Q:=
 AOps.quietT hg hd (.of_Q (opq_bytes hop ht.1 ht.2.1 ht.2.2 hx)) k
theorem AOps.bytesG {P:Program} {n:Nat} {s:St} {Q:AX→St→Prop} {ops:Array Oper} {o:Oper} {rest:List Oper} {g:Bool} {src dst e:TypeId} {x:Operand} {l:List Int} (hop:o.op= .convert src dst x) (hgd:guardV ops s o=some (some g)) (hd:∀d,o.dst=some d→d < n)
  (ht:P.underlying src=some (.slice e)∧P.underlying e=some (.int .u8)∧P.underlying dst=some .string) (hx:g=true→(s.ev x).un= .d (.sl (encY l))) (hu:g=true→uncs s o.op.operands.toList)
  (k:AOps P n ops rest (s.put o.dst (.gd g (.d (.v (.string (strOfNums l)))))) Q):AOps P n ops (o::rest) s Q:=
 AOps.guarded hgd hd (fun hg=>⟨fun z=>(s.ev z).un,fun z hz w O m v hr=>un_rel hr (uncs_mem (hu hg) z (by simpa using hz)),opq_bytes hop ht.1 ht.2.1 ht.2.2 (hx hg)⟩) k
end Go.Ab
namespace Go.Ab
open Go.Proofs Go.Proofs.Tryz
set_option maxRecDepth 40000
set_option maxHeartbeats 4000000
end Go.Ab
namespace Go.Ab
open Go.Proofs Go.Proofs.Tryz
set_option maxHeartbeats 4000000
set_option maxRecDepth 20000
def wI(n:Int):Int:=IntKind.i64.wrap n
theorem wI_eq(n:Int):wI n=(n+9223372036854775808) % 18446744073709551616-9223372036854775808:=by
 unfold wI IntKind.wrap
 simp [IntKind.bits,IntKind.signed]
 split <;> omega
theorem wI_l(a b:Int):wI (wI a+b)=wI (a+b):=by simp only [wI_eq];omega
theorem wI_r(a b:Int):wI (a+wI b)=wI (a+b):=by simp only [wI_eq];omega
theorem opt_addw {P:Program} {L:Heap} {o:Oper} {ρa:Operand→V} {t:TypeId} {xo yo:Operand} {ty:TypeId} {a b:Int} (hop:o.op= .binOp .add t xo yo ty) (hx:ρa xo=iD a∧ρa yo=iD b):OpT P o ρa L (iD (wI (a+b))):=
 .of_Q fun fo m ρ w _ hr=>by
  have h1:=hr xo (by rw [hop];simp [Op.operands])
  have h2:=hr yo (by rw [hop];simp [Op.operands])
  rw [hx.1]at h1
  rw [hx.2]at h2
  have e1:=h1.v_inv
  have e2:=h2.v_inv
  refine⟨.int .i64 (wI (a+b)),?_,.d _ _ (.v _ rfl)⟩
  simp [execOp,hop,e1,e2,eqGuard,binOp,Op.intArith,wI]
theorem yop_addw {P:Program} {ops:Array Oper} {o:Oper} {s:St} {t:TypeId} {xo yo:Operand} {ty:TypeId} {a b:Int} (hop:o.op= .binOp .add t xo yo ty) (hg:o.guard=none) (hx:s.ev xo=iD a∧s.ev yo=iD b):YOp P ops o s (iD (wI (a+b))):=
 yop_plain hg (opt_addw hop hx)
theorem sizeW_ok(l:List GStmt) (hl:∀s∈l,s.wf) (hlen:l.length *104≤140737488351232):Pure prog 15 [.d (.sl (l.map GStmt.enc))] (iD (wI (sizeSs l))):=by
 obtain⟨n,hn⟩:∃n,SizeOf.sizeOf l < n:=⟨_,Nat.lt_succ_self _⟩
 induction n generalizing l with
 | zero=>omega
 | succ n ih=>
   have hsub:∀s∈l,Pure prog 15 [.d (.sl (s.Body.map GStmt.enc))] (iD (wI (sizeSs s.Body)))∧Pure prog 15 [.d (.sl (s.Else.map GStmt.enc))] (iD (wI (sizeSs s.Else))):=by
    intro s hs
    have hw:=hl s hs
    have h1:=List.sizeOf_lt_of_mem hs
    have h2:=GStmt.lt_body s
    have h3:=GStmt.lt_else s
    exact⟨ih s.Body (GStmt.wf_Body hw) (GStmt.wl_Body hw) (by omega),ih s.Else (GStmt.wf_Else hw) (GStmt.wl_Else hw) (by omega)⟩
   refine rn func15 ?_;simp [f15]
   refine AWP.loopL [3,6,7,8] l (fun pre=> [(3,iD (wI (sizeSs pre))),(8,iD pre.length)]) (fun _=> []) (fun _=>True) (by rfl) (by omega) (by simp [sizeSs,wI_eq]) ?_ ?_
   ·rintro pre s post hsp-hlt hge a4
    obtain⟨c1,c2⟩:=hsub s (by rw [hsp];simp)
    have hsn:=sizeSs_snoc pre s
    rw [sizeS_eq]at hsn
    have d1:=c1.ok
    have d2:=c2.ok
    clear hsp
    simp [hlt,hge]
    intro bs
    refine AWP.regionT [some (0,0),some (0,0),some (0,0),some (0,0),some (0,0),some (0,0),some (0,0),some (0,0),some (0,0),some (0,0),some (0,0)] [16,20,21] [iD (wI (sizeSs s.Body)),iD (wI (1+wI (sizeSs s.Body))),iD (wI (sizeSs s.Else)),iD (wI (wI (1+wI (sizeSs s.Body))+wI (sizeSs s.Else))),iD (wI (wI (sizeSs pre)+wI (wI (1+wI (sizeSs s.Body))+wI (sizeSs s.Else))))] tmix (by kernel_rfl) ?_
    simp [d1,d2,a4,hsn]
    refine⟨yop_addw rfl rfl ⟨rfl,rfl⟩,yop_addw rfl rfl ⟨rfl,rfl⟩,yop_addw rfl rfl ⟨rfl,rfl⟩,?_⟩
    rw [wI_r 1,wI_l (1+_),wI_r (1+_),wI_l,wI_r]
   ·intro _
    simp
end Go.Ab
namespace Go.Ab
open Go.Proofs Go.Proofs.Tryz
set_option maxHeartbeats 4000000
set_option maxRecDepth 20000
def awT:GTables:={GTables.zero with Texts:=[⟨#[]⟩],Flags:=4,Things:=[{GThing.zero with Text:= -1},{GThing.zero with Text:= -1,Parent:=2},{GThing.zero with Text:= -1,Room:=true}],Acts:=[⟨false,[[⟨1,[⟨#[120]⟩]⟩]]⟩],Deeds:=[⟨0,2,-1,-1,-1,0⟩],Params:=[0],Locals:=[0]}
def awS:GStmt:= .mk 13 0 ⟨#[]⟩ [] [] []
def awB:GBook:=⟨awT,[[awS]]⟩
def awB2:GBook:=⟨{awT with Deeds:=[]},[[awS]]⟩
def awG:GStory:=⟨awT,[0],[148,112]⟩
theorem aw_story:storyM awB=(awG,0):=by kernel_rfl
theorem aw_story2:storyM awB2=(GStory.zero,18):=by kernel_rfl
theorem aw_right2:rightBookB awB2=false:=by kernel_rfl
theorem awT_wf:awT.wf:=by
 unfold awT GTables.wf
 simp [GTables.zero,GThing.wf,GThing.zero,GAct.wf,GSlot.wf,GDeed.wf,inR_i64]
 try decide
theorem awS_wf:awS.wf:=by
 unfold awS GStmt.wf
 simp [GExpr.wfs,GStmt.wfs,inR_i64]
 try decide
theorem awB_wf:awB.wf:=by
 unfold awB GBook.wf
 refine⟨awT_wf,by decide,?_⟩
 intro l hl
 simp at hl
 subst hl
 refine⟨by decide,?_⟩
 intro y hy
 simp at hy
 subst hy
 exact awS_wf
theorem awT2_wf:({awT with Deeds:=[]}:GTables).wf:=by
 unfold awT GTables.wf
 simp [GTables.zero,GThing.wf,GThing.zero,GAct.wf,GSlot.wf,GDeed.wf,inR_i64]
 try decide
theorem awB2_wf:awB2.wf:=by
 unfold awB2 GBook.wf
 refine⟨awT2_wf,by decide,?_⟩
 intro l hl
 simp at hl
 subst hl
 refine⟨by decide,?_⟩
 intro y hy
 simp at hy
 subst hy
 exact awS_wf
theorem aw_wblock:WBlock [awS]∧szB [awS]≤30000000:=by
 refine⟨wBlock_ok (t:=awT) (locals:=0) iW ?_ (by decide) (by kernel_rfl),by decide+kernel⟩
 intro y hy
 simp at hy
 subst hy
 exact awS_wf
def awThing(p:Int) (r:Bool):List D:=[.v (.int .i64 0),.v (.int .i64 (-1)),.v (.int .i64 p),.v (.int .i64 0),.v (.bool r),.v (.slice none 0 0),.v (.slice none 0 0),.v (.slice none 0 0),.v (.slice none 0 0)]
def awSlot:List D:=[.v (.int .i64 1),.sl [[.v (.string ⟨#[120]⟩)]]]
def awY:List D:=[.v (.int .i64 13),.v (.int .i64 0),.v (.string ⟨#[]⟩),.v (.slice none 0 0),.v (.slice none 0 0),.v (.slice none 0 0)]
end Go.Ab
namespace Go.Ab
open Go.Proofs Go.Proofs.Tryz
set_option maxHeartbeats 4000000
set_option maxRecDepth 20000
theorem sameI_ok(a:List Int) (ha:a.length≤100000000000000):Pure prog 11 [.d (.sl (encI a)),.d (.sl (encI a))] (oD true):=by
 refine rn func11 ?_;simp [-cB,f11]
 refine AWP.loopS [0,1,12,13] a.length (fun i=> [(13,iD i)]) (fun _=> []) (fun _=>True) (by rfl) (by simp) ?_
 intro i hi _
 rcases Nat.lt_or_eq_of_le hi with hlt | heq
 ·have h64:inR .i64 ((i:Int)+1):=iW
  have hlt':(i:Int) < a.length:=by omega
  simp [-cB,hlt,hlt']
  refine AWP.regionD [] tmix (by kernel_rfl) (by rfl) ?_
  simp [hlt,hlt',h64]
 ·simp [heq]
theorem sameT_ok(a:List ByteArray) (ha:a.length≤100000000000000):Pure prog 14 [.d (.sl (encS a)),.d (.sl (encS a))] (oD true):=by
 refine rn func14 ?_;simp [-cB,f14]
 refine AWP.loopS [0,1,12,13] a.length (fun i=> [(13,iD i)]) (fun _=> []) (fun _=>True) (by rfl) (by simp) ?_
 intro i hi _
 rcases Nat.lt_or_eq_of_le hi with hlt | heq
 ·have h64:inR .i64 ((i:Int)+1):=iW
  have hlt':(i:Int) < a.length:=by omega
  simp [-cB,hlt,hlt']
  refine AWP.regionD [] tmix (by kernel_rfl) (by rfl) ?_
  simp [hlt,hlt',h64]
 ·simp [heq]
def sumS(ls:List (List GStmt)):Int:=wI ((ls.map sizeSs).sum:Nat)
def lightB(b:GBook):Bool:=decide (sumS b.Routines≤3000) && decide (b.Routines.length≤60)
theorem light_ok(b:GBook) (hb:b.wf):Pure prog 5 [.agg (b.enc.map .d)] (oD (lightB b)):=by
 have hlen:=GBook.wl_Routines hb
 refine rn func5 ?_;simp [-cB,Tryz.f5]
 intro bs
 refine AWP.loopL [1,3,7,8,9] b.Routines (fun pre=> [(3,iD (sumS pre)),(9,iD pre.length)]) (fun _=> []) (fun _=>True) (by rfl) (by omega) (by simp [sumS,wI_eq]) ?_ ?_
 ·rintro pre l post hsp-hlt hge a4
  have hw:l.length *104≤140737488351232∧∀y∈l,y.wf:=hb.2.2 l (by rw [hsp];simp)
  have hS:=sizeW_ok l hw.2 hw.1
  have hs:sumS (pre++ [l])=wI (sumS pre+wI (sizeSs l)):=by unfold sumS;rw [wI_l,wI_r];simp
  clear hsp
  simp [-cB,hlt,hge]
  refine AOps.quietT rfl (by simp) (OpT.call rfl rfl hS.en hS.on hS.rn hS.calls) ?_
  refine AOps.quietT rfl (by simp) (opt_addw rfl ⟨rfl,rfl⟩) (runC_sound _ _ [] rfl fun bs=>?_)
  simp [-cB,a4,hs]
 ·intro _
  have hd:decide ((b.Routines.length:Int)≤60)=decide (b.Routines.length≤60):=by
   rw [Bool.eq_iff_iff,decide_eq_true_eq,decide_eq_true_eq];omega
  simp [-cB]
  unfold lightB
  rw [hd]
theorem aw_s1:Pure prog 9 [.agg (awB.enc.map .d)] (.tup [.agg (awG.enc.map .d),iD 0]):=by
 have h:=lStory_ok awB awB_wf fun _ l hl=>by simp [awB]at hl;rw [hl];exact aw_wblock
 rw [aw_story]at h
 exact h
theorem aw_s2:Pure prog 9 [.agg (awB2.enc.map .d)] (.tup [.agg (GStory.zero.enc.map .d),iD 18]):=by
 have h:=lStory_ok awB2 awB2_wf fun _ l hl=>by simp [awB2]at hl;rw [hl];exact aw_wblock
 rw [aw_story2]at h
 exact h
theorem aw_r2:Pure prog 7 [.agg (awB2.enc.map .d)] (oD false):=by
 have h:=lRight_ok awB2 awB2_wf
 rw [aw_right2]at h
 exact h
theorem awake41_ok:Pure prog 6 [] (oD true):=by
 refine Pure.runA func6 rfl (by simp [Tryz.f6]) ?_
 simp only [Tryz.f6]
 refine AWP.seqK ?_
 simp [-cB]
 refine AWP.seqK ?_
 simp [-cB]
 intro bs
 refine AWP.weaken (Wk.pick [1] [21,20,19,17,15,14,12,11,7,1] (by rfl) (by decide) (by rfl)) ?_
 refine AWP.weaken (Wk.freeze 12 (ys:=[[.v (.string ⟨#[120]⟩)]]) rfl) ?_
 refine AWP.weaken (Wk.freeze 14 (ys:=[awSlot]) rfl) ?_
 refine AWP.weaken (Wk.freeze 15 (ys:=[[.sl [awSlot]]]) rfl) ?_
 refine AWP.weaken (Wk.freeze 17 (ys:=[[.v (.bool false),.sl [[.sl [awSlot]]]]]) rfl) ?_
 refine AWP.weaken (Wk.freeze 7 (ys:=[[.v (.string ⟨#[]⟩)]]) rfl) ?_
 refine AWP.weaken (Wk.freeze 11 (ys:=[awThing 0 false,awThing 2 false,awThing 0 true]) rfl) ?_
 refine AWP.weaken (Wk.freeze 19 (ys:=[GDeed.enc ⟨0,2,-1,-1,-1,0⟩]) rfl) ?_
 refine AWP.weaken (Wk.freeze 20 (ys:=[[.v (.int .i64 0)]]) rfl) ?_
 refine AWP.weaken (Wk.freeze 21 (ys:=[[.v (.int .i64 0)]]) rfl) ?_
 refine AWP.weaken (s':=⟨[(1,.bp 1 0)],[(1,.box (bs 9+1) 28 (awT.enc.map .d))]⟩) (Wk.deep 8 (by rfl)) ?_
 refine AWP.seqK ?_
 simp [-cB]
 intro bs2
 refine AWP.weaken (Wk.pick [2] [26,25,2] (by rfl) (by decide) (by rfl)) ?_
 refine AWP.weaken (Wk.freeze 25 (ys:=[awY]) rfl) ?_
 refine AWP.weaken (Wk.freeze 26 (ys:=[[.sl [awY]]]) rfl) ?_
 refine AWP.weaken (s':=⟨[(2,.bp 2 0)],[(2,.box (bs2 2+1) 31 (awB.enc.map .d))]⟩) (Wk.deep 4 (by rfl)) ?_
 refine AWP.seqK ?_
 simp [-cB]
 refine pC aw_s1 ?_
 simp [-cB]
 intro bs3
 refine AWP.seqK ?_
 simp [-cB]
 refine AWP.weaken (s':=⟨[(2,.bp 2 0),(3,.bp 3 0),(4,iD 0)],[(3,.box (bs3 0+1) 36 (awG.enc.map .d)),(2,.box (bs2 2+1) 31 (awB2.enc.map .d))]⟩) ((Wk.pick [2,3,4] [3,2] (by rfl) (by decide) (by rfl)).trans (Wk.deep 4 (by rfl))) ?_
 refine AWP.seqK ?_
 simp [-cB]
 refine pC aw_s2 ?_
 simp [-cB]
 intro bs4
 refine AWP.seq (AWP.regionS ?_)
 refine AOps.stop 5 [] (by rfl) ?_
 simp [-cB]
 refine AOps.bytesG (l:=[148,112]) (src:=34) (dst:=9) (e:=5) rfl (by rfl) (by simp) ⟨by kernel_rfl,by kernel_rfl,by kernel_rfl⟩ (fun _=>by rfl) (by simp) ?_
 refine AOps.stop 1 [] (by rfl) ?_
 simp [-cB]
 refine AOps.weaken (Wk.freeze 46 (ys:=encY [148,112]) (by rfl)) ?_
 refine AOps.bytesG (l:=[148,112]) (src:=34) (dst:=9) (e:=5) rfl (by rfl) (by simp) ⟨by kernel_rfl,by kernel_rfl,by kernel_rfl⟩ (fun _=>by rfl) (by simp) ?_
 refine AOps.stop 6 [] (by rfl) ?_
 simp [-cB]
 refine AOps.weaken (Wk.freeze 53 (ys:=encI [0]) (by rfl)) ?_
 have hI:=sameI_ok [0] (by simp)
 refine AOps.pureG rfl (fun h=>hI) rfl (by first | rfl | (simp;done) | (simp;rfl)) (by simp) (by simp) rfl ?_
 simp [-cB]
 refine AOps.pureG rfl (fun h=>aw_r2) rfl (by first | rfl | (simp;done) | (simp;rfl)) (by simp) (by simp) rfl ?_
 simp [-cB]
 refine AWP.ofK ?_
 simp [-cB]
theorem linkRight_ok(b:GBook) (hb:b.wf):Pure prog 3 [.agg (b.enc.map .d)] (oD true):=by
 have hL:=light_ok b hb
 have hR:=lRight_ok b hb
 have hF:=rightBook_ok b hb
 have hA:=awake41_ok
 generalize lightB b=g at *
 generalize rightBookB b=r at *
 have hF2:Pure prog 8 [.agg (b.enc.map .d)] (oD r):=by
  refine rn func8 ?_;simp [-cB,Tryz.f8]
  intro bs
  refine pC hF ?_
  simp [-cB]
 refine rn func3 ?_;simp [-cB,Tryz.f3]
 intro bs
 refine pC hL ?_
 cases g with
 | false=>
   simp [-cB]
   refine pC hA ?_
   simp [-cB]
 | true=>
   simp [-cB]
   have h1:=hR.ok
   have h2:=hF2.ok
   have h3:=hA.ok
   refine AWP.regionD [oD r,oD r,oD true] tmix (by kernel_rfl) (by rfl) ?_
   simp [-cB,h1,h2,h3]
end Go.Ab
namespace Go.Ab
open Go.Proofs Go.Proofs.Tryz
set_option maxRecDepth 40000
set_option maxHeartbeats 4000000
theorem szB_bulk:∀(N:Nat) (l:List GStmt),SizeOf.sizeOf l < N→szB l≤bDss (l.map GStmt.enc):=by
 have hE:∀(N:Nat) (l:List GExpr),SizeOf.sizeOf l < N→szEs l≤bDss (l.map GExpr.enc):=by
  intro N
  induction N with
  | zero=>intro l h;omega
  | succ N ih=>
    intro l h
    cases l with
    | nil=>simp [szEs]
    | cons x l=>
      have hl:SizeOf.sizeOf l < N:=by simp only [List.cons.sizeOf_spec]at h;omega
      have hx:SizeOf.sizeOf x < N:=by simp only [List.cons.sizeOf_spec]at h;omega
      have h1:=ih l hl
      have h2:=ih x.Args (by cases x;simp only [GExpr.Args_mk];simp only [GExpr.mk.sizeOf_spec]at hx;omega)
      have h3:bDs x.enc=bD (.v (.int .i64 x.Kind))+(bD (.v (.int .i64 x.Op))+(bD (.v (.int .i64 x.Num))+(bD (.v (.string x.Name))+(bD (.sl (x.Args.map GExpr.enc))+0)))):=by
       cases x;simp [GExpr.enc,GExpr.encs_eq,bDs]
      rw [szEs,szE_eq,List.map_cons,bDss,h3]
      simp only [bD]
      omega
 intro N
 induction N with
 | zero=>intro l h;omega
 | succ N ih=>
   intro l h
   cases l with
   | nil=>simp [szB]
   | cons s l=>
     have hl:SizeOf.sizeOf l < N:=by simp only [List.cons.sizeOf_spec]at h;omega
     have hs:SizeOf.sizeOf s < N:=by simp only [List.cons.sizeOf_spec]at h;omega
     have hb:=GStmt.lt_body s
     have he:=GStmt.lt_else s
     have h1:=ih l hl
     have h2:=ih s.Body (by omega)
     have h3:=ih s.Else (by omega)
     have h4:=hE _ s.Args (Nat.lt_succ_self _)
     have h5:bDs s.enc=bD (.v (.int .i64 s.Kind))+(bD (.v (.int .i64 s.Num))+(bD (.v (.string s.Name))+(bD (.sl (s.Args.map GExpr.enc))+(bD (.sl (s.Body.map GStmt.enc))+(bD (.sl (s.Else.map GStmt.enc))+0))))):=by
      cases s;simp [GStmt.enc,GStmt.encs_eq,bDs]
     rw [szB,szS_eq,List.map_cons,bDss,h5]
     simp only [bD]
     omega
end Go.Ab
namespace Go.Ab
open Go.Proofs Go.Proofs.Tryz
set_option maxHeartbeats 4000000
set_option maxRecDepth 20000
theorem rw_of {b:GBook} (hb:b.wf) (h:rightBookB b=true) (hz:∀l∈b.Routines,szB l≤30000000):∀l∈b.Routines,(RBlock l∧szB l≤30000000)∧WBlock l∧szB l≤30000000:=by
 intro l hl
 unfold rightBookB at h
 simp only [Bool.and_eq_true,decide_eq_true_eq,List.all_eq_true]at h
 obtain⟨⟨h1,h2⟩,h3⟩:=h
 obtain⟨k,hk,hkl⟩:=List.getElem_of_mem hl
 have hg:=h3 k (by simpa using hk)
 unfold goodR at hg
 simp only [Bool.and_eq_true]at hg
 have hb1:=hg.1.1.2
 rw [List.getElem?_eq_getElem hk,hkl]at hb1
 have ht:=GBook.wf_Tables hb
 have hw:l.length *104≤140737488351232∧∀y∈l,y.wf:=hb.2.2 l hl
 have hlo:inR .i64 (b.Tables.Locals[k]?.getD 0):=by
  cases hL:b.Tables.Locals[k]? with
  | none=>rw [inR_i64];simp
  | some y=>exact GTables.wf_Locals ht y (List.mem_of_getElem? hL)
 exact⟨⟨refBlock_ok (t:=b.Tables) (locals:=b.Tables.Locals[k]?.getD 0) hlo hw.2 hw.1 hb1,hz l hl⟩,wBlock_ok (t:=b.Tables) (locals:=b.Tables.Locals[k]?.getD 0) hlo hw.2 hw.1 hb1,hz l hl⟩
theorem linkTells_ok(b:GBook) (i:Int) (hb:b.wf) (hz:∀l∈b.Routines,szB l≤30000000):Pure prog 4 [.agg (b.enc.map .d),iD i] (oD true):=by
 have hL:=light_ok b hb
 have hS:=lStory_ok b hb fun h l hl=>(rw_of hb h hz l hl).2
 have hU:=storyOf_ok b hb fun h l hl=>(rw_of hb h hz l hl).1
 have hA:=awake41_ok
 have hU2:Pure prog 10 [.agg (b.enc.map .d)] (.tup [.agg ((storyM b).1.enc.map .d),iD (storyM b).2]):=by
  refine rn func10 ?_;simp [-cB,f10]
  intro bs
  refine pC hU ?_
  simp [-cB]
 have hRb:(storyM b).2=0→rightBookB b=true:=by
  intro h
  unfold storyM at h
  split at h
  ·simp at h
  ·rename_i h2;simpa using h2
 have hE:(storyM b).1.Entry.length≤100000000000000:=by
  have hn:=GBook.wl_Routines hb
  have hl:∀k,(stM b k).1.length=k:=by
   intro k
   induction k with
   | zero=>rfl
   | succ k ih=>rw [stM];simp [ih]
  unfold storyM
  split
  ·simp [GStory.zero]
  ·split
   ·simp [GStory.zero]
   ·split
    ·simp [GStory.zero]
    ·simp only [hl];omega
 have hT:(storyM b).2=0→(storyM b).1.Tables=b.Tables:=by
  intro h
  unfold storyM at h ⊢
  split at h
  ·simp at h
  ·rename_i h1
   split at h
   ·rename_i h2;exact absurd h h2
   ·rename_i h2
    split at h
    ·simp at h
    ·rename_i h3;rw [if_neg h1,if_neg h2,if_neg h3]
 have hT0:(storyM b).2≠0→(storyM b).1=GStory.zero:=by
  intro h
  unfold storyM at h ⊢
  split
  ·rfl
  ·rename_i h1
   split
   ·rfl
   ·rename_i h2
    split
    ·rfl
    ·rename_i h3;rw [if_neg h1,if_neg h2,if_neg h3]at h;exact absurd rfl h
 have hC:rightBookB b=true→Pure prog 12 [.agg (b.enc.map .d),iD i] (.tup [bytD (codeM b i).1,iD (codeM b i).2]):=fun h=>lCode_ok b hb (fun l hl=>(rw_of hb h hz l hl).2) i
 have hD:rightBookB b=true→Pure prog 13 [.agg (b.enc.map .d),iD i] (.tup [bytD (codeM b i).1,iD (codeM b i).2]):=by
  intro h
  have hc:=codeOf_ok b hb (fun l hl=>(rw_of hb h hz l hl).1) i
  refine rn func13 ?_;simp [-cB,f13]
  intro bs
  refine pC hc ?_
  simp [-cB]
 have hEq:=sameI_ok (storyM b).1.Entry hE
 have hTq:=sameT_ok b.Tables.Texts (by have:=GTables.wl_Texts hb.1;omega)
 generalize codeM b i=c at *
 generalize lightB b=g at *
 generalize storyM b=S at *
 obtain⟨G,e⟩:=S
 simp only at hRb hE hT hT0 hEq hS hU2
 clear hU
 refine Pure.runA func4 rfl (by simp [Tryz.f4]) ?_
 simp only [Tryz.f4]
 refine AWP.seqK ?_
 simp [-cB]
 intro bs
 refine AWP.seqK ?_
 simp [-cB]
 refine pC hL ?_
 cases g with
 | false=>
   simp [-cB]
   refine pC hA ?_
   simp [-cB]
 | true=>
   simp [-cB]
   refine AWP.seqK ?_
   simp [-cB]
   refine pC hS ?_
   simp [-cB]
   intro bs2
   refine AWP.seqK ?_
   simp [-cB]
   refine pC hU2 ?_
   simp [-cB]
   intro bs3
   refine AWP.seqK ?_
   simp [-cB]
   refine AOps.stop 6 [] (by rfl) ?_
   simp [-cB]
   refine AOps.pureG rfl (fun h=>hEq) rfl (by first | rfl | (simp;done) | (simp;rfl)) (by simp) (by simp) rfl ?_
   simp [-cB]
   refine AOps.bytesG (l:=G.Code) (src:=34) (dst:=9) (e:=5) rfl (by rfl) (by simp) ⟨by kernel_rfl,by kernel_rfl,by kernel_rfl⟩ (fun _=>by rfl) (by simp) ?_
   refine AOps.stop 2 [] (by rfl) ?_
   simp [-cB]
   refine AOps.bytesG (l:=G.Code) (src:=34) (dst:=9) (e:=5) rfl (by rfl) (by simp) ⟨by kernel_rfl,by kernel_rfl,by kernel_rfl⟩ (fun _=>by rfl) (by simp) ?_
   refine runC_sound _ _ [] (by rfl) fun bs4=>?_
   simp [-cB]
   refine AWP.seqK ?_
   simp [-cB]
   by_cases h0:e=0
   ·subst h0
    have hC:=hC (hRb rfl)
    have hD:=hD (hRb rfl)
    have hT:=hT rfl
    obtain⟨T,E,C⟩:=G
    simp only at hT
    subst hT
    obtain⟨c1,c2⟩:=c
    simp only at hC hD
    simp [-cB]
    refine AWP.seqK ?_
    simp [-cB]
    refine pC hC ?_
    simp [-cB]
    refine AWP.seqK ?_
    simp [-cB]
    refine pC hD ?_
    simp [-cB]
    refine AWP.seq (AWP.regionS ?_)
    refine AOps.stop 1 [] (by rfl) ?_
    simp [-cB]
    refine AOps.bytes (l:=c1) (src:=34) (dst:=9) (e:=5) rfl rfl (by simp) ⟨by kernel_rfl,by kernel_rfl,by kernel_rfl⟩ rfl ?_
    refine AOps.stop 1 [] (by rfl) ?_
    simp [-cB]
    refine AOps.bytes (l:=c1) (src:=34) (dst:=9) (e:=5) rfl rfl (by simp) ⟨by kernel_rfl,by kernel_rfl,by kernel_rfl⟩ rfl ?_
    refine runC_sound _ _ [] (by rfl) fun bs5=>?_
    simp [-cB]
    refine AOps.pureG rfl (fun h=>hTq) rfl (by first | rfl | (simp;done) | (simp;rfl)) (by simp) (by simp) rfl ?_
    simp [-cB]
    refine AOps.pureG rfl (fun h=>hA) rfl (by first | rfl | (simp;done) | (simp;rfl)) (by simp) (by simp) rfl ?_
    simp [-cB]
    refine AWP.ofK ?_
    simp [-cB]
   ·have hG:=hT0 h0
    subst hG
    have hb0:(e !=0)=true:=by simpa using h0
    simp [-cB,h0,hb0,GStory.zero,GTables.zero]
    refine AOps.pureG rfl (fun h=>hA) rfl (by first | rfl | (simp;done) | (simp;rfl)) (by simp) (by simp) rfl ?_
    simp [-cB]
end Go.Ab
namespace Go.Ab
open Go.Proofs Go.Proofs.Tryz
set_option maxRecDepth 20000
theorem lDss_mem {x:List D}:∀{L:List (List D)},x∈L→bDs x≤bDss L
 | [],h=>by cases h
 | y::L,h=>by
   rw [bDss]
   rcases List.mem_cons.1 h with rfl | h
   ·omega
   ·have:=lDss_mem h;omega
theorem lDs_mem {x:D}:∀{L:List D},x∈L→bD x≤bDs L
 | [],h=>by cases h
 | y::L,h=>by
   rw [bDs]
   rcases List.mem_cons.1 h with rfl | h
   ·omega
   ·have:=lDs_mem h;omega
theorem lRoutines {b:GBook} {r:List (List D)} (hB:bDss (b.enc::r)≤1048576):∀l∈b.Routines,szB l≤30000000:=by
 intro l hl
 have h2:D.sl (encSl (List.map GStmt.enc) b.Routines)∈b.enc:=by simp [GBook.enc]
 have h1:bDs b.enc≤1048576:=by rw [bDss]at hB;omega
 have h3:=lDs_mem h2
 rw [bD]at h3
 have h4:[D.sl (l.map GStmt.enc)]∈encSl (List.map GStmt.enc) b.Routines:=List.mem_map.2 ⟨l,hl,rfl⟩
 have h5:=lDss_mem h4
 simp only [bDs,bD]at h5
 have h6:=szB_bulk _ l (Nat.lt_succ_self _)
 omega
theorem linkTells_up(b:GBook) (hb:b.wf) (i:Int) (hB:bDss [b.enc,[D.v (.int .i64 i)]]≤1048576):Pure prog 4 [.agg (b.enc.map .d),iD i] (oD true):=linkTells_ok b i hb (lRoutines hB)
end Go.Ab

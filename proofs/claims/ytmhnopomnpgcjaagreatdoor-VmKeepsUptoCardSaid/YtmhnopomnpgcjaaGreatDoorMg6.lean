/-
  The texts Vpeep4 Vpeep5 Vasm Vasm2 Lo Vasm3 Vasm4 Vasm5 Vasm6 Vasm7 Vasm8 Gexpr Gwrite Gwexpr Gwlog Gwx Gex Glook Glaw1 Gsfew Gsfew2 Gst Gst2 Gst3 Gst4 Gst5 Gst6 Gst7 Gst8 Gst9 Glaw2 Vbook Gtick Nest4 Bok Lgen Vbook2, one behind the other.
-/
import Derived.Test.YtmhnopomnpgcjaaGreatDoorMg5
set_option linter.unusedSimpArgs false
set_option linter.unusedVariables false
namespace Go.Ab
open Go.Proofs Go.Proofs.Tryz
def vh(l r:List ae):Option (Nat×Nat×List ae):=
 if iz (cr r 0)/\0<ik r.tail then some (1,ik r.tail,[])
 else if cr r 0=24\/cr r 0=25 then
  (if cr r 0=24/\(r.tail.takeWhile bl).any (λi=>decide (i.Arg=bg r 0))=true then some (0,1,[])
   else(rL l r).map λx=>(0,1,x))
 else none
def sn(l:List ae)(k:Nat):Option (List ae):=(vh l (l.drop k)).map λy=>il l (k+y.1) y.2.1 y.2.2
theorem VA{l n}:(uf l n= -1/\after l n=none)\/(∃p:Nat,p<l.length/\uf l n=p/\after l n=some (l.drop (p+1))/\bl (l[p]?.getD ae.zero)=true):=by
 induction l with
 | nil=>exact Or.inl ⟨rfl,rfl⟩
 | cons i l ih=>
   unfold uf after;rw[List.findIdx?_cons];by_cases h:i.Op=38/\i.Arg=n
   ·rw[if_pos (by simp[h]),if_pos h];exact Or.inr ⟨0,by simp,rfl,rfl,by grind[bl]⟩
   ·grind[uf,decide]
theorem AV{α:Type} p(l:List α):l.dropWhile p=l.drop (l.takeWhile p).length:=by
 grind[List.takeWhile_append_dropWhile]
theorem Pr{l:List ae}{p}(h:p<l.length)(hl:bl (l[p]?.getD ae.zero)=true):(l.drop (p+1)).dropWhile bl=l.drop (p+((l.drop p).takeWhile bl).length):=by
 rw[AV,aqW];have e:=arD h;rw[e,aqw,if_pos (by grind)];grind
theorem AW{α:Type}{p}:∀{l:List α} {x r},l.dropWhile p=x::r->p x=false
 | [],x,r,h=>by simp at h
 | y::l,x,r,h=>by
   rw[arJ]at h;split at h
   ·exact AW h
   ·rename_i hy;simp at h;rw[<-h.1];simpa using hy
theorem Cb(l:List ae) k(hk:k<=l.length):k+ik (l.drop k)<=l.length/\(∀i,i<ik (l.drop k)->k+i<l.length/\¬(l[k+i]?.getD ae.zero).Op=38)/\(k+ik (l.drop k)<l.length->(l[k+ik (l.drop k)]?.getD ae.zero).Op=38):=by
 have h:=qZ (λi=>!bl i) (l.drop k);have hlen:=congrArg List.length h;have hle:ik (l.drop k)<=l.length-k:=by grind[ik]
 refine⟨by omega,λi hi=>?_,λay=>?_⟩
 ·have h1:=by omega
  have h2:=mJ (λi=>!bl i) (l.drop k);have h3:(l.drop k)[i]?=((l.drop k).takeWhile λi=>!bl i)[i]?:=by
   conv=>lhs;rw[h]
   rw[aqx hi]
  grind[List.getElem_mem,bl,List.getElem?_eq_getElem,Bool.not_eq_true',decide_eq_false_iff_not,of_decide_eq_false]
 ·have h5:=AV (λi=>!bl i) (l.drop k);have h6:(l.drop k).dropWhile (λi=>!bl i)=l.drop (k+ik (l.drop k)):=by rw[h5,aqW];rfl
  have h7:=arD ay;rw[h7]at h6;have h8:=AW h6;rw[anc ay];simp[bl,ar6,decide_eq_true_eq]at h8;exact h8
theorem Em(l:List ae) k(hk:k<=l.length):k+((l.drop k).takeWhile bl).length<=l.length/\(∀i h,k+i<l.length/\((l.drop k).takeWhile bl)[i]=l[k+i]?.getD ae.zero):=by
 have h:=qZ bl (l.drop k);have hlen:=congrArg List.length h;rw[apX,ash,ash,ash]at hlen;refine⟨by omega,λi hi=>?_⟩;have h3:(l.drop k)[i]?=((l.drop k).takeWhile bl)[i]?:=by
  grind
 grind
set_option maxHeartbeats 4000000 in
theorem YK(l:List ae)(hl:l.length<=10000000000)(k:Nat)(hk:k<l.length)(o0:Int)(ho:cr (l.drop k) 0=o0)(hj:o0=24/\ik (l.drop (k+1))=0\/o0=25):Pure prog 267 [du l,iD k] (eF l (sn l k)):=by
 have dx:=λn=>AU l (by omega) n
 have e0:=Ft l k;obtain⟨R,hR⟩:∃R,eF l (sn l k)=R:=⟨_,rfl⟩
 have v8:V.on [] R=true:=by rw[<-hR];rfl
 rw[hR];have i1:aN .i64 ((k:Int)+1):=iW;have b0:(l[k]?.getD ae.zero).Arg=bg (l.drop k) 0:=jr l k 0;have LR:(l[k]'hk).Arg=bg (l.drop k) 0:=by have:=jr l k 0;rw[<-this];simp[hk]
 have AI:(l.drop k).tail=l.drop (k+1):=by rw[List.tail_drop]
 have tA:∀x:List ae,x.length<=1000->Pure prog 270 [du l,iD k,iD 1,du x] (du (il l k 1 x)):=λx hx=>qG l (by omega) k 1 (by omega) x (by omega)
 have El:Pure prog 270 [du l,iD k,iD 1,.d (.v (.slice none 0 0))] (du (il l k 1 [])):=(tA [] (by simp)).deep 0 (by rfl) (by rfl);have rF:Pure prog 290 [du l,iD ((k:Int)+1)] (iD (((k+1:Nat)+((l.drop (k+1)).takeWhile bl).length:Nat):Int)):=vg l (by omega) (k+1) (by omega);rw[ho]at e0;obtain⟨D,hD⟩:∃D,ik (l.drop (k+1))=D:=⟨_,rfl⟩
 have IP:=Cb l (k+1) (by omega);rw[hD]at IP hj;obtain⟨CD,zc,kB⟩:=IP;have En:vh l (l.drop k)=(if iz o0/\0<D then some (1,D,[])else if o0=24\/o0=25 then
  (if o0=24/\((l.drop (k+1)).takeWhile bl).any (λi=>decide (i.Arg=bg (l.drop k) 0))=true then some (0,1,[])
   else(rL l (l.drop k)).map λx=>(0,1,x))else none):=by
  unfold vh;rw[ho,AI,hD]
 obtain⟨T,hT⟩:∃T,(l.drop (k+1)).takeWhile bl=T:=⟨_,rfl⟩
 rw[hT]at En rF;have YL:=Em l (k+1) (by omega);rw[hT]at YL;obtain⟨ht0,HY⟩:=YL;have hwh:=IY l (by omega) (bg (l.drop k) 0);have hbq:=λ(p:Nat) (hp:p<=l.length)=>vg l (by omega) p hp
 have kg:¬(iz o0/\0<D):=by
  rcases hj with h|h
  ·omega
  ·unfold iz;omega
 have we:sn l k=if o0=24/\T.any (λi=>decide (i.Arg=bg (l.drop k) 0))=true then some (il l k 1 [])else(rL l (l.drop k)).map λx=>il l k 1 x:=by
  unfold sn;rw[En,if_neg kg,if_pos (by omega)];split
  ·rfl
  ·rw[Option.map_map];rfl
 clear En;obtain⟨M,hM⟩:∃M,T.findIdx (λi=>decide (i.Arg=bg (l.drop k) 0))=M:=⟨_,rfl⟩
 have hM1:o0=24->∀j (h:j<M),∃h2:j<T.length,(T[j]'h2).Arg≠bg (l.drop k) 0:=by
  intro _ j hj;have h1:M<=T.length:=by rw[<-hM];exact List.findIdx_le_length
  refine⟨by omega,?_⟩;have:=List.not_of_lt_findIdx (p:=λi:ae=>decide (i.Arg=bg (l.drop k) 0)) (xs:=T) (i:=j) (by rw[hM];exact hj);simpa using this
 have hM2:o0=24->∀(h:M<T.length),(T[M]'h).Arg=bg (l.drop k) 0:=by
  intro _ h;have h2:T.findIdx (λi=>decide (i.Arg=bg (l.drop k) 0))<T.length:=by rw[hM];exact h
  have:=List.findIdx_getElem (p:=λi:ae=>decide (i.Arg=bg (l.drop k) 0)) (xs:=T) (w:=h2);simp only[hM]at this;simpa using this
 have aoX:M<=T.length:=by rw[<-hM];exact List.findIdx_le_length
 have hM4:o0=24->(M<T.length->T.any (λi=>decide (i.Arg=bg (l.drop k) 0))=true)/\(T.any (λi=>decide (i.Arg=bg (l.drop k) 0))=true->M<T.length):=by
  intro _;rw[<-hM,List.findIdx_lt_length];simp
 refine Pure.run func267 rfl (by simp[f267,v8]) ?_;simp[-cB,f267,v8]
 repeat' (first
  | (with_reducible refine And.intro ?_ ?_)
  | ((first|(refine aA (λh=>?_) (λh=>?_)<;>(try simp at h))|refine pC (dx _) ?_|refine pC rF ?_|refine lC (dx _) ?_|refine lC rF ?_|refine pG (dx _) ?_|refine pG rF ?_)<;>(try simp[-cB, *]))
  | (with_reducible intro _))
 all_goals (try (exfalso;omega))
 refine aw.cX [0,1,6,7] 0 (λi=> [(7,iD ((k+1+i:Nat):Int))]) (λ_=> []) (λ_=>True) (by rfl) (by simp) ?_;intro i hi _;obtain rfl:i=0:=by omega
 have hD0:D=0:=by omega
 have I0:((k:Int)+1).toNat=k+1:=by omega
 have j0:0<=(k:Int)+1:=by omega
 have fe:o0=24:=by omega
 by_cases hx:k+1<l.length;have Gh:=kB (by omega);rw[hD0]at Gh;have j6:(l[k+1]'hx).Op=38:=by rw[aqS,anc hx]at Gh;exact Gh
 have Ps:(k:Int)+1<l.length:=by omega
 have YM:((l[k+1]'hx).Op !=38)=false:=by simp[j6]
 simp[-cB,j0,I0,Ps,hx,YM,i1,fe];refine pC rF ?_;simp[-cB,i1]
 rotate_left
 have Ps:¬(k:Int)+1<l.length:=by omega
 simp[-cB,j0,I0,Ps,hx,i1,fe];refine pC rF ?_;simp[-cB,i1]
 rotate_left
 refine aw.cX [0,1,6,8,9] 0 (λi=> [(9,iD ((k+1+i:Nat):Int))]) (λ_=> []) (λ_=>True) (by rfl) (by simp) ?_;intro i2 FU _;obtain rfl:i2=0:=by omega
 have gL:o0=25:=by omega
 have VB:¬(o0=24/\T.any (λi=>decide (i.Arg=bg (l.drop k) 0))=true):=by omega
 rw[if_neg VB]at we;simp[-cB,gL]
 rotate_left
 iterate 2
  refine aw.cX [0,1,6,8,9] M (λi=> [(9,iD ((k+1+i:Nat):Int))]) (λ_=> []) (λ_=>True) (by rfl) (by simp) ?_;intro i2 FU _;have q1:((k:Int)+1+i2).toNat=k+1+i2:=by omega
  have q0:0<=(k:Int)+1+i2:=by omega
  have q2:aN .i64 ((k:Int)+1+i2+1):=iW;rcases apW FU with pF|GY
  ·obtain⟨aj9,aka⟩:=hM1 fe i2 pF;have LI:=HY i2 aj9;have q3:((k:Int)+1+i2<(k:Int)+1+T.length):=by omega
   have q4:k+1+i2<l.length:=LI.1;have q5:(l[k+1+i2]'q4).Arg≠bg (l.drop k) 0:=by
    have:=aka;rw[LI.2,anc q4]at this;exact this
   simp[-cB,q0,q1,q2,q3,q4];refine aw.cV [] bc (by kernel_rfl) (by rfl) ?_;simp[-cB,q0,q1,q2,q3,q4,hk,LR,q5];omega
  subst GY;by_cases hMT:i2<T.length
  ·have LI:=HY i2 hMT;have q3:((k:Int)+1+i2<(k:Int)+1+T.length):=by omega
   have q4:k+1+i2<l.length:=LI.1;have q5:(l[k+1+i2]'q4).Arg=bg (l.drop k) 0:=by
    have:=hM2 fe hMT;rw[LI.2,anc q4]at this;exact this
   have yr:T.any (λi=>decide (i.Arg=bg (l.drop k) 0))=true:=(hM4 fe).1 hMT;rw[if_pos ⟨fe,yr⟩]at we;simp[-cB,q0,q1,q2,q3,q4];refine aw.cV [] bc (by kernel_rfl) (by rfl) ?_;simp[-cB,q0,q1,q2,q3,q4,hk,LR,q5];refine pC El ?_;simp[-cB];rw[<-hR,we];simp[eF]
  have VB:¬(o0=24/\T.any (λi=>decide (i.Arg=bg (l.drop k) 0))=true):=λh=>hMT ((hM4 fe).2 h.2)
  rw[if_neg VB]at we;have q3:¬((k:Int)+1+i2<(k:Int)+1+T.length):=by omega
  simp[-cB,q0,q1,q2,q3]
  rotate_left
 all_goals
  simp[-cB,hk,LR];refine pC hwh ?_;simp[-cB];rcases VA (l:=l) (n:=bg (l.drop k) 0)with⟨w1,w2⟩|⟨p,w0,w1,w2,w3⟩
  ·have hf:rL l (l.drop k)=none:=by unfold rL;rw[w2]
   rw[hf]at we;simp[-cB,w1];rw[<-hR,we];simp[eF]
  have w4:¬(p:Int)<0:=by omega
  have hbp:=hbq p (by omega);have tU:=Pr w0 w3;obtain⟨Q,hQ⟩:∃Q,p+((l.drop p).takeWhile bl).length=Q:=⟨_,rfl⟩
  rw[hQ]at hbp tU;have hQl:Q<=l.length:=by
   have:=(Em l p (by omega)).1;omega
  have Pv:=dx (Q:Int);rw[Ft]at Pv;have hf:rL l (l.drop k)=if cr (l.drop Q) 0=24/\bg (l.drop Q) 0≠bg (l.drop k) 0 then some [⟨cr (l.drop k) 0,bg (l.drop Q) 0⟩]else none:=by
   unfold rL;rw[w2];simp only[tU]
  rw[ho]at hf;have I1:=vM (l:=l) (k:=Q) (j:=0);simp only[aqS]at I1;have hbQ:∀h:Q<l.length,(l[Q]'h).Arg=bg (l.drop Q) 0:=λh=>by have:=jr l Q 0;rw[<-this];simp[h]
  simp[-cB,w1,w4];refine pC hbp ?_;simp[-cB];refine aw.cV [iD (cr (l.drop Q) 0)] bc (by kernel_rfl) (by rfl) ?_;by_cases Tk:cr (l.drop Q) 0=24
  ·have qlt:Q<l.length:=I1 (by omega);have agv:=hbQ qlt;rw[Tk]at Pv;by_cases qa:bg (l.drop Q) 0=bg (l.drop k) 0
   ·rw[if_neg (by simp[qa])]at hf;rw[hf]at we;simp[-cB,Pv.ok,agv,hk,LR,Tk,qa,qlt];rw[<-hR,we];simp[eF]
   ·rw[if_pos ⟨Tk,qa⟩]at hf;rw[hf]at we;have qab:(bg (l.drop Q) 0 !=bg (l.drop k) 0)=true:=by simpa using qa
    simp[-cB,Pv.ok,agv,hk,LR,Tk,qab,qlt]
    first
     | refine ar.weaken (Wk.freeze 136 (ys:=[(⟨o0,bg (l.drop Q) 0⟩:ae)].map ae.enc) rfl) ?_
     | refine ar.weaken (Wk.freeze 136 (ys:=[(⟨24,bg (l.drop Q) 0⟩:ae)].map ae.enc) rfl) ?_
     | refine ar.weaken (Wk.freeze 136 (ys:=[(⟨25,bg (l.drop Q) 0⟩:ae)].map ae.enc) rfl) ?_
    simp[-cB]
    first
     | refine ar.bA rfl (tA [⟨o0,bg (l.drop Q) 0⟩] (by simp)) rfl rfl (by simp) rfl ?_
     | refine ar.bA rfl (tA [⟨24,bg (l.drop Q) 0⟩] (by simp)) rfl rfl (by simp) rfl ?_
     | refine ar.bA rfl (tA [⟨25,bg (l.drop Q) 0⟩] (by simp)) rfl rfl (by simp) rfl ?_
    simp[-cB];rw[<-hR,we];simp[eF, *]
  ·rw[if_neg (λh=>Tk h.1)]at hf;rw[hf]at we;simp[-cB,Pv.ok,hk,LR,Tk];rw[<-hR,we];simp[eF]
set_option maxHeartbeats 4000000 in
theorem YN(l:List ae)(hl:l.length<=10000000000)(k:Nat)(hk:k<l.length):Pure prog 267 [du l,iD k] (eF l (sn l k)):=by
 have dx:=λn=>AU l (by omega) n
 have e0:=Ft l k;obtain⟨R,hR⟩:∃R,eF l (sn l k)=R:=⟨_,rfl⟩
 have v8:V.on [] R=true:=by rw[<-hR];rfl
 rw[hR];have i1:aN .i64 ((k:Int)+1):=iW;have b0:(l[k]?.getD ae.zero).Arg=bg (l.drop k) 0:=jr l k 0;have LR:(l[k]'hk).Arg=bg (l.drop k) 0:=by have:=jr l k 0;rw[<-this];simp[hk]
 have AI:(l.drop k).tail=l.drop (k+1):=by rw[List.tail_drop]
 have tA:∀x:List ae,x.length<=1000->Pure prog 270 [du l,iD k,iD 1,du x] (du (il l k 1 x)):=λx hx=>qG l (by omega) k 1 (by omega) x (by omega)
 have El:Pure prog 270 [du l,iD k,iD 1,.d (.v (.slice none 0 0))] (du (il l k 1 [])):=(tA [] (by simp)).deep 0 (by rfl) (by rfl);have rF:Pure prog 290 [du l,iD ((k:Int)+1)] (iD (((k+1:Nat)+((l.drop (k+1)).takeWhile bl).length:Nat):Int)):=vg l (by omega) (k+1) (by omega);generalize ho:cr (l.drop k) 0=o0 at *;obtain⟨D,hD⟩:∃D,ik (l.drop (k+1))=D:=⟨_,rfl⟩
 have IP:=Cb l (k+1) (by omega);rw[hD]at IP;obtain⟨CD,zc,kB⟩:=IP;have En:vh l (l.drop k)=(if iz o0/\0<D then some (1,D,[])else if o0=24\/o0=25 then
  (if o0=24/\((l.drop (k+1)).takeWhile bl).any (λi=>decide (i.Arg=bg (l.drop k) 0))=true then some (0,1,[])
   else(rL l (l.drop k)).map λx=>(0,1,x))else none):=by
  unfold vh;rw[ho,AI,hD]
 obtain⟨T,hT⟩:∃T,(l.drop (k+1)).takeWhile bl=T:=⟨_,rfl⟩
 rw[hT]at En rF;have YL:=Em l (k+1) (by omega);rw[hT]at YL;obtain⟨ht0,HY⟩:=YL;have hwh:=IY l (by omega) (bg (l.drop k) 0);have hbq:=λ(p:Nat) (hp:p<=l.length)=>vg l (by omega) p hp
 by_cases Hc:iz o0
 ·have Se:(((o0=24\/o0=27)\/o0=28)\/o0=29)\/o0=30:=by unfold iz at Hc;omega
  by_cases hd:0<D
  ·have oM:R= .bM [du (il l (k+1) D []),oD true]:=by
    rw[<-hR];unfold sn;rw[En,if_pos ⟨Hc,hd⟩];rfl
   have hsw:Pure prog 270 [du l,iD ((k:Int)+1),iD D,.d (.v (.slice none 0 0))] (du (il l (k+1) D [])):=(qG l (by omega) (k+1) D (by omega) [] (by simp)).deep 0 (by rfl) (by rfl);clear hR En;subst oM;refine rn func267 ?_;simp[-cB,f267]
   repeat' (first
    | (with_reducible refine And.intro ?_ ?_)
    | ((first|(refine aA (λh=>?_) (λh=>?_)<;>(try simp at h))|refine pC (dx _) ?_|refine lC (dx _) ?_|refine pG (dx _) ?_)<;>(try simp[-cB, *]))
    | (with_reducible intro _))
   all_goals (try (exfalso;omega))
   refine aw.cX [0,1,6,7] D (λi=> [(7,iD ((k+1+i:Nat):Int))]) (λ_=> []) (λ_=>True) (by rfl) (by simp) ?_;intro i hi _;have j1:((k:Int)+1+i).toNat=k+1+i:=by omega
   have j2:aN .i64 ((k:Int)+1+i+1):=iW;have j0:0<=(k:Int)+1+i:=by omega
   rcases apW hi with ay|heq
   ·have j3:=zc i ay;have j4:(k:Int)+1+i<l.length:=by omega
    have j5:k+1+i<l.length:=by omega
    have j6:¬(l[k+1+i]'j5).Op=38:=by have:=j3.2;rw[anc j5]at this;exact this
    have YM:(l[k+1+i].Op !=38)=true:=by simpa using j6
    simp[-cB,j0,j1,j2,j4,j5,YM];omega
   ·subst heq;have j7:aN .i64 ((k:Int)+1+i-k):=iW;have j8:aN .i64 ((k:Int)+1+i-k-1):=iW;have j9:(k:Int)+1+i-k-1=i:=by omega
    have j10:(k:Int)+1<(k:Int)+1+i:=by omega
    by_cases hx:k+1+i<l.length
    ·have Gh:=kB hx;have I0:(k:Int)+1+i<l.length:=by omega
     have j6:(l[k+1+i]'hx).Op=38:=by rw[anc hx]at Gh;exact Gh
     simp[-cB,j0,j1,I0,hx,j6,i1,j7,j8,j9,j10,hd];refine⟨iW,?_⟩;refine pC hsw ?_;simp
    ·have I0:¬(k:Int)+1+i<l.length:=by omega
     simp[-cB,j0,j1,I0,i1,j7,j8,j9,j10,hd];refine⟨iW,?_⟩;refine pC hsw ?_;simp
  ·-- nothing is left out:a jump goes on,yP others do not
   have hD0:D=0:=by omega
   have kg:¬(iz o0/\0<D):=by omega
   by_cases fe:o0=24
   ·rw[<-hR];exact YK l hl k hk o0 ho (Or.inl ⟨fe,by rw[hD];exact hD0⟩)
   ·have oM:R= .bM [du l,oD false]:=by
     rw[<-hR];unfold sn;rw[En,if_neg kg,if_neg (by omega)];rfl
    clear En hR;subst oM;have gL:¬o0=25:=by omega
    refine rn func267 ?_;simp[-cB,f267]
    repeat' (first
     | (with_reducible refine And.intro ?_ ?_)
     | ((first|(refine aA (λh=>?_) (λh=>?_)<;>(try simp at h))|refine pC (dx _) ?_|refine lC (dx _) ?_|refine pG (dx _) ?_)<;>(try simp[-cB, *]))
     | (with_reducible intro _))
    all_goals (try (exfalso;omega))
    refine aw.cX [0,1,6,7] 0 (λi=> [(7,iD ((k+1+i:Nat):Int))]) (λ_=> []) (λ_=>True) (by rfl) (by simp) ?_;intro i hi _;obtain rfl:i=0:=by omega
    have I0:((k:Int)+1).toNat=k+1:=by omega
    have j0:0<=(k:Int)+1:=by omega
    by_cases hx:k+1<l.length
    ·have Gh:=kB (by omega);rw[hD0]at Gh;have j6:(l[k+1]'hx).Op=38:=by rw[aqS,anc hx]at Gh;exact Gh
     have Ps:(k:Int)+1<l.length:=by omega
     have YM:((l[k+1]'hx).Op !=38)=false:=by simp[j6]
     simp[-cB,j0,I0,Ps,hx,YM,i1];refine aA (λh=>?_) (λh=>?_)
     ·simp
     ·simp at h;omega
    ·have Ps:¬(k:Int)+1<l.length:=by omega
     simp[-cB,j0,I0,Ps,hx,i1];refine aA (λh=>?_) (λh=>?_)
     ·simp
     ·simp at h;omega
 ·have Se:¬((((o0=24\/o0=27)\/o0=28)\/o0=29)\/o0=30):=by unfold iz at Hc;omega
  have kg:¬(iz o0/\0<D):=λh=>Hc h.1
  by_cases gL:o0=25
  ·rw[<-hR];exact YK l hl k hk o0 ho (Or.inr gL)
  ·have oM:R= .bM [du l,oD false]:=by
    rw[<-hR];unfold sn;rw[En,if_neg kg,if_neg (by omega)];rfl
   clear En hR;subst oM;refine rn func267 ?_;simp[-cB,f267]
   repeat' (first
    | (with_reducible refine And.intro ?_ ?_)
    | ((first|(refine aA (λh=>?_) (λh=>?_)<;>(try simp at h))|refine pC (dx _) ?_|refine lC (dx _) ?_|refine pG (dx _) ?_)<;>(try simp[-cB, *]))
    | (with_reducible intro _))
   all_goals (exfalso;omega)
theorem I2 l r:nY l r=match nI r with
 | some y=>some (0,y.1,y.2)
 | none=>match ma r with
   | some y=>some (0,y.1,y.2)
   | none=>match vh l r with
     | some y=>some y
     | none=>if cr r 0=38/\kq l (bg r 0)=false then some (0,1,[])else none:=by
 unfold nY vh;grind
set_option maxHeartbeats 2000000 in
theorem Q4(l:List ae)(hl:l.length<=10000000000)(k:Nat)(hk:k<l.length):Pure prog 237 [du l,iD k] (eF l (iq l k)):=by
 have h1:=MP l (by omega) k (by omega);have h2:=Vz l (by omega) k (by omega);have h3:=YN l hl k hk;have dx:=AU l (by omega) k;rw[Ft]at dx;have LS:=IZ l (by omega) (bg (l.drop k) 0);have LR:(l[k]'hk).Arg=bg (l.drop k) 0:=by have:=jr l k 0;rw[<-this];simp[hk]
 have El:Pure prog 270 [du l,iD k,iD 1,.d (.v (.slice none 0 0))] (du (il l k 1 [])):=(qG l (by omega) k 1 (by omega) [] (by simp)).deep 0 (by rfl) (by rfl);have hB:iq l k=match vf l k with
  | some y=>some y
  | none=>match ug l k with
    | some y=>some y
    | none=>match sn l k with
      | some y=>some y
      | none=>if cr (l.drop k) 0=38/\kq l (bg (l.drop k) 0)=false then some (il l k 1 [])else none:=by
  unfold iq vf ug sn;rw[I2];cases nI (l.drop k)with
  | some y=>rfl
  | none=>
    cases ma (l.drop k)with
    | some y=>rfl
    | none=>
      cases vh l (l.drop k)with
      | some y=>rfl
      | none=>
        simp only[arW];split<;>rfl
 rw[hB];cases hr:vf l k with
 | some y=>
   rw[hr]at h1;unfold eF at h1⊢;refine rn func237 ?_;simp[-cB,f237];refine pC h1 ?_;simp
 | none=>
   rw[hr]at h1;cases YO:ug l k with
   | some y=>
     rw[YO]at h2;unfold eF at h1 h2⊢;refine rn func237 ?_;simp[-cB,f237];refine pC h1 ?_;simp[-cB];refine pC h2 ?_;simp
   | none=>
     rw[YO]at h2;cases hg:sn l k with
     | some y=>
       rw[hg]at h3;unfold eF at h1 h2 h3⊢;refine rn func237 ?_;simp[-cB,f237];refine pC h1 ?_;simp[-cB];refine pC h2 ?_;simp[-cB];refine pC h3 ?_;simp
     | none=>
       rw[hg]at h3;by_cases ed:cr (l.drop k) 0=38
       ·rw[ed]at dx;cases ha:kq l (bg (l.drop k) 0)with
        | true=>
          rw[ha]at LS;unfold eF at h1 h2 h3⊢;simp only[ed,true_and,reduceCtorEq,if_false];refine rn func237 ?_;simp[-cB,f237]
          repeat' (first
           | (with_reducible refine And.intro ?_ ?_)
           | ((first|(refine aA (λh=>?_) (λh=>?_)<;>(try simp at h))|refine pC h1 ?_|refine pC h2 ?_|refine pC h3 ?_|refine pC dx ?_|refine pC LS ?_|refine lC h1 ?_|refine lC h2 ?_|refine lC h3 ?_|refine lC dx ?_|refine lC LS ?_|refine pG h1 ?_|refine pG h2 ?_|refine pG h3 ?_|refine pG dx ?_|refine pG LS ?_)<;>(try simp[-cB, *]))
           | (with_reducible intro _))
        | false=>
          rw[ha]at LS;unfold eF at h1 h2 h3⊢;simp only[ed,true_and,if_true];refine rn func237 ?_;simp[-cB,f237]
          repeat' (first
           | (with_reducible refine And.intro ?_ ?_)
           | ((first|(refine aA (λh=>?_) (λh=>?_)<;>(try simp at h))|refine pC h1 ?_|refine pC h2 ?_|refine pC h3 ?_|refine pC dx ?_|refine pC LS ?_|refine pC El ?_|refine lC h1 ?_|refine lC h2 ?_|refine lC h3 ?_|refine lC dx ?_|refine lC LS ?_|refine lC El ?_|refine pG h1 ?_|refine pG h2 ?_|refine pG h3 ?_|refine pG dx ?_|refine pG LS ?_|refine pG El ?_)<;>(try simp[-cB, *]))
           | (with_reducible intro _))
       ·unfold eF at h1 h2 h3⊢;simp only[ed,false_and,if_false];refine rn func237 ?_;simp[-cB,f237];have Gi:=λn=>IZ l (by omega) n
        repeat' (first
         | (with_reducible refine And.intro ?_ ?_)
         | ((first|(refine aA (λh=>?_) (λh=>?_)<;>(try simp at h))|refine pC h1 ?_|refine pC h2 ?_|refine pC h3 ?_|refine pC dx ?_|refine pC (Gi _) ?_|refine lC h1 ?_|refine lC h2 ?_|refine lC h3 ?_|refine lC dx ?_|refine lC (Gi _) ?_|refine pG h1 ?_|refine pG h2 ?_|refine pG h3 ?_|refine pG dx ?_|refine pG (Gi _) ?_)<;>(try simp[-cB, *]))
         | (with_reducible intro _))
end Go.Ab
namespace Go.Ab
open Go.Proofs Go.Proofs.Tryz
theorem YP{l:List ae}{k n:Nat}{x:List ae}(h:k+n<=l.length)(hx:x.length<=n):(il l k n x).length<=l.length:=by
 unfold il;simp only[apX,aqs,ash];omega
theorem Cc{l:List ae}{k j:Nat}(h:cr (l.drop k) j≠0):k+j<l.length:=vM h
theorem Q5{l:List ae}{k:Nat}{y:Nat×Nat×List ae}(h:nY l (l.drop k)=some y):k+y.1+y.2.1<=l.length/\y.2.2.length<=y.2.1:=by
 rw[I2]at h;cases hr:nI (l.drop k)with
 | some z=>
   rw[hr]at h;simp only[akC]at h;subst h;unfold nI at hr;split at hr
   ·rename_i hc;have:=Cc (l:=l) (k:=k) (j:=2) (by omega);simp only[akC]at hr;subst hr;exact⟨by simp only;omega,by simp[jJ]⟩
   ·split at hr
    ·cases hr
    ·have h1:cr (l.drop k) 1≠0->k+1<l.length:=Cc;split at hr
     ·simp only[akC]at hr;subst hr;exact⟨by simp only;omega,by simp[jJ]⟩
     ·split at hr
      ·simp only[akC]at hr;subst hr;exact⟨by simp only;omega,by simp[jJ]⟩
      ·split at hr
       ·simp only[akC]at hr;subst hr;exact⟨by simp only;omega,by simp[jJ]⟩
       ·cases hr
 | none=>
   rw[hr]at h;simp only at h;cases hk:ma (l.drop k)with
   | some z=>
     rw[hk]at h;simp only[akC]at h;subst h;unfold ma at hk;have h1:cr (l.drop k) 1≠0->k+1<l.length:=Cc;split at hk
     ·simp only[akC]at hk;subst hk;exact⟨by simp only;omega,by simp⟩
     ·split at hk
      ·split at hk
       ·simp only[akC]at hk;subst hk;exact⟨by simp only;omega,by simp⟩
       ·simp only[akC]at hk;subst hk;exact⟨by simp only;omega,by simp⟩
      ·split at hk
       ·simp only[akC]at hk;subst hk;exact⟨by simp only;omega,by simp⟩
       ·cases hk
   | none=>
     rw[hk]at h;simp only at h;have h0:cr (l.drop k) 0≠0->k+0<l.length:=Cc;cases hg:vh l (l.drop k)with
     | some z=>
       rw[hg]at h;simp only[akC]at h;subst h;unfold vh at hg;split at hg
       ·rename_i hc;simp only[akC]at hg;subst hg;have:k<l.length:=by have:=hc.1;unfold iz at this;omega
        have hd:=(Cb l (k+1) (by omega)).1;rw[List.tail_drop];exact⟨by simp only;omega,by simp⟩
       ·split at hg
        ·split at hg
         ·simp only[akC]at hg;subst hg;exact⟨by simp only;omega,by simp⟩
         ·obtain⟨x,hx,rfl⟩:=apN.1 hg;unfold rL at hx;split at hx
          ·cases hx
          ·split at hx
           ·simp only[akC]at hx;subst hx;exact⟨by simp only;omega,by simp⟩
           ·cases hx
        ·cases hg
     | none=>
       rw[hg]at h;simp only at h;split at h
       ·simp only[akC]at h;subst h;exact⟨by simp only;omega,by simp⟩
       ·cases h
theorem Q6{l l':List ae}{k:Nat}(h:iq l k=some l'):l'.length<=l.length:=by
 obtain⟨y,hy,rfl⟩:=apN.1 h;have:=Q5 hy;exact YP (by omega) this.2
theorem YQ{l l':List ae}{n k:Nat}(h:jq l n k=some l'):l'.length<=l.length:=by
 obtain⟨j,_,_,hj⟩:=B7 _ _ h;exact Q6 hj
theorem I3{l:List ae}:∀(n k:Nat),(∀j,k<=j->j<k+n->iq l j=none)->jq l n k=none
 | 0,k,_=>rfl
 | n+1,k,h=>by
   rw[jq,h k (by omega) (by omega)];exact I3 n (k+1) (λj h1 h2=>h j (by omega) (by omega))
theorem Gj{l x:List ae}{j:Nat}(hx:iq l j=some x):∀(n k:Nat),k<=j->j<k+n->(∀i,k<=i->i<j->iq l i=none)->jq l n k=some x
 | 0,k,h1,h2,_=>by omega
 | n+1,k,h1,h2,h3=>by
   rw[jq];by_cases e:k=j
   ·rw[e,hx]
   ·rw[h3 k (by omega) (by omega)];exact Gj hx n (k+1) (by omega) (by omega) (λi h4 h5=>h3 i (by omega) h5)
theorem YS(l:List ae)(hl:l.length<=10000000000):Pure prog 190 [du l] (eF l (jq l l.length 0)):=by
 obtain⟨R,hR⟩:∃R,eF l (jq l l.length 0)=R:=⟨_,rfl⟩
 have v8:V.on [] R=true:=by rw[<-hR];rfl
 rw[hR];refine Pure.run func190 rfl (by simp[f190,v8]) ?_;simp[-cB,f190,v8];refine aw.cX [0,4] l.length (λi=> [(4,iD i)]) (λ_=> []) (λi=>∀j,j<i->iq l j=none) (by rfl) (by simp) ?_;intro i hi hH;rcases apW hi with ay|heq
 ·have hb:=Q4 l hl i ay;have da:aN .i64 ((i:Int)+1):=iW;have dw:(i:Int)<l.length:=by omega
  cases hm:iq l i with
  | some x=>
    rw[hm]at hb;have ho:=Gj hm l.length 0 (by omega) (by omega) (λj _ h=>hH j h);unfold eF at hb;simp[-cB,ay];refine pC hb ?_;simp;rw[<-hR,ho];rfl
  | none=>
    rw[hm]at hb;unfold eF at hb;simp[-cB,ay];refine pC hb ?_;simp[da,ay];intro j hj;by_cases e:j=i
    ·rw[e];exact hm
    ·exact hH j (by omega)
 ·have ho:=I3 l.length 0 (λj _ h=>hH j (by omega));simp[heq];rw[<-hR,ho];rfl
theorem abO{l:List ae}(h:jq l l.length 0=none):∀n,allM n l=l
 | 0=>rfl
 | n+1=>by rw[allM,h]
theorem Eo:∀(n:Nat) (l:List ae),allM (n+1) l=(jq (allM n l) (allM n l).length 0).getD (allM n l)
 | 0,l=>by
   rw[allM,allM];cases jq l l.length 0<;>rfl
 | n+1,l=>by
   rw[allM];cases h:jq l l.length 0 with
   | none=>simp only;rw[abO h,h];rfl
   | some x=>
     simp only;rw[Eo n x]
     conv=>rhs;rw[allM,h]
theorem Cd:∀(n:Nat) (l:List ae),(allM n l).length<=l.length
 | 0,l=>apU _
 | n+1,l=>by
   rw[allM];cases h:jq l l.length 0 with
   | none=>exact apU _
   | some x=>exact aqo (Cd n x) (YQ h)
theorem abP(l:List ae)(hl:l.length<=10000000000):Pure prog 125 [du l] (du (dK l)):=by
 have nB:aN .i64 (16 *(l.length:Int)):=iW;refine rn func125 ?_;simp[-cB,f125];simp[-cB,nB];refine aw.cX [0,3,4] (16 *l.length) (λi=> [(0,du (allM i l)),(4,iD i)]) (λ_=> []) (λ_=>True) (by rfl) (by simp[allM]) ?_;intro i hi _;have ho:=YS (allM i l) (by have:=Cd i l;omega);have hs:=Eo i l;rcases apW hi with ay|heq
 ·have dw:(i:Int)<16 *(l.length:Int):=by omega
  have da:aN .i64 ((i:Int)+1):=iW;cases hm:jq (allM i l) (allM i l).length 0 with
  | some x=>
    rw[hm]at ho hs;unfold eF at ho;simp[-cB,dw];refine pC ho ?_;simp[da];refine⟨by omega,?_⟩;rw[hs];rfl
  | none=>
    rw[hm]at ho;unfold eF at ho;have hp:dK l=allM i l:=by
     unfold dK;have:∀k,allM (i+k) l=allM i l:=by
      intro k
      induction k with
      | zero=>rfl
      | succ k ih=>rw[<-arK,Eo,ih,hm];rfl
     have h2:=this (16 *l.length-i);rw[show i+(16 *l.length-i)=16 *l.length by omega]at h2;exact h2
    simp[-cB,dw];refine pC ho ?_;simp[hp]
 ·have hp:dK l=allM i l:=by unfold dK;rw[heq]
  have dw:¬(i:Int)<16 *(l.length:Int):=by omega
  simp[dw,hp]
theorem VC(n:Int)(l:List Int)(hl:l.length<=1000000):Pure prog 144 [iD n,.d (.sl (aD l))] (oD (l.contains n)):=by
 refine rn func144 ?_;simp[-cB,f144];refine aw.cX [0,1,5] l.length (λi=> [(5,iD i)]) (λ_=> []) (λi=>(l.take i).contains n=false) (by rfl) (by simp[aD]) ?_;intro i hi hH;rcases apW hi with ay|heq
 ·have hx:l[i]?=some l[i]:=anc ay;have da:aN .i64 ((i:Int)+1):=iW;by_cases hp:l[i]=n
  ·have hv:l.contains n=true:=by simp only[List.contains_iff_mem];exact hp ▸ ap1 ay
   have za:n∈l:=by simpa using hv
   simp[ay,hp,za]
  ·have hn:(l.take (i+1)).contains n=false:=by
    rw[aqy,hx];simp only[Option.toList,List.contains_append,hH,Bool.false_or];simpa using λh=>hp h.symm
   have hpb:(l[i]==n)=false:=by simpa using hp
   simp[ay,hp,da];simpa using hn
 ·have hv:l.contains n=false:=by rw[heq,aqC]at hH;exact hH
  simp[heq];simpa using hv
theorem Pw(n:Int):Pure prog 84 [iD n] (oD (pH n)):=by
 have h:=VC n [1,3,4,5,6,7,8,12,13,14,15,16,19,21,24,25,26,32,33,38] (by simp);unfold pH;refine rn func84 ?_;simp[-cB,f84];refine ar.weaken (Wk.freeze 4 (ys:=aD [1,3,4,5,6,7,8,12,13,14,15,16,19,21,24,25,26,32,33,38]) rfl) ?_;simp[-cB];refine pC h ?_;simp
theorem VD(n:Int):Pure prog 85 [iD n] (iD (eK n)):=by
 unfold eK;by_cases h0:n=0
 ·subst h0;refine rn func85 ?_;simp[-cB,f85]
 ·by_cases h1: -128<=n/\n<=127
  ·refine rn func85 ?_;simp[-cB,f85]
   repeat' (first
    | (with_reducible refine And.intro ?_ ?_)
    | (refine aA (λh=>?_) (λh=>?_)<;>(try simp at h)<;>(try simp[-cB, *]))
    | (with_reducible intro _))
   all_goals (try omega)
  ·refine rn func85 ?_;simp[-cB,f85]
   repeat' (first
    | (with_reducible refine And.intro ?_ ?_)
    | (refine aA (λh=>?_) (λh=>?_)<;>(try simp at h)<;>(try simp[-cB, *]))
    | (with_reducible intro _))
   all_goals (try omega)
theorem uh(i:ae):Pure prog 186 [.agg (i.enc.map .d)] (oD (jmp i.Op)):=by
 unfold jmp;refine rn func186 ?_;simp[-cB,f186]
def wg(l:List ae)(k:Nat)(n:Int):Int:=uf (l.take k) n
theorem Ae(l:List ae)(hl:l.length<=100000000000)(k:Nat)(hk:k<=l.length)(n:Int):Pure prog 234 [du l,iD k,iD n] (iD (wg l k n)):=by
 refine rn func234 ?_;simp[-cB,f234];refine aw.cX [0,1,2,7] k (λi=> [(7,iD i)]) (λ_=> []) (λi=>∀y∈l.take i,(decide (y.Op=38)&&decide (y.Arg=n))=false) (by rfl) (by simp) ?_;intro i hi hH;rcases apW hi with dw|heq
 ·have ay:i<l.length:=by omega
  have hx:l[i]?=some l[i]:=anc ay;have qd:(l.take k)[i]?=some l[i]:=by rw[ar2,if_pos dw];exact hx
  have da:aN .i64 ((i:Int)+1):=iW;have OL:(i:Int)<k:=by omega
  by_cases hp:(decide (l[i].Op=38)&&decide (l[i].Arg=n))=true
  ·have hv:wg l k n=i:=by
    unfold wg uf;have:(l.take k).findIdx? (λi=>decide (i.Op=38)&&decide (i.Arg=n))=some i:=by
     rw[arE];refine⟨by simp;omega,by simpa using hp,λj hj=>?_⟩;have Ie:j<l.length:=by omega
     have:=hH l[j] (arC.2 ⟨j,by omega,rfl⟩);simpa using this
    rw[this]
   rw[apP,decide_eq_true_eq,decide_eq_true_eq]at hp;simp[ay,OL,hp.1,hp.2,hv]
  ·have hn:∀y∈l.take (i+1),(decide (y.Op=38)&&decide (y.Arg=n))=false:=by
    intro y hy;rcases sk hx hy with h|rfl
    ·exact hH y h
    ·simpa using hp
   simp[-cB,ay,OL,da];refine aA (λh=>?_) (λh=>?_)
   ·exact(hp h).elim
   ·simp[-cB,da,ay];exact⟨by omega,λy hy=>by simpa using hn y hy⟩
 ·have hv:wg l k n= -1:=by
   unfold wg uf;have:(l.take k).findIdx? (λi=>decide (i.Op=38)&&decide (i.Arg=n))=none:=by
    rw[List.findIdx?_eq_none_iff];intro y hy;exact hH y (by rw[heq];exact hy)
   rw[this]
  simp[heq,hv]
def iL(l:List Int):List (List D):=l.map λc=> [.v (.int .u8 c)]
@[simp] theorem ahr(l:List Int):(iL l).length=l.length:=by simp[iL]
@[simp] theorem ahs(a b:List Int):iL a++iL b=iL (a++b):=by simp[iL]
abbrev Px(l:List Int):V:= .d (.sl (iL l))
theorem gq(n:Int):IntKind.wrap .u8 n=n % 256:=by
 unfold IntKind.wrap;simp[IntKind.signed,IntKind.bits]
theorem aet(i:ae): -32768<=uV i/\uV i<=32767:=by
 unfold uV;split
 ·exact cR _
 ·omega
theorem vj(i:ae):Pure prog 187 [.agg (i.enc.map .d)] (Px (mz i)):=by
 obtain⟨o,a⟩:=i;by_cases ho:o<1\/38<=o
 ·have hv:mz ⟨o,a⟩=[]:=by unfold mz;rw[if_pos ho]
  rw[hv];refine Pure.run func187 rfl (by simp[f187,ae.enc]) ?_;simp[-cB,f187,ae.enc]
  repeat' (first
   | (with_reducible refine And.intro ?_ ?_)
   | (refine aA (λh=>?_) (λh=>?_)<;>(try simp at h)<;>(try simp[-cB, *,ae.enc]))
   | (with_reducible intro _))
  all_goals (first|rfl|omega)
 ·have h1:=aet ⟨o,a⟩;have hv:mz ⟨o,a⟩=fD o (uV ⟨o,a⟩) (eK (uV ⟨o,a⟩)):=by unfold mz;rw[if_neg ho]
  rw[hv];have hw:=bB a;have hh:=Pw o;obtain⟨n,hn⟩:∃n,uV ⟨o,a⟩=n:=⟨_,rfl⟩
  rw[hn]at h1⊢;unfold uV at hn;simp only at hn;have pU:¬o<1:=by omega
  have nv:¬38<=o:=by omega
  have e1:aN .i64 (4 *o):=iW;have e4:aN .i64 (4 *o+1):=iW;have e5:aN .i64 (4 *o+2):=iW;have e6:(4 *o) % 256=4 *o:=by omega
  have e7:(4 *o+1) % 256=4 *o+1:=by omega
  have e8:(4 *o+2) % 256=4 *o+2:=by omega
  have Ht:=VD n;have hb:=qE n;obtain⟨k,hk⟩:∃k,eK n=k:=⟨_,rfl⟩
  rw[hk]at hb Ht⊢;have rD:Pure prog 84 [iD o] (oD false)/\n=0\/Pure prog 84 [iD o] (oD true)/\ax a=n:=by
   cases hA:pH o
   ·left;rw[hA]at hh hn;exact⟨hh,by simpa using hn.symm⟩
   ·right;rw[hA]at hh hn;exact⟨hh,by simpa using hn⟩
  have Tl:aN .i64 (n+65536):=iW;have q1:0<=n->n.tdiv 256=n / 256:=λh=>arU h
  have q2:0<=n+65536:=by omega
  have q3:(n+65536).tdiv 256=(n+65536) / 256:=arU q2;have q4:(n+65536) / 256 % 256=n / 256 % 256:=by omega
  have q5:0<=n->n.tmod 256=n % 256:=λh=>aqT h
  have q6:(n+65536).tmod 256=n % 256:=by rw[aqT q2];omega
  clear hh hv;have K7:k=0\/k=1\/k=2:=by omega
  rcases K7 with rfl|rfl|rfl
  ·have As:n=0:=by unfold eK at hk;split at hk;assumption;split at hk<;>omega
   subst As;have my:Pure prog 85 [iD 0] (iD 0):=Ht;clear Ht hb hk q1 q2 q3 q4 q5 q6;rcases rD with⟨hh,_⟩|⟨hh,Ep⟩
   ·have e9:True:=trivial;refine Pure.run func187 rfl (by simp[f187,pU,nv,ae.enc]) ?_;simp[-cB,f187,pU,nv,ae.enc];intro bs;refine pC hw ?_;simp[-cB];refine pC hh ?_;simp[-cB,e1];refine aw.bI [Q0,Q0,Q0,Q0,Q0,Q0,Q0,none,asi] [iD 0] bc (by kernel_rfl) ?_;simp[-cB,e1,e6,my.ok,gq,e9];refine pC my ?_;simp[-cB,gq,e9];refine pC my ?_;simp[gq,e9,iL,fD,kv]
   ·have e9:True:=trivial;rw[Ep]at hw;refine Pure.run func187 rfl (by simp[f187,pU,nv,ae.enc]) ?_;simp[-cB,f187,pU,nv,ae.enc];intro bs;refine pC hw ?_;simp[-cB];refine pC hh ?_;simp[-cB,e1];refine aw.bI [Q0,Q0,Q0,Q0,Q0,Q0,Q0,none,asi] [iD 0] bc (by kernel_rfl) ?_;simp[-cB,e1,e6,my.ok,gq,e9];refine pC my ?_;simp[-cB,gq,e9];refine pC my ?_;simp[gq,e9,iL,fD,kv]
  ·have my:Pure prog 85 [iD n] (iD 1):=Ht;have hnz:n≠0:=by rintro rfl;simp[eK]at hk
   clear Ht hb hk;rcases rD with⟨hh,As⟩|⟨hh,Ep⟩
   ·exact absurd As hnz
   ·rw[Ep]at hw;by_cases hs:n<0
    ·clear q1 q5;refine Pure.run func187 rfl (by simp[f187,pU,nv,ae.enc]) ?_;simp[-cB,f187,pU,nv,ae.enc];intro bs;refine pC hw ?_;simp[-cB];refine pC hh ?_;simp[-cB,e1];refine aw.bI [Q0,Q0,Q0,Q0,Q0,Q0,Q0,none,asi] [iD 1] bc (by kernel_rfl) ?_;simp[-cB,e1,e4,e5,e7,my.ok,gq,hs,Tl,q6];refine pC my ?_;simp[-cB,gq,hs,Tl,q6];refine pC my ?_;simp[gq,hs,Tl,q6,iL,fD,kv]
    ·have Py:=q5 (by omega);clear q1 q5;refine Pure.run func187 rfl (by simp[f187,pU,nv,ae.enc]) ?_;simp[-cB,f187,pU,nv,ae.enc];intro bs;refine pC hw ?_;simp[-cB];refine pC hh ?_;simp[-cB,e1];refine aw.bI [Q0,Q0,Q0,Q0,Q0,Q0,Q0,none,asi] [iD 1] bc (by kernel_rfl) ?_;simp[-cB,e1,e4,e5,e7,my.ok,gq,hs,Py];refine pC my ?_;simp[-cB,gq,hs,Py];refine pC my ?_;simp[gq,hs,Py,iL,fD,kv]
  ·have my:Pure prog 85 [iD n] (iD 2):=Ht;have hnz:n≠0:=by rintro rfl;simp[eK]at hk
   clear Ht hb hk;rcases rD with⟨hh,As⟩|⟨hh,Ep⟩
   ·exact absurd As hnz
   ·rw[Ep]at hw;by_cases hs:n<0
    ·clear q1 q5;refine Pure.run func187 rfl (by simp[f187,pU,nv,ae.enc]) ?_;simp[-cB,f187,pU,nv,ae.enc];intro bs;refine pC hw ?_;simp[-cB];refine pC hh ?_;simp[-cB,e1];refine aw.bI [Q0,Q0,Q0,Q0,Q0,Q0,Q0,none,asi] [iD 2] bc (by kernel_rfl) ?_;simp[-cB,e1,e4,e5,e8,my.ok,gq,hs,Tl,q6,q3,q4];refine pC my ?_;simp[-cB,gq,hs,Tl,q6,q3,q4];refine pC my ?_;simp[gq,hs,Tl,q6,q3,q4,iL,fD,kv];rw[wrap64 iW,q4]
    ·have Py:=q5 (by omega);have q1':=q1 (by omega);clear q1 q5;refine Pure.run func187 rfl (by simp[f187,pU,nv,ae.enc]) ?_;simp[-cB,f187,pU,nv,ae.enc];intro bs;refine pC hw ?_;simp[-cB];refine pC hh ?_;simp[-cB,e1];refine aw.bI [Q0,Q0,Q0,Q0,Q0,Q0,Q0,none,asi] [iD 2] bc (by kernel_rfl) ?_;simp[-cB,e1,e4,e5,e8,my.ok,gq,hs,Py,q1'];refine pC my ?_;simp[-cB,gq,hs,Py,q1'];refine pC my ?_;simp[gq,hs,Py,q1',iL,fD,kv];rw[wrap64 iW]
theorem YT(n:Int):Pure prog 236 [iD n] (iD (oP n)):=by
 have hi:=BG n;have he:=vj ⟨24,n⟩;have hf:oP n=if kx n then eK n else 3:=rfl
 have iY:=qE n;have hI:ib n=kx n:=by simp[ib,kx,bJ]
 rw[hI]at hi;obtain⟨F,hF⟩:∃F,oP n=F:=⟨_,rfl⟩
 rw[hF]at hf⊢;by_cases h:kx n=true
 ·have hn: -32768<=n/\n<=32767:=by simpa[kx]using h
  rw[h]at hi hf;simp only[if_true]at hf;have hlen:(mz ⟨24,n⟩).length=1+F:=by
   have hA:pH 24=true:=by decide
   rw[hf];simp only[mz,uV,hA,if_true,yf hn];rw[if_neg (by omega)];simp only[fD,apY,yu n _ iY];omega
  refine Pure.run func236 rfl (by simp[f236,ae.enc]) ?_;simp[-cB,f236,ae.enc];refine pC hi ?_;simp[ae.enc];refine pC he ?_;simp[hlen];exact⟨iW,by omega⟩
 ·have h':kx n=false:=by simpa using h
  rw[h']at hi hf;simp at hf;refine Pure.run func236 rfl (by simp[f236,ae.enc]) ?_;simp[-cB,f236,ae.enc];refine pC hi ?_;simp[hf]
theorem YU(o n:Int)(k:Nat)(ho:1<=o/\o<38)(hk:k<=2):Pure prog 188 [iD o,iD n,iD k] (Px (fD o n k)):=by
 have e1:aN .i64 (4 *o):=iW;have e2:aN .i64 (4 *o+1):=iW;have e3:aN .i64 (4 *o+2):=iW;have e6:(4 *o) % 256=4 *o:=by omega
 have e7:(4 *o+1) % 256=4 *o+1:=by omega
 have e8:(4 *o+2) % 256=4 *o+2:=by omega
 have K7:k=0\/k=1\/k=2:=by omega
 rcases K7 with rfl|rfl|rfl
 ·refine Pure.run func188 rfl (by simp[f188,e1,e6,gq]) ?_;simp[-cB,f188,e1,e6,gq];simp[iL,fD,kv]
 ·refine Pure.run func188 rfl (by simp[f188,e1,e2,e7,gq]) ?_;simp[-cB,f188,e1,e2,e7,gq];simp[iL,fD,kv]
 ·refine Pure.run func188 rfl (by simp[f188,e1,e3,e8,gq]) ?_;simp[-cB,f188,e1,e3,e8,gq];simp[iL,fD,kv];show n.fdiv 256 % 256=_;rw[Int.fdiv_eq_ediv_of_nonneg _ (by decide)]
section
variable {P : Program} {n : Nat} {s : St} {Q : AX -> St -> Prop} {L : aH}
def Pz:D->Bool
 | .v _=>true
 | _=>false
theorem YV{ty}{k}{ys}{w}{O O'}{m m'}{x}(h:(aV.row ty k (dd ys)).Holds w O m x)(hp:ys.all (fun y=>y.all Pz)=true):
  (aV.row ty k (dd ys)).Holds w O' m' x:=by
 rcases h with h|⟨b,off,cap,cur,h1,h2,h3,h4,h5,h6,h7,h8⟩
 ·exact .inl h
 ·refine .inr ⟨b,off,cap,cur,h1,h2,h3,h4,h5,h6,h7,λi j x y v hx hy hv=>?_⟩;refine Oi (h8 i j x y v hx hy hv) ?_;rw[Od]at hx;obtain⟨y0,ry,rfl⟩:=apN.1 hx;rw[apS]at hy;obtain⟨z,hz,rfl⟩:=apN.1 hy;have:=apR.1 (apR.1 hp y0 (apT ry)) z (apT hz);cases z with
  | v u=>rfl
  | sl xs=>cases this
  | uu t ag cs=>cases this
theorem ar.ah9{ops}{o:Oper}{rest}{c}{f}{args mj}{ty}{kc}{ys} h(aP:o.op= .call c)
  (hf:aE P f mj [] (λr L'=>∃g,r= .ret (.rv g)/\L'=[(g,.row ty kc (dd ys))])) (he:enters P f=true) (hc:callee s.ev c=some (f,args)) (ha:V.mv s.L args=mj) (ho:V.dA [] mj=true)
  (hs:ys.all (λy=>y.all Pz)=true) (hg:o.guard=none) (hd:∀d,o.dst=some d->d<n) (hr:dB n rest=true) (hn:h∉keys s.L)
  (k:∀bs,eN P ops rest (St.put {s with L:=(h,.row ty kc (dd ys))::s.L} o.dst (.rv h)) bs [] (KK P n ops Q)):ar P n ops (o::rest) s Q:=by
 subst ha;intro fo m0 w0 m a w st g;unfold wpListIn;rw[if_pos (by simp[Region.wanted,hg])];obtain⟨xs,h1,h2⟩:=pe (P:=P) (w:=w) (m:=m) (O:=OO fo m) aP hc he (λz _=>cj g z);have hi:=g.inv;refine Ln h1 ?_;have fC:iA w (OO fo fk) fk xs (V.mv s.L args):=by
  refine⟨by rw[uH];exact h2.1,λj v y hv hy=>?_⟩;have Oh:=fP ho y (apT hy);rw[uG]at hy;obtain⟨z,hz,rfl⟩:=apN.1 hy;exact(Og hi (h2.2 j v z hv hz) Oh).mono (bK.refl w _) (λb _ hb=>hb.elim (λh=>(gE b h).elim) id) (λ_ _ e=>e)
 refine(hf fo fk w xs (hi.none_ λb hb=> .inr hb) fC).mono ?_;rintro e w' ⟨m1,r,L',⟨gg,rfl,rfl⟩,kD,ck,fJ⟩;cases e with
 | returned v=>
   have hv:m1 gg=some v/\v.oneCell'=true:=by
    cases kD with
    | rv _ _ e e1=>grind
   obtain⟨z,hz,DL⟩:=ck.holds gg (.row ty kc (dd ys)) (by simp);rw[hv.1]at hz;obtain rfl:=apO hz;have gr:hZ w w':=⟨fJ.os,fJ.tape,fJ.output,fJ.size,λb hb=>fJ.block b hb (gE b)⟩
   obtain⟨g',qn⟩:=g.new gr hn (x:=v) (λb hb=>by
    by_cases ay:b<w.heap.size
    ·exact(gE b (fJ.owned b ay ⟨gg,v,hv.1,hb⟩)).elim
    ·omega) (YV DL hs)
   exact(bf rest _ [] hr k) fo m0 w0 _ _ w' (st.trans qn) (g'.put hd (.rv h v (cn _ _) hv.2))
 | panicked ch=>simp_all[Ends]
 | outgrown=>simp_all[Ends]
end
def pY(z:Zl):List Int:=z.map λp=>(p.2:Int)
def yz(z:Zl)(n:Nat):List Int:=(List.range n).map λi=>(aU (z.take i):Int)
theorem PA(z:Zl)(n:Nat):yz z (n+1)=yz z n++ [(aU (z.take n):Int)]:=by
 unfold yz;rw[ara,aqM];rfl
theorem Fu(z:Zl)(n:Nat):(yz z n).length=n:=by simp[yz]
theorem Ks(z:Zl){n k:Nat}(h:k<n):(yz z n)[k]?=some (aU (z.take k):Int):=by
 simp[yz,h]
theorem Kt(p:ae×Nat):cL p=if jmp p.1.Op=true then 1+p.2 else(mz p.1).length:=by
 unfold cL;split
 ·rename_i h;rw[h];have:mz p.1=[]:=by unfold mz;rw[if_pos (by omega)]
  rw[this];simp[jmp]
 ·rfl
theorem yA(i:ae):(mz i).length<=3:=by
 unfold mz;split
 ·simp
 ·have:=qE (uV i);simp only[fD,apY,yu _ _ this];omega
theorem aeu(p:ae×Nat)(h:p.2<=3):cL p<=4:=by
 rw[Kt];have:=yA p.1;split<;>omega
theorem AY:∀(z:Zl),(∀p∈z,p.2<=3)->aU z<=4 *z.length
 | [],_=>by simp[aU]
 | p::z,h=>by
   have h1:=AY z (λq hq=>h q (by simp[hq]));have h2:=aeu p (h p (by simp));simp only[aU,aqd,arT,apY]at h1⊢;omega
theorem zD(z:Zl)(i:Nat)(h:i<z.length):aU (z.take (i+1))=aU (z.take i)+cL z[i]:=by
 unfold aU;rw[aqy,anc h];simp only[Option.toList,aqM,List.sum_append,aqd,ar3,arT,List.sum_nil,aqS]
theorem PB(z:Zl)(hz:z.length≤1000000000)(h3:∀p∈z,p.2≤3):
  aE prog 185 [du (z.map Prod.fst),.d (.sl (aD (pY z)))] [] (λr L=>∃g,r= .ret (.rv g)/\L=[(g,.row 3 1 (dd (aD (yz z (z.length+1)))))]):=by
 refine rX [4] [1000] func185 ?_;simp[-cB,f185];refine aw.weaken (Wk.Ot (t:=6) (h:=1000) (k:=1) (ty:=3) (by rfl) (by simp[keys])) ?_;refine aw.cX [0,1,5,6,7] z.length (λi=> [(5,iD (aU (z.take i))),(7,iD i)]) (λi=> [(1000,.row 3 1 (dd (aD (yz z i))))]) (λ_=>True) (by rfl) (by simp[yz,aU]) ?_;intro i hi hH;have hb:aU (z.take i)<=4 *i:=by
  have:=AY (z.take i) (λp hp=>h3 p (aqQ hp));rw[aqs]at this;omega
 have nD:=Fu z i;have Ge:=PA z i;rcases apW hi with ay|heq
 ·have hx:z[i]?=some z[i]:=anc ay;have da:aN .i64 ((i:Int)+1):=iW;have rE:=zD z i ay;have uA:=Kt z[i];have sU:=yA z[i].1;have Tc:=h3 z[i] (ap1 ay);have hj:=uh z[i].1;have he:=vj z[i].1;have e1:aN .i64 ((aU (z.take i):Int)+1):=iW;have e2:aN .i64 ((aU (z.take i):Int)+1+(z[i].2:Int)):=iW;have e3:aN .i64 ((aU (z.take i):Int)+((mz z[i].1).length:Int)):=iW;cases ny:jmp z[i].1.Op with
  | true=>
    rw[ny]at hj uA;simp only[if_true]at uA;have dW:(pY z)[i]?=some (z[i].2:Int):=by simp[pY,hx]
    simp[-cB,ay,hx,nD];refine⟨by omega,?_⟩;refine pC hj ?_;simp[-cB,ay,hx,nD,e1,e2,da,dW,pY,Ge,rE,uA];omega
  | false=>
    rw[ny]at hj uA;simp only[aqq,if_false]at uA;simp[-cB,ay,hx,nD];refine⟨by omega,?_⟩;refine pC hj ?_;simp[-cB,ay,hx,nD];refine pC he ?_;simp[ay,hx,e3,da,Ge,rE,uA]
 ·subst heq;simp[nD,Ge];omega
theorem Q7(z:Zl)(hz:z.length≤1000000000)(h3:∀p∈z,p.2≤3):
  Pure prog 185 [du (z.map Prod.fst),.d (.sl (aD (pY z)))] (.d (.sl (aD (yz z (z.length+1))))):=by
 refine rn func185 ?_;simp[-cB,f185];refine aw.weaken (Wk.Ot (t:=6) (h:=1000) (k:=1) (ty:=3) (by rfl) (by simp[keys])) ?_;refine aw.cX [0,1,5,6,7] z.length (λi=> [(5,iD (aU (z.take i))),(7,iD i)]) (λi=> [(1000,.row 3 1 (dd (aD (yz z i))))]) (λ_=>True) (by rfl) (by simp[yz,aU]) ?_;intro i hi hH;have hb:aU (z.take i)<=4 *i:=by
  have:=AY (z.take i) (λp hp=>h3 p (aqQ hp));rw[aqs]at this;omega
 have nD:=Fu z i;have Ge:=PA z i;rcases apW hi with ay|heq
 ·have hx:z[i]?=some z[i]:=anc ay;have da:aN .i64 ((i:Int)+1):=iW;have rE:=zD z i ay;have uA:=Kt z[i];have sU:=yA z[i].1;have Tc:=h3 z[i] (ap1 ay);have hj:=uh z[i].1;have he:=vj z[i].1;have e1:aN .i64 ((aU (z.take i):Int)+1):=iW;have e2:aN .i64 ((aU (z.take i):Int)+1+(z[i].2:Int)):=iW;have e3:aN .i64 ((aU (z.take i):Int)+((mz z[i].1).length:Int)):=iW;cases ny:jmp z[i].1.Op with
  | true=>
    rw[ny]at hj uA;simp only[if_true]at uA;have dW:(pY z)[i]?=some (z[i].2:Int):=by simp[pY,hx]
    simp[-cB,ay,hx,nD];refine⟨by omega,?_⟩;refine pC hj ?_;simp[-cB,ay,hx,nD,e1,e2,da,dW,pY,Ge,rE,uA];omega
  | false=>
    rw[ny]at hj uA;simp only[aqq,if_false]at uA;simp[-cB,ay,hx,nD];refine⟨by omega,?_⟩;refine pC hj ?_;simp[-cB,ay,hx,nD];refine pC he ?_;simp[ay,hx,e3,da,Ge,rE,uA]
 ·subst heq;simp[nD,Ge];omega
theorem I4:∀(z:Zl) (n:Int),oC z n=((z.map Prod.fst).findIdx? (λi=>decide (i.Op=38)&&decide (i.Arg=n))).map (λk=>aU (z.take k))
 | [],n=>rfl
 | p::z,n=>by
   rw[oC,aqd,List.findIdx?_cons,I4 z n];by_cases h:p.1.Op=38/\p.1.Arg=n
   ·have hb:(decide (p.1.Op=38)&&decide (p.1.Arg=n))=true:=by simpa using h
    rw[if_pos h,if_pos hb];rfl
   ·have hb:¬(decide (p.1.Op=38)&&decide (p.1.Arg=n))=true:=by simpa using h
    rw[if_neg h,if_neg hb,Option.map_map,Option.map_map];congr 1
theorem VE{z:Zl}{n:Int}{m:Nat}(h:oC z n=some m):∃k,k<z.length/\wg (z.map Prod.fst) (z.map Prod.fst).length n=(k:Nat)/\m=aU (z.take k):=by
 rw[I4]at h;obtain⟨k,hk,rfl⟩:=apN.1 h;refine⟨k,?_,?_,rfl⟩
 ·have:=arE.1 hk;obtain⟨h1,_⟩:=this;simpa using h1
 ·unfold wg uf;rw[aqC,hk]
theorem PC(z:Zl)(hz:z.length≤1000000000)(h3:∀p∈z,p.2≤3)(i:Nat)(hi:i < z.length)(hl:(oC z z[i].1.Arg).isSome):
  Pure prog 189 [du (z.map Prod.fst),.d (.sl (aD (yz z (z.length+1)))),iD i] (iD (fY z z[i].1.Arg (aU (z.take (i+1))))):=by
 obtain⟨m,hm⟩:=aqI.1 hl;obtain⟨k,hk,hn,qz⟩:=VE hm;have bx:=Ae (z.map Prod.fst) (by simp;omega) (z.map Prod.fst).length (by omega) z[i].1.Arg;rw[hn]at bx;have hF:fY z z[i].1.Arg (aU (z.take (i+1)))=(m:Int)-(aU (z.take (i+1)):Int):=by unfold fY;rw[hm];rfl
 rw[hF];have g1:=Ks z (n:=z.length+1) (k:=k) (by omega);have g2:=Ks z (n:=z.length+1) (k:=i+1) (by omega);have b1:=AY (z.take k) (λp hp=>h3 p (aqQ hp));have b2:=AY (z.take (i+1)) (λp hp=>h3 p (aqQ hp));rw[aqs]at b1 b2;have da:aN .i64 ((i:Int)+1):=iW;have h65:aN .i64 ((m:Int)-(aU (z.take (i+1)):Int)):=iW;have hx:z[i]?=some z[i]:=anc hi;have nD:=Fu z (z.length+1);rw[<-qz]at g1;have Kn:=bx.ok;simp only[aqg]at Kn;refine rn func189 ?_;simp[-cB,f189];refine aw.bI [Q0,Q0,Q0,Q0,Q0,Q0,Q0,Q0,Q0,Q0,Q0,Q0,Q0,Q0,Q0,Q0,Q0,Q0,Q0] [iD k] bc (by kernel_rfl) ?_;simp[Kn,hx,da,h65,g1,g2,nD,hi];have g3:=(apQ.1 g2).2;exact⟨by omega,by omega,by rw[g3];exact h65,g3⟩
theorem Tm(z:Zl){i:Nat}(h:i<z.length):(pY z)[i]?=some (z[i].2:Int):=by
 simp[pY,anc h]
theorem Er:∀(a b i:Nat) (z:Zl) (x:Bool),dM (a+b) i z x=dM b (i+a) (dM a i z x).1 (dM a i z x).2
 | 0,b,i,z,x=>by simp[dM]
 | a+1,b,i,z,x=>by
   rw[show a+1+b=(a+b)+1 by omega,dM,dM];cases ng z i with
   | none=>simp only;rw[Er a b (i+1) z x,show i+(a+1)=i+1+a by omega]
   | some z'=>simp only;rw[Er a b (i+1) z' true,show i+(a+1)=i+1+a by omega]
theorem VF(n:Nat)(z:Zl)(x:Bool):dM (n+1) 0 z x=match ng (dM n 0 z x).1 n with
  | some z'=>(z',true)
  | none=>dM n 0 z x:=by
 rw[Er n 1 0 z x,aqB,dM];cases ng (dM n 0 z x).1 n with
 | none=>rfl
 | some z'=>rfl
def qH(z:Zl):Nat->Zl
 | 0=>z
 | k+1=>(dM (qH z k).length 0 (qH z k) false).1
theorem zE(z:Zl):∀k,qH z (k+1)=qH (qH z 1) k
 | 0=>rfl
 | k+1=>by rw[qH,zE z k];rfl
theorem LU:∀(g:Nat) (z z':Zl),yw g z=some z'->∃N,(∀k,k<N->(dM (qH z k).length 0 (qH z k) false).2=true)/\(dM (qH z N).length 0 (qH z N) false).2=false/\z'=qH z (N+1)
 | 0,z,z',h=>by cases h
 | g+1,z,z',h=>by
   rw[yw]at h;split at h
   ·rename_i hb;obtain⟨N,h1,h2,h3⟩:=LU g _ _ h;refine⟨N+1,λk hk=>?_,?_,?_⟩
    ·cases k with
     | zero=>exact hb
     | succ k=>rw[zE];exact h1 k (by omega)
    ·rw[zE];exact h2
    ·rw[zE];exact h3
   ·rename_i hb;simp only[akC]at h;exact⟨0,λk hk=>by omega,(by simpa using hb:(dM z.length 0 z false).2=false),h.symm⟩
theorem YW(z:Zl)(h:∀p∈z,Ad p):∀k,(qH z k).map Prod.fst=z.map Prod.fst/\∀p∈qH z k,Ad p
 | 0=>⟨rfl,h⟩
 | k+1=>by
   obtain⟨h1,h2⟩:=YW z h k;obtain⟨a1,a2,_⟩:=yx (qH z k).length 0 (qH z k) false h2;exact⟨a1.trans h1,a2⟩
theorem Ce(l:List ae):(kV l).map Prod.fst=l:=by unfold kV;rw[arc];exact List.map_id l
theorem Ku(l:List ae):∀p∈kV l,Ad p:=by
 intro p hp;unfold kV at hp;obtain⟨i,_,rfl⟩:=apV.1 hp;exact⟨by simp,λ_=>by simp⟩
theorem aev(l:List ae):pY (kV l)=List.replicate l.length 0:=by
 unfold pY kV;rw[arc];have h:((λp:ae×Nat=>(p.2:Int)) ∘ λi:ae=>(i,0))=λ_=>(0:Int):=rfl
 rw[h,List.map_const']
theorem YX{z:Zl}{i:Nat}(hi:i<z.length)(h:jmp z[i].1.Op=false):ng z i=none:=by
 unfold ng;rw[anc hi];simp[h]
theorem aew(z:Zl)(i:Nat)(x:ae)(n:Nat):pY (z.set i (x,n))=(pY z).set i (n:Int):=by
 simp[pY,List.map_set]
theorem aex{a b:Zl}(h:a.map Prod.fst=b.map Prod.fst){i:Nat}(ha:i<a.length)(hb:i<b.length):a[i].1=b[i].1:=by
 have:=congrArg (λl=>l[i]?) h;simp only[apS,anc ha,anc hb,aqe,akC]at this;exact this
theorem VG(l:List ae)(hl:l.length≤1000000000)(z':Zl)(hz:yw (3 *l.length+1) (kV l)=some z')(ox:∀i∈l,jmp i.Op=true→(bN l).contains i.Arg=true):
  Pure prog 184 [du l] (.d (.sl (aD (pY z')))):=by
 obtain⟨N,NT,K4,rfl⟩:=LU _ _ _ hz;have gR:=YW (kV l) (Ku l);simp only[Ce]at gR;have hlen:∀k,(qH (kV l) k).length=l.length:=λk=>by simpa using congrArg List.length (gR k).1
 refine rn func184 ?_;simp[-cB,f184];refine⟨⟨by simp[maxLen];omega,by omega⟩,?_⟩;refine aw.weaken (Wk.eR 9 5002 (by simp[keys])) ?_;refine aw.cX [0,3,4] (N+1) (λk=> [(4,oD (decide (k<=N)))]) (λk=> [(5002,.row 3 1 (dd (aD (pY (qH (kV l) k)))))]) (λk=>k<=N+1) (by rfl) (by simp[qH,aev]) ?_;intro k hk hH;rcases apW hk with vG|rfl
 ·have hkN:k<=N:=by omega
  obtain⟨hf,aS⟩:=gR k;have og:=hlen k;have VH:qH (kV l) (k+1)=(dM l.length 0 (qH (kV l) k) false).1:=by rw[qH,og]
  have yV:decide (k+1<=N)=(dM l.length 0 (qH (kV l) k) false).2:=by
   rcases apW hkN with h|rfl
   ·have:=NT k h;rw[og]at this;rw[this];simp;omega
   ·rw[og]at K4;rw[K4];simp
  obtain⟨z,hzz⟩:∃z,qH (kV l) k=z:=⟨_,rfl⟩
  rw[hzz]at hf aS og VH yV⊢;clear NT K4 hz gR hlen hzz;simp[-cB,hkN];refine aw.cX [0,3,4,5] l.length (λj=> [(4,oD (dM j 0 z false).2),(5,iD j)]) (λj=> [(5002,.row 3 1 (dd (aD (pY (dM j 0 z false).1))))]) (λ_=>True) (by rfl) (by simp[dM]) ?_;intro j hj _;obtain⟨q1,q2,_⟩:=yx j 0 z false aS;rw[hf]at q1;rcases apW hj with ay|rfl
  ·have ee:=VF j z false;obtain⟨zj,hzj⟩:∃y,(dM j 0 z false).1=y:=⟨_,rfl⟩
   obtain⟨bj,Oo⟩:∃y,(dM j 0 z false).2=y:=⟨_,rfl⟩
   have pQ:dM j 0 z false=(zj,bj):=by rw[<-hzj,<-Oo]
   rw[pQ]at ee;rw[hzj]at q1 q2;have abQ:zj.length=l.length:=by simpa using congrArg List.length q1
   have yB:j<zj.length:=by omega
   have Es:l[j]?=some zj[j].1:=by rw[<-q1,apS,anc yB];rfl
   have Et:l[j]=zj[j].1:=by
    rw[anc ay]at Es;exact apO Es
   have h3:∀p∈zj,p.2<=3:=λp hp=>(q2 p hp).1
   have zg:=uh zj[j].1;have da:aN .i64 ((j:Int)+1):=iW;simp only at ee;cases ny:jmp zj[j].1.Op with
   | false=>
     rw[YX yB ny]at ee;simp only at ee;rw[ny]at zg;simp[-cB,ay,Et,pQ,ee];refine pC zg ?_;simp[-cB,ay,Et,pQ,ee,da]
   | true=>
     rw[ny]at zg;have gA:zj[j].1.Arg∈bN (zj.map Prod.fst):=by
      rw[q1];have:=ox zj[j].1 (apT Es) ny;simpa using this
     have lP:=PB zj (by omega) h3;have O2:=PC zj (by omega) h3 j yB (xe _ _ gA);rw[q1,abQ]at lP;rw[q1,abQ]at O2;have hfi:=YT (fY zj zj[j].1.Arg (aU (zj.take (j+1))));have hg:ng zj j=if zj[j].2<oP (fY zj zj[j].1.Arg (aU (zj.take (j+1))))then some (zj.set j (zj[j].1,oP (fY zj zj[j].1.Arg (aU (zj.take (j+1))))))else none:=by
      unfold ng;rw[anc yB];simp[ny]
     have YY:=Tm zj yB;have Tn:(pY zj).length=l.length:=by simp[pY,abQ]
     have Kv:(pY zj)[j]'(by omega)=(zj[j].2:Int):=(apQ.1 YY).2;have hss:=aew zj j;obtain⟨n,hn⟩:∃n,oP (fY zj zj[j].1.Arg (aU (zj.take (j+1))))=n:=⟨_,rfl⟩
     rw[hn]at hfi hg;simp[-cB,ay,Et,pQ,ee];refine pC zg ?_;simp[-cB,ay,Et,pQ,ee,da];refine ar.ah9 1000 rfl lP (by kernel_rfl) rfl (by simp) (by simp) (by simp[aD,Pz]) rfl (by simp) rfl (by simp[keys]) ?_;simp[-cB,ay,Et,pQ,ee,da];refine lC O2 ?_;simp[-cB,ay,Et,pQ,ee,da];refine pC hfi ?_;by_cases hc:zj[j].2<n
     ·rw[if_pos hc]at hg;rw[hg]at ee;have sT:((zj[j].2:Nat):Int)<(n:Nat):=by omega
      simp[ay,Et,pQ,ee,da,YY,Kv,Tn,hc,sT,hss]
     ·rw[if_neg hc]at hg;rw[hg]at ee;have sT:¬((zj[j].2:Nat):Int)<(n:Nat):=by omega
      simp[ay,Et,pQ,ee,da,YY,Kv,Tn,hc,sT]
  ·simp[-cB];rw[yV,VH];exact⟨vG,⟨rfl,rfl⟩,hkN⟩
 ·simp;intro h;omega
def Cf(S:ByteArray)(i:Nat):Bool:=(S.data[i]?.getD 0).toNat==32
def js(S:ByteArray):Nat->Nat×ByteArray
 | 0=>(0,⟨#[]⟩)
 | i+1=>if Cf S i then((js S i).1+1,⟨#[]⟩)else((js S i).1,(js S i).2++S.extract i (i+1))
theorem YZ(S:ByteArray):∀i,(js S i).1<=i
 | 0=>apU _
 | i+1=>by
   have:=YZ S i;rw[js];split<;>simp only<;>omega
theorem Y0(S:ByteArray):∀i,(js S i).2.size<=i
 | 0=>apU _
 | i+1=>by
   have:=Y0 S i;rw[js];split
   ·exact aqc _
   ·simp only[aqi,ByteArray.size_extract];omega
def vk(S:ByteArray)(o:Int):Nat->Nat->ByteArray
 | 0,_=>⟨#[]⟩
 | n+1,i=>if Cf S i=true/\((js S i).1:Int)=o/\0<o then(js S i).2 else vk S o n (i+1)
def Hu(S:ByteArray):Nat->Nat->Nat
 | 0,_=>0
 | n+1,i=>(if Cf S i then 1 else 0)+Hu S n (i+1)
def PD(S:ByteArray):Nat->Nat->Bool->Bool->Bool
 | 0,_,_,_=>true
 | n+1,i,e,z=>if Cf S i then(z||!e)&&PD S n (i+1) true false else PD S n (i+1) false z
theorem I5{S:ByteArray}{o:Int}:∀(n i:Nat),o<=0\/((js S i).1+Hu S n i:Nat)<=o->vk S o n i=⟨#[]⟩
 | 0,i,h=>rfl
 | n+1,i,h=>by
   rw[vk];rw[Hu]at h;rw[if_neg]
   ·refine I5 n (i+1) ?_;rcases h with h|h
    ·exact .inl h
    ·right;rw[js];split
     ·rename_i hb;rw[if_pos hb]at h;simp only;omega
     ·rename_i hb;rw[if_neg hb]at h;simp only;omega
   ·rintro⟨h1,h2,h3⟩;rcases h with h|h
    ·omega
    ·rw[if_pos h1]at h;omega
theorem Cg{S:ByteArray}{o:Int}:∀(n i:Nat) (e z:Bool),i+n<=S.size->PD S n i e z=true->(e=false->(js S i).2.size≠0)->(z=false->0<(js S i).1)->(z=true->(js S i).1=0)->0<o->((js S i).1:Int)<=o->o<((js S i).1+Hu S n i:Nat)->(vk S o n i).size≠0
 | 0,i,e,z,hn,hc,he,hz,uv,h0,h1,h2=>by simp[Hu]at h2;omega
 | n+1,i,e,z,hn,hc,he,hz,uv,h0,h1,h2=>by
   rw[vk];rw[PD]at hc;rw[Hu]at h2;by_cases hb:Cf S i=true
   ·rw[if_pos hb]at hc h2;simp only[apP,arw,arA]at hc;by_cases ho:((js S i).1:Int)=o
    ·rw[if_pos ⟨hb,ho,h0⟩];rcases hc.1 with h|h
     ·have:=uv h;omega
     ·exact he h
    ·rw[if_neg (λh=>ho h.2.1)];have hs:js S (i+1)=((js S i).1+1,⟨#[]⟩):=by rw[js,if_pos hb]
     refine Cg n (i+1) true false (by omega) hc.2 (λh=>by cases h) (λ_=>by rw[hs];simp) (λh=>by cases h) h0 ?_ ?_
     ·rw[hs];simp only;omega
     ·rw[hs];simp only;omega
   ·rw[if_neg hb]at hc h2;rw[if_neg (λh=>hb h.1)];have hs:js S (i+1)=((js S i).1,(js S i).2++S.extract i (i+1)):=by rw[js,if_neg hb]
    refine Cg n (i+1) false z (by omega) hc (λ_=>?_) (λh=>by rw[hs];exact hz h) (λh=>by rw[hs];exact uv h) h0 ?_ ?_
    ·rw[hs];simp only[aqi,ByteArray.size_extract];omega
    ·rw[hs];exact h1
    ·rw[hs];simp only;omega
theorem Y1(o:Int):∃R:ByteArray,Pure prog 235 [iD o] (.d (.v (.string R)))/\(R.size=0↔o<1\/38<o):=by
 obtain⟨S,hS⟩:∃S:ByteArray,S={data:= #[32,112,117,115,104,32,112,111,112,32,103,108,111,98,97,108,32,112,117,116,103,108,111,98,97,108,32,108,111,99,97,108,32,112,117,116,108,111,99,97,108,32,115,101,108,102,32,98,105,110,32,110,101,103,32,110,111,116,32,116,101,115,116,32,104,97,115,32,112,114,111,112,32,112,117,116,32,115,101,116,32,117,110,115,101,116,32,109,111,118,101,32,114,101,109,111,118,101,32,116,114,101,101,32,114,97,110,100,111,109,32,116,101,120,116,32,110,117,109,32,116,105,116,108,101,32,106,117,109,112,32,122,101,114,111,32,99,97,108,108,32,114,101,116,117,114,110,32,115,116,111,112,32,119,105,110,32,108,111,115,101,32,97,119,97,114,100,32,115,116,97,114,116,32,104,97,108,116,32,116,114,97,118,101,108,32,108,111,111,107,32,108,105,115,116,32,116,105,99,107,32,108,97,98,101,108,32]}:=⟨_,rfl⟩
 have hz:S.size=207:=by rw[hS];rfl
 have hk:PD S 207 0 true true=true:=by rw[hS];decide+kernel
 have hc:Hu S 207 0=39:=by rw[hS];decide+kernel
 refine⟨vk S o 207 0,?_,?_⟩
 ·obtain⟨R,hR⟩:∃R,vk S o 207 0=R:=⟨_,rfl⟩
  rw[hR];refine rn func235 ?_;simp[-cB,f235];rw[<-hS];clear hS hk hc;refine aw.cX [0,3,4,5] 207 (λi=> [(3,iD (js S i).1),(4,.d (.v (.string (js S i).2))),(5,iD i)]) (λ_=> []) (λi=>vk S o (207-i) i=R) (by rfl) (by simp[js,hR]) ?_;intro i hi hH;rcases apW hi with ay|heq
  ·have dw:(i:Int)<207:=by omega
   have PE:i<S.size:=by omega
   have da:aN .i64 ((i:Int)+1):=iW;have bx:js S (i+1)=if Cf S i then((js S i).1+1,⟨#[]⟩)else((js S i).1,(js S i).2++S.extract i (i+1)):=rfl
   rw[show 207-i=(207-(i+1))+1 by omega,vk]at hH;have rF:Cf S i=(S.data[i].toNat==32):=by
    unfold Cf;rw[aqf PE];rfl
   have rP:207-(i+1)=206-i:=by omega
   have h65:aN .i64 (((js S i).1:Int)+1)->True:=λ_=>trivial
   have hcb:(js S i).1<=i:=YZ S i;have h66:aN .i64 (((js S i).1:Int)+1):=iW;cases hb:Cf S i with
   | true=>
     rw[hb]at bx hH rF;simp only[if_true]at bx;simp only[true_and]at hH;have Y2:((S.data[i].toNat:Int) !=32)=false:=by
      have:S.data[i].toNat=32:=by simpa using rF.symm
      simp[this]
     by_cases ho:((js S i).1:Int)=o/\0<o
     ·rw[if_pos ho]at hH;simp[-cB,ay,dw,PE,Y2,ho.1,ho.2,hH]
     ·rw[if_neg ho]at hH;by_cases C9:((js S i).1:Int)=o
      ·have Ax:¬0<o:=λh=>ho ⟨C9,h⟩
       simp[ay,dw,PE,Y2,C9,Ax,da,bx,hH];rw[C9]at h66;exact⟨h66,by rw[<-rP];exact hH⟩
      ·simp[ay,dw,PE,Y2,C9,da,h66,bx,hH];rw[<-rP];exact hH
   | false=>
     rw[hb]at bx hH rF;simp only[aqq,if_false,false_and]at bx hH;have Y2:((S.data[i].toNat:Int) !=32)=true:=by
      have:S.data[i].toNat≠32:=by simpa using rF.symm
      simp;omega
     simp[ay,dw,PE,Y2,da,bx,hH];have dW:=Y0 S i;exact⟨⟨by omega,by omega⟩,by omega,by rw[<-rP];exact hH⟩
  ·subst heq;have:vk S o 0 207=R:=hH;simp;exact this
 ·constructor
  ·intro h;by_cases hh:o<1\/38<o
   ·exact hh
   ·exact absurd h (Cg 207 0 true true (by omega) hk (λh=>by cases h) (λh=>by cases h) (λ_=>rfl) (by omega) (by simp[js];omega) (by rw[hc];simp[js];omega))
  ·intro h;rw[I5 207 0 (by rw[hc];simp[js];omega)];rfl
theorem PF l k n: -1<=wg l k n/\(0<=wg l k n↔(bN (l.take k)).contains n=true):=by
 unfold wg uf;cases h:(l.take k).findIdx? (λi=>decide (i.Op=38)&&decide (i.Arg=n))with
 | none=>
   grind[List.findIdx?_eq_none_iff,bN,qD]
 | some j=>
   grind[List.findIdx?_eq_some_iff_getElem,bN,qD,List.getElem_mem]
set_option maxHeartbeats 2000000 in
theorem VI(l:List ae)(hl:l.length<=100000000000)(i:Nat)(hi:i<l.length):Pure prog 183 [du l,iD i] (iD (uc l (l.take i) l[i])):=by
 obtain⟨⟨o,a⟩,hx⟩:∃x,l[i]=x:=⟨_,rfl⟩
 rw[hx];have Tp:l[i]?=some ⟨o,a⟩:=by rw[anc hi,hx]
 have tA:=Ae l hl l.length (apU _) a;have rM:=Ae l hl i (by omega) a;obtain⟨-,p2⟩:=PF l l.length a;obtain⟨-,q2⟩:=PF l i a;rw[aqC]at p2;obtain⟨R,hR,hRz⟩:=Y1 o;have hh:=Pw o;have hI:=BG a;have hIb:ib a=kx a:=by simp[ib,kx,bJ]
 rw[hIb]at hI;have hj:=uh ⟨o,a⟩;have hR0:R.toList=[]↔o<1\/38<o:=by
  rw[<-hRz,ByteArray.toList_eq,Array.toList_eq_nil_iff];exact⟨λh=>by rw[ByteArray.size,h];rfl,Array.eq_empty_of_size_eq_zero⟩
 obtain⟨W,hW⟩:∃W,uc l (l.take i) ⟨o,a⟩=W:=⟨_,rfl⟩
 rw[hW];unfold uc at hW;generalize wg l l.length a=A at *;generalize wg l i a=B at *;generalize (bN l).contains a=c1 at *;generalize (bN (l.take i)).contains a=c2 at *;simp only at hj hW;generalize jmp o=j at *;generalize pH o=k at *;generalize kx a=b at *;clear hRz hIb;refine rn func183 ?_;simp[-cB,f183];intro bs;simp[-cB,hx,hi,ae.enc]
 repeat' (first
  | (with_reducible refine And.intro ?_ ?_)
  | (refine aA (λh=>?_) (λh=>?_)<;>(try simp at h)<;>(try simp[-cB,h,hx,hi,ae.enc]))
  | ((first|refine pC hj ?_|refine pC tA ?_|refine pC rM ?_|refine pC hR ?_|refine pC hh ?_|refine pC hI ?_|refine lC hj ?_|refine lC tA ?_|refine lC rM ?_|refine lC hR ?_|refine lC hh ?_|refine lC hI ?_|refine pG hj ?_|refine pG tA ?_|refine pG rM ?_|refine pG hR ?_|refine pG hh ?_|refine pG hI ?_)<;>(try simp[-cB,hx,hi,ae.enc]))
  | (with_reducible intro _))
 all_goals grind
theorem LV{w:Zl}{k:Nat}{p:ae×Nat}(h:jmp p.1.Op=false):oO w k p=mz p.1:=by
 unfold oO;split
 ·rename_i ed;unfold mz;rw[if_pos (by omega)]
 ·rw[if_neg (by rw[h];simp)]
theorem Eu{w:Zl}{k:Nat}{p:ae×Nat}(h:jmp p.1.Op=true):oO w k p=fD p.1.Op (fY w p.1.Arg (k+cL p)) p.2:=by
 unfold oO;rw[if_neg (λed=>by rw[ed]at h;cases h),if_pos h]
theorem VJ(w z:Zl)(i:Nat)(h:i<z.length):fv w 0 (z.take (i+1))=fv w 0 (z.take i)++oO w (aU (z.take i)) z[i]:=by
 rw[aqy,anc h,Ee];simp[fv]
theorem PG(w:Zl)(k:Nat)(p:ae×Nat):(oO w k p).length<=3:=by
 by_cases h:jmp p.1.Op=true
 ·rw[Eu h,fD,apY];have:(kv (fY w p.1.Arg (k+cL p)) p.2).length<=2:=by
   match p.2 with
   | 0=>simp[kv]
   | 1=>simp[kv]
   | n+2=>simp[kv]
  omega
 ·rw[LV (by simpa using h)];exact yA _
theorem Hv(w:Zl):∀(k:Nat) (z:Zl),(fv w k z).length<=3 *z.length
 | k,[]=>by simp[fv]
 | k,p::z=>by
   have:=Hv w (k+cL p) z;have:=PG w k p;rw[fv,apX,apY];omega
theorem agw{o:Int}(h:jmp o=true):1<=o/\o<38:=by
 unfold jmp at h;simp only[arw,decide_eq_true_eq]at h;omega
theorem VK{l:List ae}(h:ud l [] l=0):∀i∈l,jmp i.Op=true->(bN l).contains i.Arg=true:=by
 intro i hi hj;obtain⟨b,c,hbc⟩:=arh hi;have:=Ei [] l h b i c hbc;unfold uc at this;split at this
 ·omega
 ·rename_i hn;cases hc:(bN l).contains i.Arg with
  | true=>rfl
  | false=>exact absurd ⟨hj,hc⟩ hn
theorem Ci(l:List Int):∀x∈iL l,x.length=1:=by
 intro x hx;obtain⟨c,_,rfl⟩:=apV.1 hx;rfl
theorem MQ(l:List ae)(hl:l.length<=1000000000):Pure prog 124 [du l] (.bM [Px (pI l).1,iD (pI l).2]):=by
 obtain⟨c,hc⟩:∃c,pI l=c:=⟨_,rfl⟩
 have hw0:Eg l=ud l (l.take 0) (l.drop 0):=rfl;obtain⟨E,hE⟩:∃E,Eg l=E:=⟨_,rfl⟩
 rw[hE]at hw0;obtain⟨z,hz,hf,h3,_⟩:=zB (3 *l.length+1) (kV l) (Ku l) (by simp[kV];omega);rw[Ce]at hf;have og:z.length=l.length:=by simpa using congrArg List.length hf
 have dW:=VG l hl z hz;have Tq:∀p∈z,p.2<=3:=λp hp=>(h3 p hp).1
 have lP:=Q7 z (by omega) Tq;rw[hf,og]at lP;have nD:=Fu z (l.length+1);have Gi:=Ks z (n:=l.length+1) (k:=l.length) (by omega);have abR:(yz z (l.length+1))[l.length]'(by omega)=(aU z:Int):=by
  rw[anc (by omega)]at Gi;rw[apO Gi,<-og,aqC]
 have wA:=hc;unfold pI at wA;rw[hE,hz]at wA;simp only at wA;rw[hc];refine rn func124 ?_;simp[-cB,f124];refine aw.cX [0,4] l.length (λi=> [(4,iD i)]) (λ_=> []) (λi=>ud l (l.take i) (l.drop i)=E) (by rfl) (by simpa using hw0.symm) ?_;intro i hi hH;rcases apW hi with ay|heq
 ·have da:aN .i64 ((i:Int)+1):=iW;have OB:=VI l (by omega) i ay;have hdr:l.drop i=l[i]::l.drop (i+1):=by rw[<-List.getElem_cons_drop]
  have AQ:l.take i++ [l[i]]=l.take (i+1):=by rw[aqy,anc ay];rfl
  rw[hdr,ud,AQ]at hH;by_cases hw:uc l (l.take i) l[i]=0
  ·rw[if_pos hw]at hH;rw[hw]at OB;simp[-cB,ay];refine pC OB ?_;simp[ay,da,hH]
  ·rw[if_neg hw]at hH;rw[hH]at OB hw;rw[if_pos hw]at wA;simp[-cB,ay];refine pC OB ?_;simp[ay,hw,<-wA];rfl
 ·have hE0:E=0:=by
   rw[heq,aqC,List.drop_length,ud]at hH;exact hH.symm
  have ox:=VK (l:=l) (by rw[<-hE0];exact hE);have dW:=dW ox;rw[hE0]at wA;simp at wA;simp[-cB,heq];refine pC dW ?_;simp;refine pC lP ?_;have adp:(65536:Int)<(aU z:Int)↔65536<aU z:=by omega
  by_cases hL:65536<aU z
  ·rw[if_pos hL]at wA;simp[nD,abR,hL,adp,<-wA];rfl
  ·rw[if_neg hL]at wA;simp[nD,abR,hL,adp];clear hH hE hw0 hz Gi abR;refine aw.weaken (Wk.Ot (t:=8) (h:=1000) (k:=1) (ty:=5) (by rfl) (by simp[keys])) ?_;refine aw.cX [0,6,7,8,9] l.length (λi=> [(9,iD i)]) (λi=> [(1000,.row 5 1 (dd (iL (fv z 0 (z.take i)))))]) (λi=>∀p∈z.take i,(jmp p.1.Op&&decide (p.2=3))=false) (by rfl) (by simp[fv,iL]) ?_;intro j hj hJ;have oU:=Hv z 0 (z.take j);rw[aqs]at oU;rcases apW hj with ay|GY
   ·have yB:j<z.length:=by omega
    have da:aN .i64 ((j:Int)+1):=iW;have Es:l[j]=z[j].1:=by
     have:=aex (a:=z) (b:=kV l) (by rw[hf,Ce]) yB (by simp[kV];omega);rw[this];simp[kV]
    have zg:=uh z[j].1;have ki:=VJ z z j yB;have YY:=Tm z yB;have Tn:(pY z).length=l.length:=by simp[pY,og]
    have Kv:(pY z)[j]'(by omega)=(z[j].2:Int):=(apQ.1 YY).2;have Tc:=Tq z[j] (ap1 yB);have M8:(jmp z[j].1.Op&&decide (z[j].2=3))=false->∀p∈z.take (j+1),(jmp p.1.Op&&decide (p.2=3))=false:=by
     intro h p hp;rcases sk (anc yB) hp with h'|rfl
     ·exact hJ p h'
     ·exact h
    cases ny:jmp z[j].1.Op with
    | false=>
      rw[ny]at zg M8;have he:=vj z[j].1;have sU:=yA z[j].1;rw[LV ny]at ki;simp[-cB,ay,Es];refine pC zg ?_;simp[-cB,ay,Es];refine pC he ?_;simp[ay,da,ki];exact⟨⟨Ci _,by omega⟩,λa b zy Sk=>by have:=M8 rfl (a,b) zy;simpa[Sk]using this⟩
    | true=>
      rw[ny]at zg M8;simp[-cB,ay,Es];refine pC zg ?_;by_cases h3:z[j].2=3
      ·simp[ay,Es,Tn,Kv,h3];have yr:(z.any λp=>jmp p.1.Op&&decide (p.2=3))=true:=art.2 ⟨z[j],ap1 yB,by simp[ny,h3]⟩;rw[yr]at wA;simp at wA;rw[<-wA];exact⟨rfl,rfl⟩
      ·have SS:¬((z[j].2:Nat):Int)=3:=by omega
       have O2:=PC z (by omega) Tq j yB (xe _ _ (by rw[hf];have:=ox z[j].1 (by rw[<-Es];exact ap1 ay) ny;simpa using this));rw[hf,og]at O2;rw[Eu ny,<-zD z j yB]at ki;have hjp:=YU z[j].1.Op (fY z z[j].1.Arg (aU (z.take (j+1)))) z[j].2 (agw ny) (by omega);simp[ay,Es,Tn,Kv,SS];refine aw.bI [Q0,Q0,Q0,Q0,Q0,Q0,Q0,Q0,Q0,Q0,Q0,Q0,Q0,Q0,Q0,none,asi] [iD (fY z z[j].1.Arg (aU (z.take (j+1)))),Px (fD z[j].1.Op (fY z z[j].1.Arg (aU (z.take (j+1)))) z[j].2)] bc (by kernel_rfl) ?_;simp[ay,Es,Tn,Kv,SS,O2.ok,hjp.ok,ki,da];have vG:(fD z[j].1.Op (fY z z[j].1.Arg (aU (z.take (j+1)))) z[j].2).length<=3:=by
        have:=PG z (aU (z.take j)) z[j];rw[Eu ny,<-zD z j yB]at this;exact this
       exact⟨⟨Ci _,by omega⟩,λa b zy Sk=>by have:=M8 (by simp[h3]) (a,b) zy;simpa[Sk]using this⟩
   ·have aia:(z.any λp=>jmp p.1.Op&&decide (p.2=3))=false:=by
     rw[aq9];intro p hp;rw[GY,<-og,aqC]at hJ;rw[hJ p hp];simp
    rw[aia]at wA;simp at wA;simp[GY,<-wA];rw[<-og,aqC]
theorem Gk{t:aq}{locals:Int}{e:au}(h:cw t locals e false=true)(hk:e.Kind=6):∃a b,e.av=[a,b]:=by
 rw[iP,apP]at h;have h1:=h.1;simp[dH,hk,ec]at h1;have hl:e.av.length=2:=by omega
 generalize e.av=l at hl
 match l,hl with
 | [a,b],_=>exact⟨a,b,rfl⟩
theorem zF{t:aq}{locals:Int}{e x:au}{said:Bool}(h:cw t locals e said=true)(hx:x∈e.av):cw t locals x false=true:=by
 rw[iP,apP,jd,apR]at h;exact h.2 x hx
def fG(r:List ae×Int):V:= .bM [.d (.sl (r.1.map ae.enc)),iD r.2]
theorem Af(l:List au)(hl:l.length≤2199023255488)(n:Int)(hn:0≤n∧n+2 *fw l≤1000000000)
  (ih:∀(i:Nat) (h:i<l.length) (m:Int),0<=m/\m+2 *ue l[i]<=1000000000->Pure prog 292 [.agg (l[i].enc.map .d),iD m] (fG (aT l[i] m))):
  Pure prog 298 [.d (.sl (l.map au.enc)),iD n] (fG (aK l n)):=by
 have iY:=λi=>yy (l.take i) (λx _ m=>iQ x m) n
 have akb:∀i,fw (l.take i)<=fw l:=λi=>by
  have:=Hs (l.take i) (l.drop i);rw[aqh]at this;omega
 unfold fG;refine rn func298 ?_;simp[f298];refine aw.weaken (Wk.aa3 (t:=6) rfl) ?_;refine aw.cX [0,1,6,7] l.length (λi=> [(1,iD (aK (l.take i) n).2),(6,.d (.sl ((aK (l.take i) n).1.map ae.enc))),(7,iD i)]) (λ_=> []) (λ_=>True) (by rfl) (by simp[aK]) ?_;intro i hi _;rcases apW hi with ay|rfl
 ·have bR:l[i]?=some l[i]:=anc ay;have AQ:List.take (i+1) l=List.take i l++ [l[i]]:=by rw[aqy,bR];rfl
  have hS:=ih i ay;have ee:=Vv (l.take i) l[i] n;have dW:=Hs (l.take i) [l[i]];rw[<-AQ]at ee dW;simp only[fw]at dW;have h0:=akb (i+1);have h1:=iY i;have h2:=iQ l[i] (aK (l.take i) n).2;generalize hE:l[i]=x at *;generalize hM:aK (l.take i) n=k at *;generalize hM':aK (l.take (i+1)) n=k' at *;obtain⟨k1,k2⟩:=k;simp only at ee h1 h2;have a4:aN .i64 ((i:Int)+1):=iW;simp[ay,bR,hE];have hC:=hS k2 ⟨by omega,by omega⟩;generalize aT x k2=q at *;obtain⟨q1,q2⟩:=q;unfold fG at hC;simp only at h2 ee hC;refine ar.bA rfl (hC) (by simp) rfl (by simp) rfl ?_;simp;refine ar.bA rfl (dz k1 q1 (by omega) (by omega)) (by simp) rfl (by simp) rfl ?_;simp[hM',ee,a4,ay]
 ·simp
theorem I6(t:aq)(locals:Int)(e:au)(he:e.wf)(hb:cw t locals e false=true)(n:Int)(hn:0≤n∧n+2 *ue e≤1000000000):
  Pure prog 292 [.agg (e.enc.map .d),iD n] (fG (aT e n)):=by
 obtain⟨N,hN⟩:∃N,SizeOf.sizeOf e<N:=⟨_,ap5 _⟩
 induction N generalizing e n with
 | zero=>omega
 | succ N ih=>
   have hw:=(au.qu e).1 he;have hlen:e.av.length<=2199023255488:=by omega
   have kh:∀x∈e.av,∀m:Int,0<=m/\m+2 *ue x<=1000000000->Pure prog 292 [.agg (x.enc.map .d),iD m] (fG (aT x m)):=λx hx m hm=>
    ih x (hw.2.2.2.2.2 _ hx) (zF hb hx) m hm (by have:=au.mO hx;omega)
   have hz:=vL e;by_cases hk:e.Kind=6
   ·obtain⟨a,b,hA⟩:=Gk hb hk;have hSa:=kh a (by simp[hA]);have hSb:=kh b (by simp[hA]);rw[hA]at hz;simp only[fw]at hz;have ba:=iQ a (n+2);have bb:=iQ b (aT a (n+2)).2;have a1:aN .i64 (n+2):=iW;have a2:aN .i64 (n+1):=iW;have Aw:=λL=>(uX n).ok L
    have pU:=λm L=>(mb m).ok L
    have nv:=λm L=>(xw m).ok L
    have hl3:=λa b L=>(cM a b).ok L
    have ca:=hSa (n+2) ⟨by omega,by omega⟩;by_cases ho:e.Op=1
    ·rw[uE e a b [] n hk ho hA];generalize aT a (n+2)=p at *;obtain⟨p1,p2⟩:=p;have cb:=hSb p2 ⟨by omega,by omega⟩;generalize aT b p2=q at *;obtain⟨q1,q2⟩:=q;unfold fG at ca cb⊢;simp only at ba bb ca cb⊢;refine rn func292 ?_;simp[f292,hk,ho];intro bs;simp[hA,a1];refine ar.bA rfl (ca) (by simp) rfl (by simp) rfl ?_;simp[hA,a1,a2,ho];refine ar.bA rfl (cb) (by simp) rfl (by simp) rfl ?_;simp[hA,a1,a2,ho];refine ar.bA rfl (uX n) (by simp) rfl (by simp) rfl ?_;simp[hA,a1,a2,ho];refine ar.weaken (Wk.freeze 48 (ys:=([ae.mk 25 n]).map _) rfl) ?_;simp;refine ar.bA rfl (dz (p1) [ae.mk 25 n] (by first|omega|(simp<;>omega)) (by simp)) (by simp) rfl (by simp) rfl ?_;simp[hA,a1,a2,ho];refine ar.bA rfl (cM 1 1) (by simp) rfl (by simp) rfl ?_;simp[hA,a1,a2,ho];refine ar.bA rfl (xw (n+1)) (by simp) rfl (by simp) rfl ?_;simp[hA,a1,a2,ho];refine ar.bA rfl (mb n) (by simp) rfl (by simp) rfl ?_;simp[hA,a1,a2,ho];refine ar.weaken (Wk.freeze 60 (ys:=([ae.mk 1 1,ae.mk 24 (n+1),ae.mk 38 n]).map _) rfl) ?_;simp;refine ar.bA rfl (dz (p1++ [ae.mk 25 n]) [ae.mk 1 1,ae.mk 24 (n+1),ae.mk 38 n] (by first|omega|(simp<;>omega)) (by simp)) (by simp) rfl (by simp) rfl ?_;simp[hA,a1,a2,ho];refine ar.bA rfl (dz (p1++ [ae.mk 25 n]++ [ae.mk 1 1,ae.mk 24 (n+1),ae.mk 38 n]) q1 (by first|omega|(simp<;>omega)) (by omega)) (by simp) rfl (by simp) rfl ?_;simp[hA,a1,a2,ho];refine ar.bA rfl (cM 11 0) (by simp) rfl (by simp) rfl ?_;simp[hA,a1,a2,ho];refine ar.bA rfl (mb (n+1)) (by simp) rfl (by simp) rfl ?_;simp[hA,a1,a2,ho];refine ar.weaken (Wk.freeze 69 (ys:=([ae.mk 11 0,ae.mk 38 (n+1)]).map _) rfl) ?_;simp;refine ar.bA rfl (dz (p1++ [ae.mk 25 n]++ [ae.mk 1 1,ae.mk 24 (n+1),ae.mk 38 n]++q1) [ae.mk 11 0,ae.mk 38 (n+1)] (by first|omega|(simp<;>omega)) (by simp)) (by simp) rfl (by simp) rfl ?_;simp[hA,a1,a2,ho]
    ·by_cases ir:e.Op=2
     ·rw[sy e a b [] n hk ir hA];generalize aT a (n+2)=p at *;obtain⟨p1,p2⟩:=p;have cb:=hSb p2 ⟨by omega,by omega⟩;generalize aT b p2=q at *;obtain⟨q1,q2⟩:=q;unfold fG at ca cb⊢;simp only at ba bb ca cb⊢;refine rn func292 ?_;simp[f292,hk,ir];intro bs;simp[hA,a1];refine ar.bA rfl (ca) (by simp) rfl (by simp) rfl ?_;simp[hA,a1,a2,ir];refine ar.bA rfl (cb) (by simp) rfl (by simp) rfl ?_;simp[hA,a1,a2,ir];refine ar.bA rfl (uX n) (by simp) rfl (by simp) rfl ?_;simp[hA,a1,a2,ir];refine ar.weaken (Wk.freeze 48 (ys:=([ae.mk 25 n]).map _) rfl) ?_;simp;refine ar.bA rfl (dz (p1) [ae.mk 25 n] (by first|omega|(simp<;>omega)) (by simp)) (by simp) rfl (by simp) rfl ?_;simp[hA,a1,a2,ir];refine ar.bA rfl (dz (p1++ [ae.mk 25 n]) q1 (by first|omega|(simp<;>omega)) (by omega)) (by simp) rfl (by simp) rfl ?_;simp[hA,a1,a2,ir];refine ar.bA rfl (cM 11 0) (by simp) rfl (by simp) rfl ?_;simp[hA,a1,a2,ir];refine ar.bA rfl (xw (n+1)) (by simp) rfl (by simp) rfl ?_;simp[hA,a1,a2,ir];refine ar.bA rfl (mb n) (by simp) rfl (by simp) rfl ?_;simp[hA,a1,a2,ir];refine ar.bA rfl (cM 1 0) (by simp) rfl (by simp) rfl ?_;simp[hA,a1,a2,ir];refine ar.bA rfl (mb (n+1)) (by simp) rfl (by simp) rfl ?_;simp[hA,a1,a2,ir];refine ar.weaken (Wk.freeze 85 (ys:=([ae.mk 11 0,ae.mk 24 (n+1),ae.mk 38 n,ae.mk 1 0,ae.mk 38 (n+1)]).map _) rfl) ?_;simp;refine ar.bA rfl (dz (p1++ [ae.mk 25 n]++q1) [ae.mk 11 0,ae.mk 24 (n+1),ae.mk 38 n,ae.mk 1 0,ae.mk 38 (n+1)] (by first|omega|(simp<;>omega)) (by simp)) (by simp) rfl (by simp) rfl ?_;simp[hA,a1,a2,ir]
     ·have hL:¬qe e:=by simp[qe,hk,ho,ir]
      rw[oz e n hL];have hz:=vL e;have bd:=yy e.av (λx _ m=>iQ x m) n;have hc:=Af e.av hlen n ⟨by omega,by omega⟩ (λi h m hm=>kh _ (ap1 h) m hm);generalize aK e.av n=p at *;obtain⟨p1,p2⟩:=p;unfold fG at hc⊢;simp only at bd hc⊢;refine rn func292 ?_;simp[f292,hk,ho,ir];intro bs;refine ar.bA rfl (hc) (by simp) rfl (by simp) rfl ?_;simp;refine ar.bA rfl (YI e) (by simp) rfl (by simp) rfl ?_;simp;refine ar.weaken (Wk.freeze 98 (ys:=([cG e]).map _) rfl) ?_;simp;refine ar.bA rfl (dz p1 [cG e] (by omega) (by simp)) (by simp) rfl (by simp) rfl ?_;simp
   ·have hL:¬qe e:=by simp[qe,hk]
    rw[oz e n hL];have hz:=vL e;have bd:=yy e.av (λx _ m=>iQ x m) n;have hc:=Af e.av hlen n ⟨by omega,by omega⟩ (λi h m hm=>kh _ (ap1 h) m hm);generalize aK e.av n=p at *;obtain⟨p1,p2⟩:=p;unfold fG at hc⊢;simp only at bd hc⊢;refine rn func292 ?_;simp[f292,hk];intro bs;refine ar.bA rfl (hc) (by simp) rfl (by simp) rfl ?_;simp;refine ar.bA rfl (YI e) (by simp) rfl (by simp) rfl ?_;simp;refine ar.weaken (Wk.freeze 98 (ys:=([cG e]).map _) rfl) ?_;simp;refine ar.bA rfl (dz p1 [cG e] (by omega) (by simp)) (by simp) rfl (by simp) rfl ?_;simp
theorem VL{t:aq}{locals:Int}{e:au}(h:cw t locals e true=true)(h1:e.Kind≠19)(h2:e.Kind≠13):cw t locals e false=true:=by
 rw[iP]at h⊢;simpa[dH,h1,h2]using h
@[simp] theorem al.Tg(k n:Int)(s:ByteArray)(a:List au)(b c:List al):(al.mk k n s a b c).Kind=k:=rfl
@[simp] theorem al.ags(k n:Int)(s:ByteArray)(a:List au)(b c:List al):(al.mk k n s a b c).aI=n:=rfl
@[simp] theorem al.aep(k n:Int)(s:ByteArray)(a:List au)(b c:List al):(al.mk k n s a b c).Name=s:=rfl
@[simp] theorem al.Tf(k n:Int)(s:ByteArray)(a:List au)(b c:List al):(al.mk k n s a b c).av=a:=rfl
@[simp] theorem al.Sn(k n:Int)(s:ByteArray)(a:List au)(b c:List al):(al.mk k n s a b c).Body=b:=rfl
@[simp] theorem al.So(k n:Int)(s:ByteArray)(a:List au)(b c:List al):(al.mk k n s a b c).bC=c:=rfl
theorem al.q8(s:al):SizeOf.sizeOf s.Body<SizeOf.sizeOf s:=by
 cases s;simp only[al.Sn,al.mk.sizeOf_spec];omega
theorem al.re(s:al):SizeOf.sizeOf s.bC<SizeOf.sizeOf s:=by
 cases s;simp only[al.So,al.mk.sizeOf_spec];omega
mutual
def AZ:al->Nat
 | .mk _ _ _ a b c=>1+fw a+gB b+gB c
def gB:List al->Nat
 | []=>0
 | s::l=>AZ s+gB l
end
theorem ui(s:al):AZ s=1+fw s.av+gB s.Body+gB s.bC:=by cases s;rw[AZ];rfl
set_option maxHeartbeats 4000000
set_option maxRecDepth 40000
def oQ(s:al)(named:Bool)(args:Int)(body other:Bool):Bool:=
 decide ((s.av.length:Int)=args)&&(body||decide (s.Body.length=0))&&(other||decide (s.bC.length=0))&&(named||(s.Name.toList.isEmpty&&decide (s.aI=0)))
def gX(s:al):Bool×Bool:=
 if s.Kind=1 then(oQ s false s.av.length false false&&eE s.av.length 1 8,false)
 else if s.Kind=2\/s.Kind=3\/s.Kind=5\/s.Kind=6\/s.Kind=17\/s.Kind=23 then(oQ s true 1 false false,true)
 else if s.Kind=4 then(oQ s true 2 false false,true)
 else if s.Kind=7 then(oQ s false 2 false false,false)
 else if s.Kind=8\/s.Kind=12\/s.Kind=16\/s.Kind=20\/s.Kind=22\/s.Kind=19 then(oQ s false 1 false false,false)
 else if s.Kind=9 then(oQ s false 1 true true,false)
 else if s.Kind=10 then(oQ s false 1 true false,false)
 else if s.Kind=11 then(oQ s true 1 true false,true)
 else if s.Kind=18 then(oQ s true 0 false false,true)
 else if s.Kind=13\/s.Kind=14\/s.Kind=15\/s.Kind=21 then(oQ s false 0 false false,false)
 else(false,false)
def o8(t:aq)(s:al)(locals:Int):Bool:=
 if s.Name.toList.isEmpty then
  if s.Kind=2\/s.Kind=3 then decide (0<=s.aI)&&decide (s.aI<locals)
  else if s.Kind=11 then decide (0<=s.aI)&&decide (s.aI<locals-1)&&decide (1<locals)
  else if s.Kind=23 then eE s.aI 0 (t.aW.length-1)
  else if s.Kind=4 then eE s.aI 0 (t.aM.length-1)
  else if s.Kind=5\/s.Kind=6 then decide (0<=s.aI)&&decide (s.aI<t.Flags)
  else if s.Kind=17\/s.Kind=18 then eE s.aI 0 (t.eu.length-1)
  else true
 else false
theorem PH(s:al)(named:Bool)(args:Int)(body other:Bool):Pure prog 230 [.agg (s.enc.map .d),oD named,iD args,oD body,oD other] (oD (oQ s named args body other)):=by
 refine rn func230 ?_;simp[f230];refine⟨?_,?_,?_,?_,?_⟩
 any_goals (simp+contextual;done)
 have e:s.Name.toList.isEmpty=decide (s.Name.toList=[]):=by cases s.Name.toList<;>simp
 rw[oQ,e,show decide (s.aI=0)=(s.aI==0)from rfl];simp
theorem abS(s:al):Pure prog 180 [.agg (s.enc.map .d)] (.bM [oD (gX s).1,oD (gX s).2]):=by
 refine rn func180 ?_;simp[-cB,f180]
 repeat' (first
  | (with_reducible refine And.intro ?_ ?_)
  | ((first|(refine aA (λh=>?_) (λh=>?_)<;>(try simp at h))|refine pC (PH s _ _ _ _) ?_|refine pC (qF _ _ _) ?_|refine lC (PH s _ _ _ _) ?_|refine lC (qF _ _ _) ?_|refine pG (PH s _ _ _ _) ?_|refine pG (qF _ _ _) ?_)<;>(try simp[-cB, *]))
  | (with_reducible intro _))
 all_goals first|(simp[gX, *];done)|skip
theorem Y3(t:aq)(s:al)(hk:s.Kind=11)(hn:s.Name.toList=[]):Pure prog 181 [.agg (t.enc.map .d),.agg (s.enc.map .d),iD (-9223372036854775808)] (oD false):=by
 refine Pure.Dw func181 rfl (by simp[f181]) ?_;refine aw.fZ ?_;simp[f181];intro bs;refine aw.fZ ?_;simp[hn];refine aw.seq (aw.fZ ?_);simp[hk];refine aw.block (aw.fZ ?_);simp;refine aw.cond rfl (λh=>by simp at h) (λ_=>?_);refine aw.fZ ?_;simp;refine aw.cond rfl (λ_=>?_) (λh=>by simp at h);refine aw.seq (aw.aee (ar.stop 7 [] (by rfl) ?_));simp;refine ar.ajO (a:= -9223372036854775808) (b:=1) rfl (by rfl) (by simp) (by simp) (by simp) ?_;refine bf _ _ [] (by rfl) ?_;simp;refine aw.ret ?_;simp
theorem Hw(t:aq)(ht:t.wf)(s:al)(locals:Int)(hl:aN .i64 locals):Pure prog 181 [.agg (t.enc.map .d),.agg (s.enc.map .d),iD locals] (oD (o8 t s locals)):=by
 have b1:=aq.oH ht;have b2:=aq.qq ht;have b3:=aq.BE ht;by_cases hm:(s.Kind=11/\s.Name.toList=[])/\locals= -9223372036854775808
 ·obtain⟨⟨hk,hn⟩,rfl⟩:=hm;exact(Y3 t s hk hn).eq rfl (by simp[o8,hk,hn])
 have jz:s.Kind=11->s.Name.toList=[]->aN .i64 (locals-1):=λh1 h2=>by
  rw[aR]at hl⊢;have:¬locals= -9223372036854775808:=λh=>hm ⟨⟨h1,h2⟩,h⟩
  omega
 clear hm;refine rn func181 ?_;simp[-cB,f181]
 repeat' (first
  | (with_reducible refine And.intro ?_ ?_)
  | ((first|(refine aA (λh=>?_) (λh=>?_)<;>(try simp at h))|refine pC (qF _ _ _) ?_|refine lC (qF _ _ _) ?_|refine pG (qF _ _ _) ?_)<;>(try simp[-cB, *]))
  | (with_reducible intro _))
 all_goals first|assumption|(exact jz (by assumption) (by assumption))|(rw[aR];omega)|(simp[o8, *];done)|skip
def jt(a b:Int):Int:=if b<a then a else b
theorem I7(a b:Int):Pure prog 228 [iD a,iD b] (iD (jt a b)):=by
 refine rn func228 ?_;simp[-cB,f228]
 repeat' (first
  | (with_reducible refine And.intro ?_ ?_)
  | (refine aA (λh=>?_) (λh=>?_)<;>(try simp at h)<;>(try simp[-cB, *]))
  | (with_reducible intro _))
 all_goals simp[jt, *]<;>omega
mutual
def xf:al->Int->Int->Int
 | .mk _ _ _ a b c,m,n=>jt (eb a m n) (jt (if b.isEmpty then 0 else(if 1<m then iR b (m-1) 0 else 0)+1) (if c.isEmpty then 0 else(if 1<m then iR c (m-1) 0 else 0)+1))
def iR:List al->Int->Int->Int
 | [],_,n=>n
 | s::l,m,n=>iR l m (xf s m n)
end
def im(l:List al)(m:Int):Int:=if l.isEmpty then 0 else(if 1<m then iR l (m-1) 0 else 0)+1
theorem Cj(s:al)(m n:Int):xf s m n=jt (eb s.av m n) (jt (im s.Body m) (im s.bC m)):=by cases s;rw[xf];rfl
theorem Q8(l:List al)(s:al)(m n:Int):iR (l++ [s]) m n=xf s m (iR l m n):=by
 induction l generalizing n with
 | nil=>simp only[ap4,iR]
 | cons x l ih=>simp only[apZ,iR];exact ih _
theorem Y4:∀(N:Nat) (l:List al),SizeOf.sizeOf l<N->∀m n:Int,1<=m->0<=n->n<=m->0<=iR l m n/\iR l m n<=m:=by
 intro N
 induction N with
 | zero=>intro l h;omega
 | succ N ih=>
   intro l h m n h1 h2 h3;cases l with
   | nil=>rw[iR];omega
   | cons s l=>
     rw[iR];have hs:SizeOf.sizeOf s<N:=by simp only[aqt]at h;omega
     have hb:=al.q8 s;have he:=al.re s;have hB:∀l':List al,SizeOf.sizeOf l'<N->0<=im l' m/\im l' m<=m:=λl' hl=>by
      unfold im;split
      ·omega
      ·split
       ·have:=ih l' hl (m-1) 0 (by omega) (by omega) (by omega);omega
       ·omega
     have b1:=hB s.Body (by omega);have b2:=hB s.bC (by omega);have b3:=LO s.av m n h1 h2 h3;refine ih l (by simp only[aqt]at h;omega) m _ h1 ?_ ?_
     ·rw[Cj];unfold jt;repeat' split
      all_goals omega
     ·rw[Cj];unfold jt;repeat' split
      all_goals omega
theorem VM(l:List au)(x:au)(m n:Int):eb (l++ [x]) m n=jt (eb l m n) (kK x m):=by
 rw[Gf];unfold jt;split<;>split<;>omega
theorem abT(l:List al)(hl:∀s∈l,s.wf)(hlen:l.length *104<=140737488351232)(m:Int)(hm:1<=m/\m<=1000000000000):Pure prog 179 [.d (.sl (l.map al.enc)),iD m] (iD (im l m)):=by
 obtain⟨n,hn⟩:∃n,SizeOf.sizeOf l<n:=⟨_,ap5 _⟩
 induction n generalizing l m with
 | zero=>omega
 | succ n ih=>
   have kh:∀s∈l,(∀m,1≤m∧m≤1000000000000→Pure prog 179 [.d (.sl (s.Body.map al.enc)),iD m] (iD (im s.Body m)))∧
     (∀m,1<=m/\m<=1000000000000->Pure prog 179 [.d (.sl (s.bC.map al.enc)),iD m] (iD (im s.bC m))):=by
    intro s hs;have hw:=hl s hs;have h1:=aqv hs;have h2:=al.q8 s;have h3:=al.re s;exact⟨λm hm=>ih s.Body (al.Fg hw) (al.Ff hw) m hm (by omega),λm hm=>ih s.bC (al.Fi hw) (al.Fh hw) m hm (by omega)⟩
   by_cases hE:l=[]
   ·subst hE;refine rn func179 ?_;simp[f179];rfl
   have hD:im l m=(if 1<m then iR l (m-1) 0 else 0)+1:=by unfold im;simp[hE]
   rw[hD];have hG:=λa b L=>(I7 a b).ok L
   have hBd:=λpre=>Y4 _ pre (ap5 _) (m-1) 0
   refine rn func179 ?_;simp[f179];simp[hE];refine⟨λh1=>?_,λh1=>?_⟩
   ·refine aw.fq [1,5,15,16,17] l (λpre=> [(5,iD (iR pre (m-1) 0)),(17,iD pre.length)]) (λ_=> []) (λ_=>True) (by rfl) (by omega) (by simp[iR]) ?_ ?_
    ·rintro pre s post bn-ay bR a4;have hS:=kh s (by rw[bn];simp);have Y5:=hl s (by rw[bn];simp);have hwa:=al.J4 Y5;have ee:=Q8 pre s (m-1) 0;rw[Cj]at ee;have hb:=hBd pre (by omega) (by omega) (by omega);generalize iR pre (m-1) 0=v at *;simp[ay,bR];intro bs;refine aw.fq [1,5,7,15,16,17,22,23,24] s.av (λpre=> [(5,iD (eb pre (m-1) v)),(24,iD pre.length)]) (λ_=> []) (λ_=>True) (by rfl) (by omega) (by simp[eb]) ?_ ?_
     ·rintro VN e adq zP-pF sE b4;have agf:=VM VN e (m-1) v;have a1:aN .i64 (m-1):=iW;have Tr:=al.xq Y5 e (by rw[zP];simp);simp[pF,sE,a1];intro cI;refine ar.bA rfl (aeq e Tr (m-1) ⟨by omega,by omega⟩) (by simp) rfl (by simp) rfl ?_;simp;refine pC (I7 _ _) ?_;simp[b4,agf]
     ·intro _;have c1:=(hS.1 (m-1) ⟨by omega,by omega⟩).ok;have c2:=(hS.2 (m-1) ⟨by omega,by omega⟩).ok;have a1:aN .i64 (m-1):=iW;simp;refine aw.cV [iD (im s.Body (m-1)),iD (im s.bC (m-1)),iD (jt (im s.Body (m-1)) (im s.bC (m-1))),iD (jt (eb s.av (m-1) v) (jt (im s.Body (m-1)) (im s.bC (m-1))))] bc (by kernel_rfl) (by rfl) ?_;simp[c1,c2,a1,a4,hG,ee]
    ·intro _;have hb:=hBd l (by omega) (by omega) (by omega);simp[h1];rw[aR];omega
   ·rw[if_neg (by omega)];exact⟨iW,rfl⟩
theorem Ew(l:List al)(hl:∀s∈l,s.wf)(hlen:l.length *104<=140737488351232):Pure prog 122 [.d (.sl (l.map al.enc))] (iD (im l 65)):=by
 refine rn func122 ?_;simp[f122];refine ar.bA rfl (abT l hl hlen 65 (by omega)) (by simp) rfl (by simp) rfl ?_;simp
def Fv(s:al):Bool:=decide ((s.av[0]?.getD au.zero).Kind=18)
mutual
def eL(t:aq)(locals:Int):al->Bool
 | .mk k n nm a b c=>(gX (.mk k n nm a b c)).1&&o8 t (.mk k n nm a b c) locals&&(decide (k≠19)||Fv (.mk k n nm a b c))&&(a.all λx=>cw t locals x (decide (k=1)))&&(pv t locals b&&decide (b.length<=256))&&(pv t locals c&&decide (c.length<=256))
def pv(t:aq)(locals:Int):List al->Bool
 | []=>true
 | s::l=>eL t locals s&&pv t locals l
end
def gH(t:aq)(locals:Int)(l:List al):Bool:=pv t locals l&&decide (l.length<=256)
theorem vN(t:aq)(locals:Int)(s:al):eL t locals s=((gX s).1&&o8 t s locals&&(decide (s.Kind≠19)||Fv s)&&(s.av.all λx=>cw t locals x (decide (s.Kind=1)))&&gH t locals s.Body&&gH t locals s.bC):=by cases s;rw[eL];rfl
theorem lE(t:aq)(locals:Int)(l:List al):pv t locals l=l.all λs=>eL t locals s:=by
 induction l with
 | nil=>rw[pv];rfl
 | cons s l ih=>rw[pv,ih];rfl
theorem VO{s:al}(h:(gX s).1=true)(hk:s.Kind=19):∃x,s.av=[x]:=by
 simp[gX,hk,oQ]at h;have hl:s.av.length=1:=by omega
 generalize s.av=l at hl
 match l,hl with
 | [x],_=>exact⟨x,rfl⟩
theorem Ex(t:aq)(ht:t.wf)(locals:Int)(jz:aN .i64 locals)(l:List al)(hl:∀s∈l,s.wf)(hlen:l.length *104<=140737488351232):Pure prog 123 [.agg (t.enc.map .d),.d (.sl (l.map al.enc)),iD locals] (oD (gH t locals l)):=by
 obtain⟨n,hn⟩:∃n,SizeOf.sizeOf l<n:=⟨_,ap5 _⟩
 induction n generalizing l with
 | zero=>omega
 | succ n ih=>
   have kh:∀s∈l,Pure prog 123 [.agg (t.enc.map .d),.d (.sl (s.Body.map al.enc)),iD locals] (oD (gH t locals s.Body))∧
     Pure prog 123 [.agg (t.enc.map .d),.d (.sl (s.bC.map al.enc)),iD locals] (oD (gH t locals s.bC)):=by
    intro s hs;have hw:=hl s hs;have h1:=aqv hs;have h2:=al.q8 s;have h3:=al.re s;exact⟨ih s.Body (al.Fg hw) (al.Ff hw) (by omega),ih s.bC (al.Fi hw) (al.Fh hw) (by omega)⟩
   refine rn func123 ?_;simp[f123];intro bs0;refine aw.fq [1,2,3,13,14,15] l (λpre=> [(15,iD pre.length)]) (λ_=> []) (λpre=>pv t locals pre=true) (by rfl) (by omega) (by simp[pv]) ?_ ?_
   ·rintro pre s post bn sG ay bR a4;have jN:eL t locals s=false->gH t locals l=false:=λh=>by
     unfold gH;rw[lE,bn];simp[h]
    have pJ:eL t locals s=true->pv t locals (pre++ [s])=true:=λh=>by
     rw[lE]at sG⊢;rw[List.all_append,sG];simp[h]
    have hS:=kh s (by rw[bn];simp);have Y5:=hl s (by rw[bn];simp);have hwa:=al.J4 Y5;rw[vN]at jN pJ;have pR:(gX s).1=true->s.Kind=19->0<s.av.length:=λh1 h2=>by obtain⟨x,hx⟩:=VO h1 h2;simp[hx]
    have Kw:=bn.symm;clear ih kh hlen hn bn;simp[-cB,ay,bR];intro bs;refine pC (abS s) ?_;simp[-cB]
    repeat' (first
     | (with_reducible refine And.intro ?_ ?_)
     | ((first|(refine aA (λh=>?_) (λh=>?_)<;>(try simp at h))|refine pC (Hw t ht s locals jz) ?_|refine lC (Hw t ht s locals jz) ?_|refine pG (Hw t ht s locals jz) ?_)<;>(try simp[-cB, *]))
     | (with_reducible intro _))
    all_goals first|assumption|(exact pR (by assumption) (by assumption))|(apply jN;rcases h with(h|h)|⟨h1,h2⟩<;>simp[Fv, *];done)|skip
    have hS1:=hS.1.ok;have hS2:=hS.2.ok;refine aw.fq [1,2,3,8,13,14,15,47,48,49] s.av (λpre=> [(49,iD pre.length)]) (λ_=> []) (λpre=>(pre.all λx=>cw t locals x (decide (s.Kind=1)))=true) (by rfl) (by omega) (by simp) ?_ ?_
    ·rintro VN e adq zP aib pF sE b4;have Tr:=al.xq Y5 e (by rw[zP];simp);have akc:cw t locals e (decide (s.Kind=1))=false->gH t locals l=false:=λh=>by
      apply jN;rw[zP];simp[h]
     clear zP jN pJ Kw h;simp[-cB,pF,sE];intro cI;refine pC (zC t ht locals e Tr _) ?_;simp[-cB]
     repeat' (first
      | (with_reducible refine And.intro ?_ ?_)
      | ((first|(refine aA (λh=>?_) (λh=>?_)<;>(try simp at h))|refine pC (zC t ht locals e Tr _) ?_|refine lC (zC t ht locals e Tr _) ?_|refine pG (zC t ht locals e Tr _) ?_)<;>(try simp[-cB, *]))
      | (with_reducible intro _))
     all_goals first
      | exact akc h
      | (rename_i y hy
         rcases hy with hy|rfl
         ·exact apR.1 aib y hy
         ·exact h)
    ·intro bQ;clear Kw;simp[-cB]
     repeat' (first
      | (with_reducible refine And.intro ?_ ?_)
      | ((first|(refine aA (λh=>?_) (λh=>?_)<;>(try simp at h))|refine pC hS.1 ?_|refine pC hS.2 ?_|refine lC hS.1 ?_|refine lC hS.2 ?_|refine pG hS.1 ?_|refine pG hS.2 ?_)<;>(try simp[-cB, *]))
      | (with_reducible intro _))
     ·apply jN;rcases h with h|h<;>simp[h]
     ·rename_i h';apply pJ;obtain⟨⟨h1,h2⟩,h3⟩:=h';have h4:(decide (s.Kind≠19)||Fv s)=true:=by
       by_cases hk:s.Kind=19
       ·simp[Fv,h3 hk]
       ·simp[hk]
      rw[h1,h2,h4,bQ,h.1,h.2];rfl
   ·intro sG;simp[gH,sG];omega
theorem PI(t:aq)(ht:t.wf)(locals:Int)(jz:aN .i64 locals)(l:List al)(hl:∀s∈l,s.wf)(hlen:l.length *104<=140737488351232):Pure prog 60 [.agg (t.enc.map .d),.d (.sl (l.map al.enc)),iD locals] (oD (decide (im l 65<=32)&&gH t locals l)):=by
 refine rn func60 ?_;simp[-cB,f60];intro bs
 repeat' (first
  | (with_reducible refine And.intro ?_ ?_)
  | ((first|(refine aA (λh=>?_) (λh=>?_)<;>(try simp at h))|refine pC (Ew l hl hlen) ?_|refine pC (Ex t ht locals jz l hl hlen) ?_|refine lC (Ew l hl hlen) ?_|refine lC (Ex t ht locals jz l hl hlen) ?_|refine pG (Ew l hl hlen) ?_|refine pG (Ex t ht locals jz l hl hlen) ?_)<;>(try simp[-cB, *]))
  | (with_reducible intro _))
def eM(x:au)(n:Int):List ae×Int:=
 if x.Kind=19 then([⟨21,x.aI⟩],n)else if x.Kind=13 then((aK x.av n).1++ [⟨23,0⟩],(aK x.av n).2)else((aT x n).1++ [⟨22,0⟩],(aT x n).2)
def cF:List au->Int->List ae×Int
 | [],n=>([],n)
 | x::l,n=>((eM x n).1++(cF l (eM x n).2).1,(cF l (eM x n).2).2)
def eS(k num:Int):ae:=
 if k=2\/k=3 then⟨6,num⟩else if k=23 then⟨4,num⟩else if k=4 then⟨14,num⟩else if k=5 then⟨15,num⟩else if k=6 then⟨16,num⟩else if k=17 then⟨32,num⟩else if k=18 then⟨33,num⟩
 else if k=7 then⟨17,0⟩else if k=8 then⟨18,0⟩else if k=12 then⟨27,0⟩else if k=13 then⟨28,0⟩else if k=14 then⟨29,0⟩else if k=15 then⟨30,0⟩else if k=16 then⟨31,0⟩
 else if k=20 then⟨34,0⟩else if k=21 then⟨35,0⟩else if k=22 then⟨36,0⟩else⟨2,0⟩
def tick:ae:=⟨37,0⟩
mutual
def cU:al->Int->List ae×Int
 | .mk k num _ a b c,n=>
   if k=9 then
    (if c.isEmpty then([tick]++(aK a (n+1)).1++ [⟨25,n⟩]++(aQ b (aK a (n+1)).2).1++ [⟨38,n⟩],(aQ b (aK a (n+1)).2).2)
     else([tick]++(aK a (n+2)).1++ [⟨25,n⟩]++(aQ b (aK a (n+2)).2).1++ [⟨24,n+1⟩,⟨38,n⟩]++(aQ c (aQ b (aK a (n+2)).2).2).1++ [⟨38,n+1⟩],(aQ c (aQ b (aK a (n+2)).2).2).2))
   else if k=10 then([⟨38,n⟩,tick]++(aK a (n+2)).1++ [⟨25,n+1⟩]++(aQ b (aK a (n+2)).2).1++ [⟨24,n⟩,⟨38,n+1⟩],(aQ b (aK a (n+2)).2).2)
   else if k=11 then([tick]++(aK a (n+2)).1++ [⟨19,2⟩,⟨6,num⟩,⟨38,n⟩,⟨5,num⟩,⟨25,n+1⟩,tick]++ [⟨5,num⟩,⟨19,3⟩,⟨6,num+1⟩]++(aQ b (aK a (n+2)).2).1++ [⟨5,num+1⟩,⟨6,num⟩,⟨24,n⟩,⟨38,n+1⟩],(aQ b (aK a (n+2)).2).2)
   else if k=1 then([tick]++(cF a n).1,(cF a n).2)
   else([tick]++(aK a n).1++ [eS k num],(aK a n).2)
def aQ:List al->Int->List ae×Int
 | [],n=>([],n)
 | s::l,n=>((cU s n).1++(aQ l (cU s n).2).1,(aQ l (cU s n).2).2)
end
theorem sz(s:al)(n:Int)(hk:s.Kind=9)(he:s.bC=[]):cU s n=([tick]++(aK s.av (n+1)).1++ [⟨25,n⟩]++(aQ s.Body (aK s.av (n+1)).2).1++ [⟨38,n⟩],(aQ s.Body (aK s.av (n+1)).2).2):=by
 cases s;cases hk;cases he;rw[cU];rfl
theorem sA(s:al)(n:Int)(hk:s.Kind=9)(he:s.bC≠ []):cU s n=([tick]++(aK s.av (n+2)).1++ [⟨25,n⟩]++(aQ s.Body (aK s.av (n+2)).2).1++ [⟨24,n+1⟩,⟨38,n⟩]++(aQ s.bC (aQ s.Body (aK s.av (n+2)).2).2).1++ [⟨38,n+1⟩],(aQ s.bC (aQ s.Body (aK s.av (n+2)).2).2).2):=by
 cases s with
 | mk k num nm a b c=>
   cases hk;rw[cU];have:c.isEmpty=false:=by cases c with|nil=>exact(he rfl).elim|cons x l=>rfl
   simp[this]
theorem oA(s:al)(n:Int)(hk:s.Kind=10):cU s n=([⟨38,n⟩,tick]++(aK s.av (n+2)).1++ [⟨25,n+1⟩]++(aQ s.Body (aK s.av (n+2)).2).1++ [⟨24,n⟩,⟨38,n+1⟩],(aQ s.Body (aK s.av (n+2)).2).2):=by
 cases s;cases hk;rw[cU];rfl
theorem qg(s:al)(n:Int)(hk:s.Kind=11):cU s n=([tick]++(aK s.av (n+2)).1++ [⟨19,2⟩,⟨6,s.aI⟩,⟨38,n⟩,⟨5,s.aI⟩,⟨25,n+1⟩,tick]++ [⟨5,s.aI⟩,⟨19,3⟩,⟨6,s.aI+1⟩]++(aQ s.Body (aK s.av (n+2)).2).1++ [⟨5,s.aI+1⟩,⟨6,s.aI⟩,⟨24,n⟩,⟨38,n+1⟩],(aQ s.Body (aK s.av (n+2)).2).2):=by
 cases s;cases hk;rw[cU];rfl
theorem qh(s:al)(n:Int)(hk:s.Kind=1):cU s n=([tick]++(cF s.av n).1,(cF s.av n).2):=by
 cases s;cases hk;rw[cU];rfl
theorem oB(s:al)(n:Int)(h1:s.Kind≠9)(h2:s.Kind≠10)(h3:s.Kind≠11)(h4:s.Kind≠1):cU s n=([tick]++(aK s.av n).1++ [eS s.Kind s.aI],(aK s.av n).2):=by
 cases s with
 | mk k num nm a b c=>
   rw[cU.eq_def];simp only[al.Tg]at h1 h2 h3 h4;simp[h1,h2,h3,h4]
theorem Y6(l:List al)(x:al)(m:Int):aQ (l++ [x]) m=((aQ l m).1++(cU x (aQ l m).2).1,(cU x (aQ l m).2).2):=by
 induction l generalizing m with
 | nil=>simp[aQ]
 | cons y l ih=>simp[aQ,ih]
theorem Q9(l:List au)(x:au)(m:Int):cF (l++ [x]) m=((cF l m).1++(eM x (cF l m).2).1,(eM x (cF l m).2).2):=by
 induction l generalizing m with
 | nil=>simp[cF]
 | cons y l ih=>simp[cF,ih]
theorem aey(l r:List al):gB (l++r)=gB l+gB r:=by
 induction l with
 | nil=>simp[gB]
 | cons x l ih=>simp only[apZ,gB,ih];omega
theorem gI(l:List au)(m:Int):m<=(aK l m).2/\(aK l m).2<=m+2 *fw l/\(aK l m).1.length<=6 *fw l:=yy l (λx _ m=>iQ x m) m
theorem Kx(x:au)(m:Int):m<=(eM x m).2/\(eM x m).2<=m+2 *ue x/\(eM x m).1.length<=7 *ue x:=by
 have h1:=gI x.av m;have h2:=iQ x m;have h3:=vL x;unfold eM;split
 ·simp only[apY,aqj];omega
 ·split
  ·simp only[apX,apY,aqj];omega
  ·simp only[apX,apY,aqj];omega
theorem vO(l:List au)(m:Int):m<=(cF l m).2/\(cF l m).2<=m+2 *fw l/\(cF l m).1.length<=7 *fw l:=by
 induction l generalizing m with
 | nil=>simp[cF,fw]
 | cons x l ih=>
   have h1:=Kx x m;have h2:=ih (eM x m).2;rw[cF,fw,apX];omega
theorem aez:∀(N:Nat) (l:List al),SizeOf.sizeOf l<N->∀m:Int,m<=(aQ l m).2/\(aQ l m).2<=m+2 *gB l/\(aQ l m).1.length<=16 *gB l:=by
 intro N
 induction N with
 | zero=>intro l h;omega
 | succ N ih=>
   intro l h m;cases l with
   | nil=>simp[aQ,gB]
   | cons s l=>
     have hl:SizeOf.sizeOf l<N:=by simp only[aqt]at h;omega
     have hs:SizeOf.sizeOf s<N:=by simp only[aqt]at h;omega
     have hb:=al.q8 s;have he:=al.re s;rw[aQ,gB,ui,apX];have h2:=ih l hl (cU s m).2;have key:m<=(cU s m).2/\(cU s m).2<=m+2 *(1+fw s.av+gB s.Body+gB s.bC)/\(cU s m).1.length<=16 *(1+fw s.av+gB s.Body+gB s.bC):=by
      by_cases k9:s.Kind=9
      ·by_cases vp:s.bC=[]
       ·rw[sz s m k9 vp];have a1:=gI s.av (m+1);have a2:=ih s.Body (by omega) (aK s.av (m+1)).2;simp only[apX,apY,aqj];omega
       ·rw[sA s m k9 vp];have a1:=gI s.av (m+2);have a2:=ih s.Body (by omega) (aK s.av (m+2)).2;have a3:=ih s.bC (by omega) (aQ s.Body (aK s.av (m+2)).2).2;simp only[apX,apY,aqj];omega
      by_cases oa:s.Kind=10
      ·rw[oA s m oa];have a1:=gI s.av (m+2);have a2:=ih s.Body (by omega) (aK s.av (m+2)).2;simp only[apX,apY,aqj];omega
      by_cases o9:s.Kind=11
      ·rw[qg s m o9];have a1:=gI s.av (m+2);have a2:=ih s.Body (by omega) (aK s.av (m+2)).2;simp only[apX,apY,aqj];omega
      by_cases k1:s.Kind=1
      ·rw[qh s m k1];have a1:=vO s.av m;simp only[apX,apY,aqj];omega
      ·rw[oB s m k9 oa o9 k1];have a1:=gI s.av m;simp only[apX,apY,aqj];omega
     omega
theorem gJ(l:List al)(m:Int):m<=(aQ l m).2/\(aQ l m).2<=m+2 *gB l/\(aQ l m).1.length<=16 *gB l:=aez _ l (ap5 _) m
theorem aeA(s:al)(m:Int):m<=(cU s m).2/\(cU s m).2<=m+2 *AZ s/\(cU s m).1.length<=16 *AZ s:=by
 have:=gJ [s] m;simpa[aQ,gB]using this
theorem aeB(s:al):Pure prog 299 [.agg (s.enc.map .d)] (.agg ((eS s.Kind s.aI).enc.map .d)):=by
 refine rn func299 ?_;simp[-cB,f299];intro bs
 repeat' (first
  | (with_reducible refine And.intro ?_ ?_)
  | ((first|(refine aA (λh=>?_) (λh=>?_)<;>(try simp at h))|refine pC (cM _ _) ?_|refine lC (cM _ _) ?_|refine pG (cM _ _) ?_)<;>(try simp[-cB, *]))
  | (with_reducible intro _))
 all_goals simp[eS, *]
theorem PJ(a b:List ae)(ha:a.length<=1000000000000)(hb:b.length<=1000000000000):aE prog 191 [.d (.sl (a.map ae.enc)),.d (.sl (b.map ae.enc))] [] (λr L=>r= .ret (.rv 5)/\L=[(5,.row 84 2 (dd ((a++b).map ae.enc)))]):=by
 refine aE.run func191 rfl (by simp[f191]) ?_;simp[f191];omega
theorem yC(x:au)(m:Int):aK [x] m=aT x m:=by
 simp[aK]
theorem Ra{t:aq}{locals:Int}{e:au}(h:cw t locals e true=true)(hk:e.Kind=13):∃a,e.av=[a]:=by
 rw[iP,apP]at h;have h1:=h.1;simp[dH,hk,ec]at h1;have hl:e.av.length=1:=by omega
 generalize e.av=l at hl
 match l,hl with
 | [a],_=>exact⟨a,rfl⟩
theorem Y7(t:aq)(locals:Int)(l:List au)(hl:∀x∈l,x.wf)(hb:∀x∈l,cw t locals x true=true)(hlen:l.length≤1000000000000000)(n:Int)(hn:0≤n∧n+2 *fw l≤1000000000):
  Pure prog 297 [.d (.sl (l.map au.enc)),iD n] (fG (cF l n)):=by
 unfold fG;refine rn func297 ?_;simp[-cB,f297];refine aw.weaken (Wk.Ot (t:=6) (h:=5) (k:=2) (ty:=84) rfl (by simp)) ?_;refine aw.fq [0,1,6,7] l (λpre=> [(1,iD (cF pre n).2),(7,iD pre.length)]) (λpre=> [(5,.row 84 2 (dd ((cF pre n).1.map ae.enc)))]) (λ_=>True) (by rfl) (by omega) (by simp[cF]) ?_ ?_
 ·rintro pre x post bn-ay bR a4;have hw:=hl x (by rw[bn];simp);have gS:=hb x (by rw[bn];simp);have ee:=Q9 pre x n;have dW:fw pre+ue x<=fw l:=by rw[bn,Hs];simp only[fw];omega
  have b1:=vO pre n;have b2:=Kx x (cF pre n).2;clear bn;generalize cF pre n=k at *;obtain⟨k1,k2⟩:=k;simp only at ee b1 b2⊢;have hz:=vL x;by_cases mQ:x.Kind=19
  ·have hI:eM x k2=([⟨21,x.aI⟩],k2):=by simp[eM,mQ]
   rw[hI]at ee;simp[ay,bR,mQ];refine pC (cM _ _) ?_;simp[bR,ee,a4];omega
  ·have hE:∃y,(∀m,eM x m=((aT y m).1++ [⟨if x.Kind=13 then 23 else 22,0⟩],(aT y m).2))/\cw t locals y false=true/\y.wf/\ue y<=ue x/\(if x.Kind=13 then x.av=[y]else y=x):=by
    by_cases jb:x.Kind=13
    ·obtain⟨y,hy⟩:=Ra gS jb;refine⟨y,λm=>by simp[eM,jb,hy,yC],zF gS (by simp[hy]),au.xq hw y (by simp[hy]),?_,by simp[jb,hy]⟩;rw[hz,hy];simp only[fw];omega
    ·exact⟨x,λm=>by simp[eM,mQ,jb],VL gS mQ jb,hw,by omega,by simp[jb]⟩
   obtain⟨y,h1,h2,h3,h4,h5⟩:=hE;have hC:=I6 t locals y h3 h2 k2 ⟨by omega,by omega⟩;have b3:=iQ y k2;rw[h1]at ee;generalize aT y k2=q at *;obtain⟨q1,q2⟩:=q;unfold fG at hC;simp only at ee hC b3;by_cases jb:x.Kind=13
   ·rw[if_pos jb]at h5 ee;simp[ay,bR,mQ,jb,h5];intro bs;refine pC hC ?_;simp;refine ar.weaken (Wk.freeze 5 (ys:=k1.map ae.enc) rfl) ?_;simp;refine ar.bA rfl (dz k1 q1 (by omega) (by omega)) (by simp) rfl (by simp) rfl ?_;simp;refine pC (cM _ _) ?_;simp;refine ar.weaken (Wk.freeze 55 (ys:=([ae.mk 23 0]).map _) rfl) ?_;simp;refine ar.ej [] rfl (PJ (k1++q1) [ae.mk 23 0] (by simp<;>omega) (by simp)) (by simp) rfl (by simp) rfl (by kernel_rfl) (by simp) (by simp) (by simp) (by simp) (by simp) ?_;simp[ee,a4]
   ·rw[if_neg jb]at h5 ee;subst h5;simp[ay,bR,mQ,jb];intro bs;refine pC hC ?_;simp;refine ar.weaken (Wk.freeze 5 (ys:=k1.map ae.enc) rfl) ?_;simp;refine ar.bA rfl (dz k1 q1 (by omega) (by omega)) (by simp) rfl (by simp) rfl ?_;simp;refine pC (cM _ _) ?_;simp;refine ar.weaken (Wk.freeze 55 (ys:=([ae.mk 22 0]).map _) rfl) ?_;simp;refine ar.ej [] rfl (PJ (k1++q1) [ae.mk 22 0] (by simp<;>omega) (by simp)) (by simp) rfl (by simp) rfl (by kernel_rfl) (by simp) (by simp) (by simp) (by simp) (by simp) ?_;simp[ee,a4]
 ·intro _;simp
theorem A0(h:Nat)(hh:h≠5)(a b:List ae)(ha:a.length<=1000000000000)(hb:b.length<=1000000000000):aE prog 191 [.d (.sl (a.map ae.enc)),.rv h] [(h,.row 84 2 (dd (b.map ae.enc)))] (λr L=>r= .ret (.d (.sl ((a++b).map ae.enc)))/\L=[(h,.row 84 2 (dd (b.map ae.enc)))]):=by
 have h5:(h==5)=false:=by simp[hh]
 refine aE.xY func191 rfl (by simp[f191]) ?_;refine aw.fZ ?_;simp[f191];refine aw.fZ ?_;simp[hh,hh.symm,h5];refine⟨by omega,by omega,?_⟩;refine aw.weaken (Wk.freeze 5 (k:=2) (ty:=84) (ys:=a.map ae.enc++b.map ae.enc) rfl) (aw.ret ?_);simp[hh,hh.symm,h5]
theorem aeC(h:Nat)(hh:h≠5)(a b:List ae)(ha:a.length<=1000000000000)(hb:b.length<=1000000000000):aE prog 191 [.rv h,.d (.sl (b.map ae.enc))] [(h,.row 84 2 (dd (a.map ae.enc)))] (λr L=>r= .ret (.d (.sl ((a++b).map ae.enc)))/\L=[(h,.row 84 2 (dd (a.map ae.enc)))]):=by
 have h5:(h==5)=false:=by simp[hh]
 refine aE.xY func191 rfl (by simp[f191]) ?_;refine aw.fZ ?_;simp[f191];refine aw.fZ ?_;simp[hh,hh.symm,h5];refine⟨by omega,by omega,?_⟩;refine aw.weaken (Wk.freeze 5 (k:=2) (ty:=84) (ys:=a.map ae.enc++b.map ae.enc) rfl) (aw.ret ?_);simp[hh,hh.symm,h5]
theorem PK{t:aq}{locals:Int}{s:al}(h:eL t locals s=true):(gX s).1=true/\o8 t s locals=true/\(∀x∈s.av,cw t locals x (decide (s.Kind=1))=true)/\(∀x∈s.Body,eL t locals x=true)/\(∀x∈s.bC,eL t locals x=true):=by
 rw[vN]at h;simp only[apP,gH,lE,apR]at h;obtain⟨⟨⟨⟨⟨h1,h2⟩,h3⟩,h4⟩,h5⟩,h6⟩:=h;exact⟨h1,h2,h4,h5.1,h6.1⟩
theorem Ey{s:al}(h:(gX s).1=true)(hk:s.Kind=9\/s.Kind=10\/s.Kind=11):∃x,s.av=[x]:=by
 have hl:s.av.length=1:=by
  rcases hk with hk|hk|hk<;>· simp[gX,hk,oQ]at h;omega
 generalize s.av=l at hl
 match l,hl with
 | [x],_=>exact⟨x,rfl⟩
def adr(s:al):Prop:=∀n:Int,0<=n/\n+2 *AZ s<=1000000000->Pure prog 271 [.agg (s.enc.map .d),iD n] (fG (cU s n))
theorem Ag(l:List al)(hlen:l.length<=1000000000000000)(ih:∀s∈l,adr s)(n:Int)(hn:0<=n/\n+2 *gB l<=1000000000):Pure prog 238 [.d (.sl (l.map al.enc)),iD n] (fG (aQ l n)):=by
 unfold fG;refine rn func238 ?_;simp[f238];refine aw.weaken (Wk.aa3 (t:=6) rfl) ?_;refine aw.fq [0,1,6,7] l (λpre=> [(1,iD (aQ pre n).2),(6,.d (.sl ((aQ pre n).1.map ae.enc))),(7,iD pre.length)]) (λ_=> []) (λ_=>True) (by rfl) (by omega) (by simp[aQ]) ?_ ?_
 ·rintro pre s post bn-ay bR a4;have hS:=ih s (by rw[bn];simp);have ee:=Y6 pre s n;have dW:gB pre+AZ s<=gB l:=by rw[bn,aey];simp only[gB];omega
  have b1:=gJ pre n;clear bn;generalize aQ pre n=k at *;obtain⟨k1,k2⟩:=k;simp only at ee b1;have b2:=aeA s k2;have hC:=hS k2 ⟨by omega,by omega⟩;generalize cU s k2=q at *;obtain⟨q1,q2⟩:=q;unfold fG at hC;simp only at ee hC b2;simp[ay,bR];refine pC hC ?_;simp;refine ar.bA rfl (dz k1 q1 (by omega) (by omega)) (by simp) rfl (by simp) rfl ?_;simp[ee,a4]
 ·intro _;simp
theorem VP(s:al)(x:au)(hA:s.av=[x])(n:Int)(hn:0≤n∧n+2 *AZ s≤1000000000)(VQ:aN .i64 (s.aI+1))(hw:s.wf)
  (hx:∀m:Int,0<=m/\m+2 *ue x<=1000000000->Pure prog 292 [.agg (x.enc.map .d),iD m] (fG (aT x m)))
  (hb:∀m:Int,0<=m/\m+2 *gB s.Body<=1000000000->Pure prog 238 [.d (.sl (s.Body.map al.enc)),iD m] (fG (aQ s.Body m))) (hk:s.Kind=11):
  Pure prog 296 [.agg (s.enc.map .d),iD n] (fG (cU s n)):=by
 rw[qg s n hk,hA,yC];have hz:=ui s;rw[hA]at hz;simp only[fw]at hz;have b1:=iQ x (n+2);have b2:=gJ s.Body (aT x (n+2)).2;have hC:=hx (n+2) ⟨by omega,by omega⟩;generalize aT x (n+2)=p at *;obtain⟨p1,p2⟩:=p;simp only at b1 b2 hC⊢;have hD:=hb p2 ⟨by omega,by omega⟩;generalize aQ s.Body p2=q at *;obtain⟨q1,q2⟩:=q;unfold fG at hC hD⊢;simp only at b2 hC hD⊢;have a1:aN .i64 (n+2):=iW;have a2:aN .i64 (n+1):=iW;have c1:=λa b L=>(cM a b).ok L
 have c2:=λm L=>(mb m).ok L
 have c3:=λm L=>(xw m).ok L
 have c4:=λm L=>(uX m).ok L
 refine rn func296 ?_;simp[f296];intro bs;simp[hA,a1];refine pC hC ?_;simp;refine pC hD ?_;simp;refine pC (cM 37 0) ?_;simp;refine ar.weaken (Wk.freeze 29 (ys:=([ae.mk 37 0]).map _) rfl) ?_;simp;refine ar.bA rfl (dz [ae.mk 37 0] p1 (by simp) (by omega)) (by simp) rfl (by simp) rfl ?_;simp;refine aw.bI [Q3,Q0,Q0,Q0,Q0,Q0,Q0,Q0,Q0,Q0,Q0,Q0,Q0,Q0,none,none,asl] [.agg ((ae.mk 19 2).enc.map .d),.agg ((ae.mk 6 s.aI).enc.map .d),.agg ((ae.mk 38 n).enc.map .d),.agg ((ae.mk 5 s.aI).enc.map .d),.agg ((ae.mk 25 (n+1)).enc.map .d),.agg ((ae.mk 37 0).enc.map .d)] bc (by kernel_rfl) ?_;simp[c1,c2,c3,c4,a1,a2];refine gv.intro (λ_=>fK.call 46 [46] rfl (A0 46 (by decide) ([ae.mk 37 0]++p1) [ae.mk 19 2,ae.mk 6 s.aI,ae.mk 38 n,ae.mk 5 s.aI,ae.mk 25 (n+1),ae.mk 37 0] (by simp<;>omega) (by simp)) (by simp) rfl (by kernel_rfl) (by simp[dd]) (by simp) (by simp+contextual) (by simp) (by simp)) ?_;simp;refine aw.bI [Q3,Q0,Q0,Q0,Q0,Q0,Q0,Q0,Q0,none,none,asl] [.agg ((ae.mk 5 s.aI).enc.map .d),.agg ((ae.mk 19 3).enc.map .d),.agg ((ae.mk 6 (s.aI+1)).enc.map .d)] bc (by kernel_rfl) ?_;simp[c1,c2,c3,c4,a1,a2,VQ];refine gv.intro (λ_=>fK.call 57 [57] rfl (A0 57 (by decide) (([ae.mk 37 0]++p1)++ [ae.mk 19 2,ae.mk 6 s.aI,ae.mk 38 n,ae.mk 5 s.aI,ae.mk 25 (n+1),ae.mk 37 0]) [ae.mk 5 s.aI,ae.mk 19 3,ae.mk 6 (s.aI+1)] (by simp<;>omega) (by simp)) (by simp) rfl (by kernel_rfl) (by simp[dd]) (by simp) (by simp+contextual) (by simp) (by simp)) ?_;simp;have c5:=λL=>(dz ((([ae.mk 37 0]++p1)++ [ae.mk 19 2,ae.mk 6 s.aI,ae.mk 38 n,ae.mk 5 s.aI,ae.mk 25 (n+1),ae.mk 37 0])++ [ae.mk 5 s.aI,ae.mk 19 3,ae.mk 6 (s.aI+1)]) q1 (by simp<;>omega) (by omega)).ok L
 simp at c5;refine aw.bI [Q0,Q0,Q0,Q0,Q0,Q0,Q0,Q0,Q0,Q0,Q0,Q0,Q0,Q0,Q0,none,none,asj,asl,asl] [.d (.sl ((((([ae.mk 37 0]++p1)++ [ae.mk 19 2,ae.mk 6 s.aI,ae.mk 38 n,ae.mk 5 s.aI,ae.mk 25 (n+1),ae.mk 37 0])++ [ae.mk 5 s.aI,ae.mk 19 3,ae.mk 6 (s.aI+1)])++q1).map ae.enc)),.agg ((ae.mk 5 (s.aI+1)).enc.map .d),.agg ((ae.mk 6 s.aI).enc.map .d),.agg ((ae.mk 24 n).enc.map .d),.agg ((ae.mk 38 (n+1)).enc.map .d)] bc (by kernel_rfl) ?_;simp[c1,c2,c3,c4,c5,a1,a2,VQ];refine gv.intro (λ_=>fK.call 74 [74] rfl (A0 74 (by decide) (((([ae.mk 37 0]++p1)++ [ae.mk 19 2,ae.mk 6 s.aI,ae.mk 38 n,ae.mk 5 s.aI,ae.mk 25 (n+1),ae.mk 37 0])++ [ae.mk 5 s.aI,ae.mk 19 3,ae.mk 6 (s.aI+1)])++q1) [ae.mk 5 (s.aI+1),ae.mk 6 s.aI,ae.mk 24 n,ae.mk 38 (n+1)] (by simp<;>omega) (by simp)) (by simp) rfl (by kernel_rfl) (by simp[dd]) (by simp) (by simp+contextual) (by simp) (by simp)) ?_;simp[tick]
def M9(x:au):Prop:=∀m:Int,0<=m/\m+2 *ue x<=1000000000->Pure prog 292 [.agg (x.enc.map .d),iD m] (fG (aT x m))
def me(l:List al):Prop:=∀m:Int,0<=m/\m+2 *gB l<=1000000000->Pure prog 238 [.d (.sl (l.map al.enc)),iD m] (fG (aQ l m))
theorem Y8(s:al)(x:au)(hA:s.av=[x])(n:Int)(hn:0≤n∧n+2 *AZ s≤1000000000)(hx:M9 x)(hb:me s.Body)(hk:s.Kind=9)(he:s.bC=[]):
  Pure prog 271 [.agg (s.enc.map .d),iD n] (fG (cU s n)):=by
 rw[sz s n hk he,hA,yC];have hz:=ui s;rw[hA]at hz;simp only[fw]at hz;have b1:=iQ x (n+1);have b2:=gJ s.Body (aT x (n+1)).2;have hC:=hx (n+1) ⟨by omega,by omega⟩;generalize aT x (n+1)=p at *;obtain⟨p1,p2⟩:=p;simp only at b1 b2 hC⊢;have hD:=hb p2 ⟨by omega,by omega⟩;generalize aQ s.Body p2=q at *;obtain⟨q1,q2⟩:=q;unfold fG at hC hD⊢;simp only at b2 hC hD⊢;have a1:aN .i64 (n+2):=iW;have a2:aN .i64 (n+1):=iW;have hlen:s.bC.length=0:=by
  simp[he]
 have e0:((s.bC.length:Int)==0)=true:=by simp[he]
 refine rn func271 ?_;simp[-cB,f271,hk];intro bs;refine pC (cM 37 0) ?_;simp[-cB,hk,a1,a2,hlen,hA,he];refine ar.weaken (Wk.freeze 25 (ys:=([ae.mk 37 0]).map _) rfl) ?_;simp[-cB];refine pC hC ?_;simp[-cB];refine pC hD ?_;simp[-cB];refine ar.bA rfl (dz [ae.mk 37 0] p1 (by simp) (by omega)) (by simp) rfl (by simp) rfl ?_;simp[-cB];refine pC (uX n) ?_;simp[-cB];refine ar.weaken (Wk.freeze 59 (ys:=([ae.mk 25 n]).map _) rfl) ?_;simp[-cB];refine ar.bA rfl (dz ([ae.mk 37 0]++p1) [ae.mk 25 n] (by simp<;>omega) (by simp)) (by simp) rfl (by simp) rfl ?_;simp[-cB];refine ar.bA rfl (dz ([ae.mk 37 0]++p1++ [ae.mk 25 n]) q1 (by simp<;>omega) (by omega)) (by simp) rfl (by simp) rfl ?_;simp[-cB,hlen,he,e0];refine pC (mb n) ?_;simp[-cB];refine ar.weaken (Wk.freeze 70 (ys:=([ae.mk 38 n]).map _) rfl) ?_;simp[-cB];refine ar.bA rfl (dz ([ae.mk 37 0]++p1++ [ae.mk 25 n]++q1) [ae.mk 38 n] (by simp<;>omega) (by simp)) (by simp) rfl (by simp) rfl ?_;simp[tick]
theorem Y9(s:al)(x:au)(hA:s.av=[x])(n:Int)(hn:0≤n∧n+2 *AZ s≤1000000000)(hx:M9 x)(hb:me s.Body)(hc:me s.bC)(hk:s.Kind=9)(he:s.bC≠ []):
  Pure prog 271 [.agg (s.enc.map .d),iD n] (fG (cU s n)):=by
 rw[sA s n hk he,hA,yC];have hz:=ui s;rw[hA]at hz;simp only[fw]at hz;have b1:=iQ x (n+2);have b2:=gJ s.Body (aT x (n+2)).2;have hC:=hx (n+2) ⟨by omega,by omega⟩;generalize aT x (n+2)=p at *;obtain⟨p1,p2⟩:=p;simp only at b1 b2 hC⊢;have hD:=hb p2 ⟨by omega,by omega⟩;have b3:=gJ s.bC (aQ s.Body p2).2;generalize aQ s.Body p2=q at *;obtain⟨q1,q2⟩:=q;simp only at b2 b3 hD⊢;have hF:=hc q2 ⟨by omega,by omega⟩;generalize aQ s.bC q2=r at *;obtain⟨r1,r2⟩:=r;unfold fG at hC hD hF⊢;simp only at b2 hC hD b3 hF⊢;have a1:aN .i64 (n+2):=iW;have a2:aN .i64 (n+1):=iW;have hlen:0<s.bC.length:=by
  cases h:s.bC with|nil=>exact(he h).elim|cons a l=>simp
 have e0:((s.bC.length:Int)==0)=false:=by simp[he]
 refine rn func271 ?_;simp[-cB,f271,hk];intro bs;refine pC (cM 37 0) ?_;simp[-cB,hk,a1,a2,hlen,hA,he];refine ar.weaken (Wk.freeze 25 (ys:=([ae.mk 37 0]).map _) rfl) ?_;simp[-cB];refine pC hC ?_;simp[-cB];refine pC hD ?_;simp[-cB];refine ar.bA rfl (dz [ae.mk 37 0] p1 (by simp) (by omega)) (by simp) rfl (by simp) rfl ?_;simp[-cB];refine pC (uX n) ?_;simp[-cB];refine ar.weaken (Wk.freeze 59 (ys:=([ae.mk 25 n]).map _) rfl) ?_;simp[-cB];refine ar.bA rfl (dz ([ae.mk 37 0]++p1) [ae.mk 25 n] (by simp<;>omega) (by simp)) (by simp) rfl (by simp) rfl ?_;simp[-cB];refine ar.bA rfl (dz ([ae.mk 37 0]++p1++ [ae.mk 25 n]) q1 (by simp<;>omega) (by omega)) (by simp) rfl (by simp) rfl ?_;simp[-cB,hlen,he,e0];refine pC hF ?_;simp[-cB,a2];refine pC (xw (n+1)) ?_;simp[-cB];refine pC (mb n) ?_;simp[-cB];refine ar.weaken (Wk.freeze 86 (ys:=([ae.mk 24 (n+1),ae.mk 38 n]).map _) rfl) ?_;simp[-cB];refine ar.bA rfl (dz ([ae.mk 37 0]++p1++ [ae.mk 25 n]++q1) [ae.mk 24 (n+1),ae.mk 38 n] (by simp<;>omega) (by simp)) (by simp) rfl (by simp) rfl ?_;simp[-cB];refine ar.bA rfl (dz (([ae.mk 37 0]++p1++ [ae.mk 25 n]++q1)++ [ae.mk 24 (n+1),ae.mk 38 n]) r1 (by simp<;>omega) (by omega)) (by simp) rfl (by simp) rfl ?_;simp[-cB,a2];refine pC (mb (n+1)) ?_;simp[-cB];refine ar.weaken (Wk.freeze 93 (ys:=([ae.mk 38 (n+1)]).map _) rfl) ?_;simp[-cB];refine ar.bA rfl (dz (([ae.mk 37 0]++p1++ [ae.mk 25 n]++q1)++ [ae.mk 24 (n+1),ae.mk 38 n]++r1) [ae.mk 38 (n+1)] (by simp<;>omega) (by simp)) (by simp) rfl (by simp) rfl ?_;simp[tick]
theorem Rb(s:al)(x:au)(hA:s.av=[x])(n:Int)(hn:0≤n∧n+2 *AZ s≤1000000000)(hx:M9 x)(hb:me s.Body)(hk:s.Kind=10):
  Pure prog 271 [.agg (s.enc.map .d),iD n] (fG (cU s n)):=by
 rw[oA s n hk,hA,yC];have hz:=ui s;rw[hA]at hz;simp only[fw]at hz;have b1:=iQ x (n+2);have b2:=gJ s.Body (aT x (n+2)).2;have hC:=hx (n+2) ⟨by omega,by omega⟩;generalize aT x (n+2)=p at *;obtain⟨p1,p2⟩:=p;simp only at b1 b2 hC⊢;have hD:=hb p2 ⟨by omega,by omega⟩;generalize aQ s.Body p2=q at *;obtain⟨q1,q2⟩:=q;unfold fG at hC hD⊢;simp only at b2 hC hD⊢;have a1:aN .i64 (n+2):=iW;have a2:aN .i64 (n+1):=iW;have c2:=λm L=>(mb m).ok L
 have c4:=λm L=>(uX m).ok L
 refine rn func271 ?_;simp[-cB,f271,hk];intro bs;refine pC (cM 37 0) ?_;simp[-cB,hk,hA,a1];refine ar.weaken (Wk.freeze 25 (ys:=([ae.mk 37 0]).map _) rfl) ?_;simp[-cB];refine pC hC ?_;simp[-cB];refine pC hD ?_;simp[-cB];refine aw.bI [Q0,Q0,Q0,Q0,Q0,none,Q3,none,asj,asj,asl,none,none,some (4,4)] [.agg ((ae.mk 38 n).enc.map .d),.agg ((ae.mk 25 (n+1)).enc.map .d)] bc (by kernel_rfl) ?_;simp[c2,c4,a2];refine gv.intro (λ_=>fK.call 120 [120] rfl (aeC 120 (by decide) [ae.mk 38 n,ae.mk 37 0] p1 (by simp) (by omega)) (by simp) rfl (by kernel_rfl) (by simp[dd]) (by simp) (by simp+contextual) (by simp) (by simp)) ?_;simp[c2,c4,a2];refine gv.intro (λ_=>fK.call 126 [126] rfl (A0 126 (by decide) ([ae.mk 38 n,ae.mk 37 0]++p1) [ae.mk 25 (n+1)] (by simp<;>omega) (by simp)) (by simp) rfl (by kernel_rfl) (by simp[dd]) (by simp) (by simp+contextual) (by simp) (by simp)) ?_;simp[c2,c4,a2];refine ar.bA rfl (dz (([ae.mk 38 n,ae.mk 37 0]++p1)++ [ae.mk 25 (n+1)]) q1 (by simp<;>omega) (by omega)) (by simp) rfl (by simp) rfl ?_;simp;refine pC (xw n) ?_;simp[a2];refine pC (mb (n+1)) ?_;simp;refine ar.weaken (Wk.freeze 136 (ys:=([ae.mk 24 n,ae.mk 38 (n+1)]).map _) rfl) ?_;simp;refine ar.bA rfl (dz ((([ae.mk 38 n,ae.mk 37 0]++p1)++ [ae.mk 25 (n+1)])++q1) [ae.mk 24 n,ae.mk 38 (n+1)] (by simp<;>omega) (by simp)) (by simp) rfl (by simp) rfl ?_;simp[tick]
theorem VR(s:al)(n:Int)(hn:0≤n∧n+2 *AZ s≤1000000000)(hk:s.Kind=1)(hS:Pure prog 297 [.d (.sl (s.av.map au.enc)),iD n] (fG (cF s.av n))):
  Pure prog 271 [.agg (s.enc.map .d),iD n] (fG (cU s n)):=by
 rw[qh s n hk];have hz:=ui s;have b1:=vO s.av n;generalize cF s.av n=p at *;obtain⟨p1,p2⟩:=p;unfold fG at hS⊢;simp only at hS b1⊢;refine rn func271 ?_;simp[-cB,f271,hk];intro bs;refine pC (cM 37 0) ?_;simp[-cB,hk];refine ar.weaken (Wk.freeze 25 (ys:=([ae.mk 37 0]).map _) rfl) ?_;simp[-cB,hk];refine pC hS ?_;simp[-cB];refine ar.bA rfl (dz [ae.mk 37 0] p1 (by simp) (by omega)) (by simp) rfl (by simp) rfl ?_;simp[tick]
theorem Rd(s:al)(n:Int)(hk:s.Kind=11)(hS:Pure prog 296 [.agg (s.enc.map .d),iD n] (fG (cU s n))):
  Pure prog 271 [.agg (s.enc.map .d),iD n] (fG (cU s n)):=by
 generalize cU s n=p at *;obtain⟨p1,p2⟩:=p;unfold fG at hS⊢;simp only at hS⊢;refine rn func271 ?_;simp[-cB,f271,hk];intro bs;refine pC (cM 37 0) ?_;simp[-cB,hk];refine pC hS ?_;simp
theorem Re(s:al)(n:Int)(hn:0≤n∧n+2 *AZ s≤1000000000)(h1:s.Kind≠9)(h2:s.Kind≠10)(h3:s.Kind≠11)(h4:s.Kind≠1)(hS:Pure prog 298 [.d (.sl (s.av.map au.enc)),iD n] (fG (aK s.av n))):
  Pure prog 271 [.agg (s.enc.map .d),iD n] (fG (cU s n)):=by
 rw[oB s n h1 h2 h3 h4];have hz:=ui s;have b1:=gI s.av n;generalize aK s.av n=p at *;obtain⟨p1,p2⟩:=p;unfold fG at hS⊢;simp only at hS b1⊢;have e1:(s.Kind==9)=false:=by simp[h1]
 have e2:(s.Kind==10)=false:=by simp[h2]
 have e3:(s.Kind==11)=false:=by simp[h3]
 have e4:(s.Kind==1)=false:=by simp[h4]
 have c1:=(aeB s).ok;have c2:=λL=>(dz [ae.mk 37 0] p1 (by simp) (by omega)).ok L
 simp at c2;refine rn func271 ?_;simp[-cB,f271];intro bs;refine pC (cM 37 0) ?_;simp[-cB,e1,e2,e3,e4];refine ar.weaken (Wk.freeze 25 (ys:=([ae.mk 37 0]).map _) rfl) ?_;simp[-cB];refine pC hS ?_;simp[-cB];refine aw.bI [Q0,Q0,Q0,Q0,Q0,none,none,asj,asl,asl] [.d (.sl (([ae.mk 37 0]++p1).map ae.enc)),.agg ((eS s.Kind s.aI).enc.map .d)] bc (by kernel_rfl) ?_;simp[c1,c2];refine gv.intro (λ_=>fK.call 171 [171] rfl (A0 171 (by decide) ([ae.mk 37 0]++p1) [eS s.Kind s.aI] (by simp<;>omega) (by simp)) (by simp) rfl (by kernel_rfl) (by simp[dd]) (by simp) (by simp+contextual) (by simp) (by simp)) ?_;simp[tick]
theorem VS(t:aq)(locals:Int)(jz:aN .i64 locals)(s:al)(hw:s.wf)(hb:eL t locals s=true):adr s:=by
 obtain⟨N,hN⟩:∃N,SizeOf.sizeOf s<N:=⟨_,ap5 _⟩
 induction N generalizing s with
 | zero=>omega
 | succ N ih=>
   intro n hn;obtain⟨p1,p2,p3,p4,p5⟩:=PK hb;have hz:=ui s;have hla:=al.J4 hw;have hlb:=al.Ff hw;have hle:=al.Fh hw;have hB:me s.Body:=λm hm=>Ag s.Body (by omega) (λx hx=>ih x (al.Fg hw x hx) (p4 x hx) (by have:=al.q8 s;have:=aqv hx;omega)) m hm
   have hE:me s.bC:=λm hm=>Ag s.bC (by omega) (λx hx=>ih x (al.Fi hw x hx) (p5 x hx) (by have:=al.re s;have:=aqv hx;omega)) m hm
   by_cases k1:s.Kind=1
   ·refine VR s n hn k1 (Y7 t locals s.av (al.xq hw) (λx hx=>?_) (by omega) n ⟨by omega,by omega⟩);have:=p3 x hx
    rwa[show decide (s.Kind=1)=true by simp[k1]]at this
   have hA:∀x∈s.av,cw t locals x false=true:=λx hx=>by
    have:=p3 x hx
    rwa[show decide (s.Kind=1)=false by simp[k1]]at this
   have hX:∀x∈s.av,M9 x:=λx hx m hm=>I6 t locals x (al.xq hw x hx) (hA x hx) m hm
   by_cases k9:s.Kind=9
   ·obtain⟨x,hx⟩:=Ey p1 (.inl k9);by_cases he:s.bC=[]
    ·exact Y8 s x hx n hn (hX x (by simp[hx])) hB k9 he
    ·exact Y9 s x hx n hn (hX x (by simp[hx])) hB hE k9 he
   by_cases oa:s.Kind=10
   ·obtain⟨x,hx⟩:=Ey p1 (.inr (.inl oa));exact Rb s x hx n hn (hX x (by simp[hx])) hB oa
   by_cases o9:s.Kind=11
   ·obtain⟨x,hx⟩:=Ey p1 (.inr (.inr o9));have VQ:aN .i64 (s.aI+1):=by
     have zb:s.Name.toList=[]/\s.aI<locals-1:=by
      unfold o8 at p2;cases h:s.Name.toList with
      | nil=>simp[h,o9]at p2;exact⟨rfl,by omega⟩
      | cons a l=>simp[h]at p2
     have h0:0<=s.aI:=by simp[o8,zb.1,o9]at p2;omega
     rw[aR]at jz⊢;omega
    exact Rd s n o9 (VP s x hx n hn VQ hw (hX x (by simp[hx])) hB o9)
   ·exact Re s n hn k9 oa o9 k1 (Af s.av (by omega) n ⟨by omega,by omega⟩ (λi h m hm=>hX _ (ap1 h) m hm))
section
variable {t : aq} {locals : Int} {l : List al}
theorem Gl(jz:aN .i64 locals)(hl:∀s∈l,s.wf)(hlen:l.length *104<=140737488351232)(hb:gH t locals l=true):me l:=by
 unfold gH at hb;rw[apP,lE,apR]at hb;exact λm hm=>Ag l (by omega) (λs hs=>VS t locals jz s (hl s hs) (hb.1 s hs)) m hm
end
theorem Ky(l:List al)(hl:me l)(hn:gB l<=30000000):Pure prog 192 [.d (.sl (l.map al.enc))] (.d (.sl ((aQ l 0).1.map ae.enc))):=by
 have hc:=hl 0 ⟨by omega,by omega⟩;unfold fG at hc;generalize aQ l 0=q at *;obtain⟨q1,q2⟩:=q;simp only at hc⊢;refine rn func192 ?_;simp[f192];refine pC hc ?_;simp
theorem Hx(l:List al)(hl:me l)(hn:gB l<=30000000):Pure prog 126 [.d (.sl (l.map al.enc))] (.d (.sl (((aQ l 0).1++ [ae.mk 1 0,ae.mk 27 0]).map ae.enc))):=by
 have hc:=Ky l hl hn;have bd:=gJ l 0;generalize aQ l 0=q at *;obtain⟨q1,q2⟩:=q;simp only at hc bd⊢;refine rn func126 ?_;simp[f126];refine pC hc ?_;simp;refine pC (cM 1 0) ?_;simp;refine pC (cM 27 0) ?_;simp;refine ar.weaken (Wk.freeze 7 (ys:=([ae.mk 1 0,ae.mk 27 0]).map _) rfl) ?_;simp;refine ar.bA rfl (dz q1 [ae.mk 1 0,ae.mk 27 0] (by omega) (by simp)) (by simp) rfl (by simp) rfl ?_;simp
set_option maxHeartbeats 200000
set_option maxRecDepth 512
mutual
def zG(k:Int):al->Bool
 | .mk a _ _ _ b c=>decide (a=k)||mn k b||mn k c
def mn(k:Int):List al->Bool
 | []=>false
 | s::l=>zG k s||mn k l
end
theorem abU(k:Int)(s:al):zG k s=(decide (s.Kind=k)||mn k s.Body||mn k s.bC):=by cases s;rw[zG];rfl
theorem LW(k:Int)(l:List al):mn k l=l.any (zG k):=by
 induction l with
 | nil=>rw[mn];rfl
 | cons s l ih=>rw[mn,ih];rfl
theorem I8(k:Int):∀(n:Nat) (l:List al),SizeOf.sizeOf l<n->(∀s∈l,s.wf)->l.length *104<=140737488351232->Pure prog 61 [.d (.sl (l.map al.enc)),iD k] (oD (mn k l)):=by
 intro n
 induction n with
 | zero=>intro l hn;omega
 | succ n ih=>
   intro l hn hl hlen;have kh:∀s∈l,Pure prog 61 [.d (.sl (s.Body.map al.enc)),iD k] (oD (mn k s.Body))/\Pure prog 61 [.d (.sl (s.bC.map al.enc)),iD k] (oD (mn k s.bC)):=by
    intro s hs;have h1:=aqv hs;have hw:=hl s hs;have h2:=al.q8 s;have h3:=al.re s;exact⟨ih s.Body (by omega) (al.Fg hw) (al.Ff hw),ih s.bC (by omega) (al.Fi hw) (al.Fh hw)⟩
   refine rn func61 ?_;simp[-cB,f61];refine aw.fq [0,1,5] l (λpre=> [(5,iD pre.length)]) (λ_=> []) (λpre=>pre.any (zG k)=false) (by rfl) (by omega) (by simp) ?_ ?_
   ·rintro pre s post bn sG ay bR a4;have hS:=kh s (by rw[bn];simp);have pJ:zG k s=true->mn k l=true:=λh=>by rw[LW,bn];simp[h]
    have jN:zG k s=false->(pre++ [s]).any (zG k)=false:=λh=>by rw[arn,sG];simp[h]
    rw[abU]at pJ jN;have Kw:=bn.symm;clear ih kh hlen hn bn;have Gi:∀{f:FuncId} {args:List V} {x:V},False->Pure prog f args x:=λh=>h.elim
    simp[-cB,ay,bR]
    repeat' (first
     | (with_reducible refine And.intro ?_ ?_)
     | ((first|(refine aA (λh=>?_) (λh=>?_)<;>(try simp at h))|refine pC hS.1 ?_|refine pC hS.2 ?_|refine lC hS.1 ?_|refine lC hS.2 ?_|refine pG hS.1 ?_|refine pG hS.2 ?_)<;>(try simp[-cB, *,ay,bR]))
     | (with_reducible intro _))
    rename_i y hy;have h2:=jN (by simp[h]);rw[aq9]at h2;simpa using h2 y (by simpa using hy)
   ·intro bQ;rw[LW,bQ];simp
def yD(t:aq)(i:Int):Bool:=t.mU.any λd=>decide (d.Body=i)
def lJ(t:aq)(i:Int):Bool:=(t.cS.any λf=>decide (f=i))||(t.mU.any λd=>decide (d.jj=i))||t.aB.any λx=>x.mD.any λw=>decide (w.jj=i)
theorem abV(t:aq)(ht:t.wf)(i:Int):Pure prog 63 [.agg (t.enc.map .d),iD i] (oD (yD t i)):=by
 have hlen:=aq.G7 ht;refine rn func63 ?_;simp[-cB,f63];intro bs;refine aw.fq [1,2,5] t.mU (λpre=> [(5,iD pre.length)]) (λ_=> []) (λpre=>(pre.any λd=>decide (d.Body=i))=false) (by rfl) (by omega) (by simp) ?_ ?_
 ·rintro pre s post bn sG ay bR a4;have pJ:s.Body=i->yD t i=true:=λh=>by unfold yD;rw[bn];simp[h]
  have jN:¬s.Body=i->((pre++ [s]).any λd=>decide (d.Body=i))=false:=λh=>by rw[arn,sG];simp[h]
  clear bn;by_cases h:s.Body=i
  ·simp[ay,bR,h,pJ h]
  ·simp[ay,bR,h];refine⟨a4,λy hy=>?_⟩;have h2:=jN h;rw[aq9]at h2;simpa using h2 y (by simpa using hy)
 ·intro bQ;simp[yD,bQ]
theorem Za(t:aq)(ht:t.wf)(i:Int):Pure prog 62 [.agg (t.enc.map .d),iD i] (oD (lJ t i)):=by
 have hlen:=aq.G7 ht;have am8:=aq.G8 ht;have am9:=aq.DV ht;have Zb:=aq.Lk ht;refine rn func62 ?_;simp[-cB,f62];intro bs;refine aw.fq [1,2,5] t.cS (λpre=> [(5,iD pre.length)]) (λ_=> []) (λpre=>(pre.any λd=>decide (d=i))=false) (by rfl) (by omega) (by simp) ?_ ?_
 ·rintro pre s post bn sG ay bR a4;have pJ:s=i->lJ t i=true:=λh=>by unfold lJ;rw[bn];simp[h]
  have jN:¬s=i->((pre++ [s]).any λd=>decide (d=i))=false:=λh=>by rw[arn,sG];simp[h]
  clear bn;by_cases h:s=i
  ·simp[ay,bR,h,pJ h]
  ·simp[ay,bR,h];refine⟨a4,λy hy=>?_⟩;have h2:=jN h;rw[aq9]at h2;simpa using h2 y (by simpa using hy)
 ·intro aic;simp;refine aw.fq [1,2,6] t.mU (λpre=> [(6,iD pre.length)]) (λ_=> []) (λpre=>(pre.any λd=>decide (d.jj=i))=false) (by rfl) (by omega) (by simp) ?_ ?_
  ·rintro pre s post bn sG ay bR a4;have pJ:s.jj=i->lJ t i=true:=λh=>by unfold lJ;rw[bn];simp[h]
   have jN:¬s.jj=i->((pre++ [s]).any λd=>decide (d.jj=i))=false:=λh=>by rw[arn,sG];simp[h]
   clear bn;by_cases h:s.jj=i
   ·simp[ay,bR,h,pJ h]
   ·simp[ay,bR,h];refine⟨a4,λy hy=>?_⟩;have h2:=jN h;rw[aq9]at h2;simpa using h2 y (by simpa using hy)
  ·intro aid;simp;refine aw.fq [1,2,7] t.aB (λpre=> [(7,iD pre.length)]) (λ_=> []) (λpre=>(pre.any λx=>x.mD.any λw=>decide (w.jj=i))=false) (by rfl) (by omega) (by simp) ?_ ?_
   ·rintro pre s post bn sG ay bR a4;have hwl:=aZ.Fc (Zb s (by rw[bn];simp));have pJ:(s.mD.any λw=>decide (w.jj=i))=true->lJ t i=true:=λh=>by unfold lJ;rw[bn];simp only[arn,asf,h];simp
    have jN:(s.mD.any λw=>decide (w.jj=i))=false->((pre++ [s]).any λx=>x.mD.any λw=>decide (w.jj=i))=false:=λh=>by rw[arn,sG];simp only[asf,h,List.any_nil];rfl
    clear bn;simp[ay,bR];refine aw.fq [1,2,7,8,9] s.mD (λpre=> [(9,iD pre.length)]) (λ_=> []) (λpre=>(pre.any λw=>decide (w.jj=i))=false) (by rfl) (by omega) (by simp) ?_ ?_
    ·rintro VN u adq Kw aie dw Ke a4';have aif:u.jj=i->lJ t i=true:=λh=>pJ (by rw[Kw];simp[h])
     have akd:¬u.jj=i->((VN++ [u]).any λd=>decide (d.jj=i))=false:=λh=>by rw[arn,aie];simp[h]
     clear Kw pJ jN;by_cases h:u.jj=i
     ·simp[dw,Ke,h,aif h]
     ·simp[dw,Ke,h];refine⟨a4',λy hy=>?_⟩;have h2:=akd h;rw[aq9]at h2;simpa using h2 y (by simpa using hy)
    ·intro bQ;have h3:=jN bQ;simp[a4];intro y hy;rw[aq9]at h3;have:=h3 y (by simpa using hy);simpa using this
   ·intro aih;have:lJ t i=false:=by unfold lJ;rw[aic,aid,aih];rfl
    simp[this]
set_option maxHeartbeats 4000000
set_option maxRecDepth 40000
def yE(C:List ae)(k:Int):Nat:=C.countP λi=>decide (i.Op=38)&&decide (i.Arg=k)
def wB(C:List ae)(k:Int):Nat:=C.countP λi=>(decide (i.Op=24)||decide (i.Op=25))&&decide (i.Arg=k)
def CR(C:List ae):Nat:=C.countP λi=>decide (i.Op=38)
def tkC(C:List ae):Nat:=C.countP λi=>decide (i.Op=37)
theorem xx(a b:List ae)(k:Int):yE (a++b) k=yE a k+yE b k:=aru
theorem xy(a b:List ae)(k:Int):wB (a++b) k=wB a k+wB b k:=aru
theorem xz(a b:List ae):CR (a++b)=CR a+CR b:=aru
theorem sL(i:ae)(l:List ae)(k:Int):yE (i::l) k=yE l k+if i.Op=38/\i.Arg=k then 1 else 0:=by simp[yE,arG]
theorem sM(i:ae)(l:List ae)(k:Int):wB (i::l) k=wB l k+if(i.Op=24\/i.Op=25)/\i.Arg=k then 1 else 0:=by simp[wB,arG]
theorem sN(i:ae)(l:List ae):CR (i::l)=CR l+if i.Op=38 then 1 else 0:=by simp[CR,arG]
@[simp] theorem Ts(k:Int):yE [] k=0:=rfl
@[simp] theorem Tt(k:Int):wB [] k=0:=rfl
@[simp] theorem akN:CR []=0:=rfl
@[simp] theorem akO:tkC []=0:=rfl
structure pb(C:List ae) (a b:Int):Prop where
 le:a<=b
 st:∀k,(a<=k/\k<b->yE C k=1)/\(¬(a<=k/\k<b)->yE C k=0)
 ak:∀k,(a<=k/\k<b->0<wB C k)/\(¬(a<=k/\k<b)->wB C k=0)
 nl:(CR C:Int)=b-a
theorem pb.nil(a:Int):pb [] a a:=⟨by omega,λk=>by simp<;>omega,λk=>by simp<;>omega,by simp⟩
theorem pb.app{C D:List ae}{a b c:Int}(h:pb C a b)(h':pb D b c):pb (C++D) a c:=by
 have l1:=h.le;have l2:=h'.le;refine⟨by omega,λk=>?_,λk=>?_,?_⟩
 ·have:=h.st k;have:=h'.st k;rw[xx];omega
 ·have:=h.ak k;have:=h'.ak k;rw[xy];omega
 ·have:=h.nl;have:=h'.nl;rw[xz];omega
def ob(i:ae):Prop:=i.Op≠24/\i.Op≠25/\i.Op≠38
theorem aeD{l:List ae}(h:∀i∈l,ob i):(∀k,yE l k=0)/\(∀k,wB l k=0)/\CR l=0:=by
 induction l with
 | nil=>simp
 | cons i l ih=>
   obtain⟨h1,h2,h3⟩:=ih (λx hx=>h x (by simp[hx]));obtain⟨a,b,c⟩:=h i (by simp);exact⟨λk=>by rw[sL,h1];simp[c],λk=>by rw[sM,h2];simp[a,b],by rw[sN,h3];simp[c]⟩
theorem pb.ob{l:List ae}(h:∀i∈l,ob i)(a:Int):pb l a a:=by
 obtain⟨h1,h2,h3⟩:=aeD h;exact⟨by omega,λk=>by rw[h1];omega,λk=>by rw[h2];omega,by rw[h3];omega⟩
theorem agx{α:Type}{p:α->Prop}{c:Prop}[Decidable c]{a b:α}(h1:c->p a)(h2:¬c->p b):p (if c then a else b):=by
 split
 ·exact h1 ‹_›
 ·exact h2 ‹_›
theorem Zc(e:au):ob (cG e)/\(cG e).Op≠37:=by
 unfold cG Go.Ab.ob
 repeat' split
 all_goals simp
theorem VT(k num:Int):ob (eS k num)/\(eS k num).Op≠37:=by
 have key:∀p:ae->Prop,(∀i∈ [ae.mk 6 num,⟨4,num⟩,⟨14,num⟩,⟨15,num⟩,⟨16,num⟩,⟨32,num⟩,⟨33,num⟩,⟨17,0⟩,⟨18,0⟩,⟨27,0⟩,⟨28,0⟩,⟨29,0⟩,⟨30,0⟩,⟨31,0⟩,⟨34,0⟩,⟨35,0⟩,⟨36,0⟩,⟨2,0⟩],p i)->p (eS k num):=by
  intro p h;unfold eS;simp only[ap8,List.not_mem_nil,or_false,forall_eq_or_imp,forall_eq]at h;obtain⟨a1,a2,a3,a4,a5,a6,a7,a8,a9,a10,a11,a12,a13,a14,a15,a16,a17,a18⟩:=h
  iterate 17 (refine agx (λ_=>?_) (λ_=>?_);assumption)
  assumption
 refine key (λi=>ob i/\i.Op≠37) ?_;simp[Go.Ab.ob]
theorem pb.two{A B C D E:List ae}{n m k:Int}(hA:pb A (n+2) m)(hB:pb B m k)
  (h1:∀j,yE C j+yE D j+yE E j=(if n=j then 1 else 0)+(if n+1=j then 1 else 0))
  (h2:∀j,(j=n\/j=n+1->0<wB C j+wB D j+wB E j)/\(¬(j=n\/j=n+1)->wB C j+wB D j+wB E j=0))
  (h3:CR C+CR D+CR E=2):pb (C++A++D++B++E) n k:=by
 have l1:=hA.le;have l2:=hB.le;refine⟨by omega,λj=>?_,λj=>?_,?_⟩
 ·have:=hA.st j;have:=hB.st j;have:=h1 j;simp only[xx];split at this<;>split at this<;>omega
 ·have:=hA.ak j;have:=hB.ak j;have:=h2 j;simp only[xy];omega
 ·have:=hA.nl;have:=hB.nl;simp only[xz];omega
theorem LX(l:List au)(hl:∀x∈l,∀m,pb (aT x m).1 m (aT x m).2)(m:Int):pb (aK l m).1 m (aK l m).2:=by
 induction l generalizing m with
 | nil=>rw[aK];exact .nil m
 | cons x l ih=>
   rw[aK];exact(hl x (by simp) m).app (ih (λy hy=>hl y (by simp[hy])) _)
theorem PL(e:au)(m:Int):pb (aT e m).1 m (aT e m).2:=by
 obtain⟨n,hn⟩:∃n,SizeOf.sizeOf e<n:=⟨_,ap5 _⟩
 induction n generalizing e m with
 | zero=>omega
 | succ n ih=>
   have hs:∀x∈e.av,∀m,pb (aT x m).1 m (aT x m).2:=λx hx m=>ih x m (by have:=au.mO hx;omega)
   by_cases hL:qe e
   ·obtain⟨hk,ho⟩:=hL;by_cases hA:∃a b r,e.av=a::b::r
    ·obtain⟨a,b,r,hA⟩:=hA;have h1:=hs a (by simp[hA]) (m+2);have h2:=hs b (by simp[hA]) (aT a (m+2)).2;rcases ho with ho|ho
     ·rw[uE e a b r m hk ho hA];have:=pb.two (C:=[]) (D:=[⟨25,m⟩]++ [⟨1,1⟩,⟨24,m+1⟩,⟨38,m⟩]) (E:=[⟨11,0⟩,⟨38,m+1⟩]) h1 h2
       (λj=>by simp only[sL,Ts,apZ,ap4];simp<;>omega) (λj=>by simp only[sM,Tt,apZ,ap4];simp;by_cases e1:m=j<;>by_cases e2:m+1=j<;>simp[e1,e2]<;>omega) (by simp[sN])
      simpa[ap0]using this
     ·rw[sy e a b r m hk ho hA];have:=pb.two (C:=[]) (D:=[⟨25,m⟩]) (E:=[⟨11,0⟩,⟨24,m+1⟩,⟨38,m⟩,⟨1,0⟩,⟨38,m+1⟩]) h1 h2
       (λj=>by simp only[sL,Ts,apZ,ap4];simp<;>omega) (λj=>by simp only[sM,Tt,apZ,ap4];simp;by_cases e1:m=j<;>by_cases e2:m+1=j<;>simp[e1,e2]<;>omega) (by simp[sN])
      simpa[ap0]using this
    ·have:aT e m=([],m):=by
      cases e with
      | mk k o n s l=>
        cases l with
        | nil=>rw[aT.eq_def];simp[show k=6 from hk,show o=1\/o=2 from ho]
        | cons a l=>
          cases l with
          | nil=>rw[aT.eq_def];simp[show k=6 from hk,show o=1\/o=2 from ho]
          | cons b r=>exact absurd ⟨a,b,r,rfl⟩ hA
     rw[this];exact .nil m
   ·rw[oz e m hL];exact(LX e.av hs m).app (.ob (λi hi=>by rw[aq5.1 hi];exact(Zc e).1) _)
theorem rf(l:List au)(m:Int):pb (aK l m).1 m (aK l m).2:=LX l (λx _ m=>PL x m) m
theorem abW(x:au)(m:Int):pb (eM x m).1 m (eM x m).2:=by
 unfold eM;split
 ·exact .ob (by simp[ob]) _
 ·split
  ·exact(rf x.av m).app (.ob (by simp[ob]) _)
  ·exact(PL x m).app (.ob (by simp[ob]) _)
theorem VU(l:List au)(m:Int):pb (cF l m).1 m (cF l m).2:=by
 induction l generalizing m with
 | nil=>rw[cF];exact .nil m
 | cons x l ih=>
   rw[cF];exact(abW x m).app (ih _)
theorem abX:∀(N:Nat) (l:List al),SizeOf.sizeOf l<N->∀m:Int,pb (aQ l m).1 m (aQ l m).2:=by
 intro N
 induction N with
 | zero=>intro l h;omega
 | succ N ih=>
   intro l h m;cases l with
   | nil=>rw[aQ];exact .nil m
   | cons s l=>
     have hl:SizeOf.sizeOf l<N:=by simp only[aqt]at h;omega
     have hs:SizeOf.sizeOf s<N:=by simp only[aqt]at h;omega
     have hb:=al.q8 s;have he:=al.re s;rw[aQ];refine pb.app ?_ (ih l hl _);by_cases k9:s.Kind=9
     ·by_cases vp:s.bC=[]
      ·rw[sz s m k9 vp];have a1:=rf s.av (m+1);have a2:=ih s.Body (by omega) (aK s.av (m+1)).2;have l1:=a1.le;have l2:=a2.le;refine⟨by omega,λj=>?_,λj=>?_,?_⟩
       ·have:=a1.st j;have:=a2.st j;simp[xx,sL,tick];split<;>omega
       ·have:=a1.ak j;have:=a2.ak j;simp[xy,sM,tick];split<;>omega
       ·have:=a1.nl;have:=a2.nl;simp[xz,sN,tick];omega
      ·rw[sA s m k9 vp];have a1:=rf s.av (m+2);have a2:=ih s.Body (by omega) (aK s.av (m+2)).2;have a3:=ih s.bC (by omega) (aQ s.Body (aK s.av (m+2)).2).2;have l1:=a1.le;have l2:=a2.le;have l3:=a3.le;refine⟨by omega,λj=>?_,λj=>?_,?_⟩
       ·have:=a1.st j;have:=a2.st j;have:=a3.st j;simp[xx,sL,tick];split<;>split<;>omega
       ·have:=a1.ak j;have:=a2.ak j;have:=a3.ak j;simp[xy,sM,tick];split<;>split<;>omega
       ·have:=a1.nl;have:=a2.nl;have:=a3.nl;simp[xz,sN,tick];omega
     by_cases oa:s.Kind=10
     ·rw[oA s m oa];have a1:=rf s.av (m+2);have a2:=ih s.Body (by omega) (aK s.av (m+2)).2;have l1:=a1.le;have l2:=a2.le;refine⟨by omega,λj=>?_,λj=>?_,?_⟩
      ·have:=a1.st j;have:=a2.st j;simp[xx,sL,tick];split<;>split<;>omega
      ·have:=a1.ak j;have:=a2.ak j;simp[xy,sM,tick];split<;>split<;>omega
      ·have:=a1.nl;have:=a2.nl;simp[xz,sN,tick];omega
     by_cases o9:s.Kind=11
     ·rw[qg s m o9];have a1:=rf s.av (m+2);have a2:=ih s.Body (by omega) (aK s.av (m+2)).2;have l1:=a1.le;have l2:=a2.le;refine⟨by omega,λj=>?_,λj=>?_,?_⟩
      ·have:=a1.st j;have:=a2.st j;simp[xx,sL,tick];split<;>split<;>omega
      ·have:=a1.ak j;have:=a2.ak j;simp[xy,sM,tick];split<;>split<;>omega
      ·have:=a1.nl;have:=a2.nl;simp[xz,sN,tick];omega
     by_cases k1:s.Kind=1
     ·rw[qh s m k1];exact(pb.ob (by simp[ob,tick]) m).app (VU s.av m)
     ·rw[oB s m k9 oa o9 k1];exact((pb.ob (by simp[ob,tick]) m).app (rf s.av m)).app (.ob (λi hi=>by rw[aq5.1 hi];exact(VT _ _).1) _)
mutual
def aii:al->Nat
 | .mk _ _ _ _ b c=>1+PM b+PM c
def PM:List al->Nat
 | []=>0
 | s::l=>aii s+PM l
end
mutual
def aij:al->Nat
 | .mk k _ _ _ b c=>(if k=11 then 1 else 0)+(PN b+PN c)
def PN:List al->Nat
 | []=>0
 | s::l=>aij s+PN l
end
set_option maxHeartbeats 200000
set_option maxRecDepth 512
theorem I9{nx:List Int}{n:Nat}:∀{k j:Nat} {c x:Int},k<=j->x∈bP nx n k c->x∈bP nx n j c
 | 0,j,c,x,_,h=>by simp[bP]at h
 | k+1,j,c,x,hj,h=>by
   obtain⟨j,rfl⟩:∃i,j=i+1:=⟨j-1,by omega⟩
   rw[bP]at h⊢;split at h
   ·rename_i hc;rw[if_pos hc];rcases ap8.1 h with rfl|h
    ·exact ap7
    ·exact ap2 _ (I9 (by omega) h)
   ·cases h
theorem Gm{nx:List Int}{n:Nat}:∀{k:Nat} {c:Int},(bP nx n k c).length<k->cT n (match(bP nx n k c).getLast? with|some y=>aL nx y|none=>c)=false
 | 0,c,h=>by simp at h
 | k+1,c,h=>by
   rw[bP]at h⊢;by_cases hc:cT n c=true
   ·rw[if_pos hc]at h⊢;have h1:=Gm (nx:=nx) (n:=n) (k:=k) (c:=aL nx c) (by simpa using h);rw[ar5];cases hl:(bP nx n k (aL nx c)).getLast? with
    | none=>simpa[hl]using h1
    | some y=>simpa[hl]using h1
   ·rw[if_neg hc];simpa using hc
theorem Ez{nx:List Int}{n:Nat}(ha:∀y,cT n y=true->y∉bP nx n n (aL nx y)):∀{k:Nat} {c:Int},k<=n->(bP nx n k c).Nodup
 | 0,c,_=>by simp[bP]
 | k+1,c,hk=>by
   rw[bP];split
   ·rename_i hc;exact aqZ.2 ⟨λhm=>ha c hc (I9 (by omega) hm),Ez ha (by omega)⟩
   ·simp
theorem VV{nx:List Int}{n:Nat}(h0:aL nx 0=0)(hu:∀y,cT n y=true->aL nx y=0\/cT n (aL nx y)=true)(ha:∀y,cT n y=true->y∉bP nx n n (aL nx y)){x:Int}(hx:cT n x=true):Ch nx n x (bP nx n n x):=by
 have kg:(bP nx n n x).Nodup:=Ez ha (apU _);refine OM h0 (.inr ⟨kg,apU _⟩) ?_;have hb:=bG.1 hx;have hlen:(bP nx n n x).length<n:=by
  rcases BI kg (λx hx=>mY hx)with h|h
  ·exact h
  ·rw[h];simp;omega
 have hl:=Gm hlen;cases hg:(bP nx n n x).getLast? with
 | none=>
   rw[hg]at hl;simp only at hl;rw[hx]at hl;cases hl
 | some y=>
   rw[hg]at hl;simp only at hl⊢;rcases hu y (bG.2 (mY (arP hg)))with h|h
   ·exact h
   ·rw[hl]at h;cases h
theorem iJ.VW{t:Tree}(h:po t=true):iJ t t.bz.length (cz t):=by
 unfold po at h;simp only[apP,decide_eq_true_eq,apR,aqK]at h;obtain⟨⟨⟨⟨⟨⟨h1,h2⟩,h3⟩,h4⟩,h5⟩,h6⟩,h7⟩:=h;have node:∀x:Int,1<=x->x<t.bz.length->sh t x=true:=by
  intro x a b;have:=h7 (x.toNat-1) (by omega)
  rwa[show(((x.toNat-1:Nat):Int)+1)=x by omega]at this
 have parts:∀x:Int,1<=x->x<t.bz.length->(aL t.bz x=0\/cT t.bz.length (aL t.bz x)=true)/\(aL t.bz x=0->aL t.km x=0)/\xu t x=true/\(aL t.bz x≠0->x∈cz t (aL t.bz x))/\(cT t.bz.length (aL t.bz x)=true->x∉jV t (aL t.bz x)):=by
  intro x a b;have:=node x a b;unfold sh at this;simp only[apP,arA,aq4,decide_eq_false_iff_not,ar6,aqX]at this;obtain⟨⟨⟨⟨n1,n2⟩,n3⟩,n4⟩,n5⟩:=this;refine⟨n1,λe=>?_,n3,λe=>?_,λe=>?_⟩
  ·rcases n2 with n2|n2
   ·exact(n2 e).elim
   ·exact n2
  ·rcases n4 with n4|n4
   ·exact(e n4).elim
   ·exact List.count_pos_iff.1 (by omega)
  ·rcases n5 with n5|n5
   ·rw[e]at n5;cases n5
   ·exact n5
 have up:∀y,cT t.bz.length y=true->aL t.bz y=0\/cT t.bz.length (aL t.bz y)=true:=λy hy=>(parts y (bG.1 hy).1 (bG.1 hy).2).1
 have listed:∀x:Int,1<=x->x<t.bz.length->(∀y∈cz t x,aL t.bz y=x/\(cz t x).count y=1)/\(match(cz t x).getLast? with|some y=>aL t.km y|none=>aL t.jQ x)=0:=by
  intro x a b;have:=(parts x a b).2.2.1;rw[BK,apP,apR,decide_eq_true_eq]at this;refine⟨λy hy=>?_,this.2⟩;have h:=this.1 y hy;unfold jx at h;simpa using h
 refine⟨by omega,rfl,h2,h3,h4,h5,h6,λx a b=>?_,λx a b y hy=>((listed x a b).1 y hy).1,λx a b=>?_,λx a b=>?_⟩
 ·have hk:cz t x=bP t.km t.bz.length t.bz.length (aL t.jQ x):=by rw[cz,if_pos (bG.2 ⟨a,b⟩)]
  have hl:=listed x a b;rw[hk]at hl⊢;refine OM h6 (.inr ⟨?_,apU _⟩) hl.2;rw[arQ];intro y;by_cases hy:y∈bP t.km t.bz.length t.bz.length (aL t.jQ x)
  ·rw[(hl.1 y hy).2];exact apU _
  ·rw[List.count_eq_zero.2 hy];omega
 ·obtain⟨p1,p2,p3,p4,p5⟩:=parts x a b;rcases p1 with e|e
  ·exact .inl ⟨e,p2 e⟩
  ·exact .inr ⟨bG.1 e,p4 (by have:=bG.1 e;omega)⟩
 ·refine⟨_,VV h4 up (λy hy=>?_) (bG.2 ⟨a,b⟩)⟩;obtain⟨p1,p2,p3,p4,p5⟩:=parts y (bG.1 hy).1 (bG.1 hy).2;rcases p1 with e|e
  ·rw[e];have:¬y∈bP t.bz t.bz.length t.bz.length 0:=by
    intro hm;cases hn:t.bz.length with
    | zero=>rw[hn]at hm;simp[bP]at hm
    | succ k=>rw[hn,bP]at hm;simp[cT]at hm
   exact this
  ·exact p5 e
theorem Ch.head{nx:List Int}{n:Nat}{c:Int}{l:List Int}(h:Ch nx n c l):c=0\/(1<=c/\c<n):=by
 cases h with
 | nil=>exact .inl rfl
 | cons h t=>exact .inr h
theorem Ch.VX{nx:List Int}{n:Nat}{c:Int}{l:List Int}(h:Ch nx n c l):∀y∈l,aL nx y=0\/(1<=aL nx y/\aL nx y<n):=by
 induction h with
 | nil=>simp
 | @cons c l h t ih=>
   intro y hy;rcases ap8.1 hy with rfl|hy
   ·exact t.head
   ·exact ih y hy
theorem xA{l:List Int}{y:Int}(h:y∈l):∃i:Int,0<=i/\i<l.length/\aL l i=y:=by
 obtain⟨k,hk,rfl⟩:=arp h;refine⟨k,by omega,by omega,?_⟩;rw[aL,if_neg (by omega)];simp[anc hk]
structure jM(t:aq) (w:ai):Prop where
 wf:w.wf
 nest:iJ w.tree w.ah.length (cz w.tree)
 hC:w.Child.length=w.ah.length
 hN:w.Next.length=w.ah.length
 hT:w.ah.length=t.aB.length
 hF:w.Flags.length=t.aB.length
 hP:w.aM.length=t.aB.length *t.aM.length
 hG:w.aW.length=t.aW.length
 hD:w.bO.length=t.eu.length
 hn:3<=t.aB.length/\t.aB.length<=128
 hp:t.aM.length<=16
 g16:∀x∈w.aW,-32768<=x/\x<=32767
 p16:∀x∈w.aM,-32768<=x/\x<=32767
 fl:∀x∈w.Flags,0<=x/\x<=lr t.Flags-1
 tm:∀x∈w.bO,0<=x/\x<=32767
 sc: -32768<=w.Score/\w.Score<=32767
 tu:0<=w.nG/\w.nG<=2147483647
 ov:0<=w.lq/\w.lq<=3
 it:0<=w.It/\w.It<t.aB.length
 go:0<=w.Go/\w.Go<=12
 pl:td t w=true
theorem jM.PO{t:aq}{w:ai}(h:jM t w):ym w:=ym.ael h.wf h.nest
theorem gC{t:aq}(hf:fF t=true):(3<=t.aB.length/\t.aB.length<=128)/\t.aM.length<=16/\t.aW.length<=64/\t.eu.length<=16/\t.gO.length<=4096/\t.Params.length=t.aJ.length/\t.Params.length<=2048/\t.cS.length<=64/\(4<=t.Flags/\t.Flags<=16):=by
 unfold fF IK Fl D5 at hf;simp only[apP,decide_eq_true_eq,bJ]at hf;omega
theorem jM.of{t:aq}{w:ai}(hf:fF t=true)(h:bS t w=true)(hs:0<=w.dN/\w.dN<18446744073709551616):jM t w:=by
 obtain⟨d1,d2,d3,d4,d5,d6,d7,d8,d9⟩:=gC hf;unfold bS at h;simp only[apP,decide_eq_true_eq,bJ,cx,apR,ib]at h;obtain⟨⟨⟨⟨⟨⟨⟨h1,h2⟩,h3⟩,h4⟩,h5⟩,h6⟩,⟨⟨⟨⟨⟨h7,h8⟩,h9⟩,dX⟩,fT⟩,uj⟩⟩,⟨⟨⟨jb,LY⟩,r6⟩,nB⟩⟩:=h;have hn:=iJ.VW h6;have e1:w.tree.bz=w.ah:=rfl;have e2:w.tree.jQ=w.Child:=rfl;have e3:w.tree.km=w.Next:=rfl;rw[e1]at hn;have lc:w.Child.length=w.ah.length:=hn.lc;have ln:w.Next.length=w.ah.length:=hn.ln;have Kz:=BQ t.Flags;have small:∀y:Int,y=0\/(1<=y/\y<w.ah.length)->aN .i64 y:=by intro y hy;rw[aR];omega
 have pE:∀x:Int,0<=x->x<w.ah.length->aL w.ah x=0\/(1<=aL w.ah x/\aL w.ah x<w.ah.length):=by
  intro x a b;by_cases h0:x=0
  ·subst h0;exact .inl hn.p0
  ·rcases hn.up x (by omega) b with h|h
   ·exact .inl h.1
   ·exact .inr h.1
 have abY:∀x:Int,0<=x->x<w.ah.length->aL w.Child x=0\/(1<=aL w.Child x/\aL w.Child x<w.ah.length):=by
  intro x a b;by_cases h0:x=0
  ·subst h0;exact .inl hn.c0
  ·exact(hn.ch x (by omega) b).head
 have abZ:∀x:Int,0<=x->x<w.ah.length->aL w.Next x=0\/(1<=aL w.Next x/\aL w.Next x<w.ah.length):=by
  intro x a b;by_cases h0:x=0
  ·subst h0;exact .inl hn.n0
  ·rcases hn.up x (by omega) b with h|h
   ·exact .inl h.2
   ·exact(hn.ch _ h.1.1 h.1.2).VX x h.2
 have i16:∀y:Int,(-32768<=y/\y<=32767)->aN .i64 y:=by intro y hy;rw[aR];omega
 have ana:t.aB.length *t.aM.length<=128 *16:=ar9 d1.2 d2;refine⟨?_,hn,lc,ln,h2,h3,h4,h1,h5,d1,d2,h7,h8,h9,dX,fT,uj,jb,?_,r6,nB⟩
 ·unfold ai.wf;refine⟨by omega,λy hy=>i16 y (h7 y hy),by omega,λy hy=>?_,by omega,λy hy=>?_,by omega,λy hy=>?_,by omega,λy hy=>?_,by omega,λy hy=>i16 y (h8 y hy),by omega,λy hy=>?_,?_,i16 _ fT,?_,?_,?_,?_⟩
  ·obtain⟨i,a,b,rfl⟩:=xA hy;exact small _ (pE i a b)
  ·obtain⟨i,a,b,rfl⟩:=xA hy;exact small _ (abY i a (by omega))
  ·obtain⟨i,a,b,rfl⟩:=xA hy;exact small _ (abZ i a (by omega))
  ·have:=h9 y hy;rw[aR];omega
  ·have:=dX y hy;rw[aR];omega
  ·simp only[aN];exact⟨hs.1,by have:=hs.2;show w.dN<=18446744073709551615;omega⟩
  ·rw[aR];omega
  ·rw[aR];omega
  ·rw[aR];omega
  ·rw[aR];omega
 ·omega
def A1(S L:List Int)(σ:MS)(p:Int×Int):Ev:=if p.2=0 then .ok (ax p.1::S) L σ else .bm p.2
def jS(v:Bool)(S L:List Int)(σ:MS):Option (ai×OC)->Option Ev
 | some (w,.bL n)=>some (.ok (if v then ax n::S else S) L {σ with W:=w})
 | some (_,.bm e)=>some (.bm e)
 | some (w,.over)=>some (.over {σ with W:=w})
 | _=>none
def uB(S L:List Int)(σ:MS)(s:ByteArray):Option Ev:=if σ.Out.size+s.size<=140737488355328 then some (.ok S L {σ with Out:=σ.Out++s})else none
def eQ(op:Int):Int:=if op=3 then 14 else if op=7 then 12 else if op=12 then 16 else if op=13 then 17 else if op=19 then 10 else if op=20 then 11 else 0
def fy(op:Int):Int:=
 if op=4 then 23 else if op=14 then 4 else if op=15 then 5 else if op=16 then 6 else if op=17 then 7 else if op=18 then 8 else if op=28 then 13 else if op=29 then 14 else if op=30 then 15
 else if op=31 then 16 else if op=32 then 17 else if op=33 then 18 else if op=34 then 20 else 0
def dr(op:Int):Nat:=if op=3\/op=7\/op=28\/op=29\/op=30\/op=33 then 0 else if op=14\/op=17 then 2 else 1
def instJ(c:XC)(i:ae)(S L:List Int)(σ:MS):Option Ev:=
 if i.Op=1 then some (.ok (ax i.Arg::S) L σ)
 else if i.Op=37 then(if 0<=σ.Fuel/\σ.Fuel<=1099511627776 then if c.M<σ.Fuel+1 then some (.bm 19)else some (.ok S L {σ with Fuel:=σ.Fuel+1})else none)
 else if i.Op=5 then(if eJ L i.Arg then some (.ok (ax (aC L i.Arg)::S) L σ)else none)
 else if i.Op=21 then uB S L σ (tX c.B.Tables i.Arg)
 else if i.Op=35 then(if okW c σ.W=true then uB S L σ (BX c.B.Tables σ.W)else none)
 else if dr i.Op=0 then(if eQ i.Op≠0 then jS true S L σ (dZ c σ.W (eQ i.Op) i.Arg [])else if fy i.Op≠0 then jS false S L σ (dk c σ.W (fy i.Op) i.Arg [])else none)
 else match S with
  | []=>none
  | v::S=>
    if i.Op=2 then some (.ok S L σ)
    else if i.Op=6 then(if eJ L i.Arg then some (.ok S (L.set i.Arg.toNat v) σ)else none)
    else if i.Op=9 then some (.ok (ax (uP v)::S) L σ)
    else if i.Op=10 then some (.ok (notM v::S) L σ)
    else if i.Op=11 then some (.ok (gF (decide (v≠0))::S) L σ)
    else if i.Op=22 then uB S L σ (yq v)
    else if i.Op=23 then uB S L σ (ix c.B.Tables v)
    else if i.Op=36 then(if okW c σ.W=true then uB S L σ (xb c.B.Tables σ.W v)else none)
    else if i.Op=8 then(match S with
     | []=>none
     | u::S=>if i.Arg=9/\okW c σ.W=false then none else some (A1 S L σ (iK σ.W i.Arg u v)))
    else if dr i.Op=2 then(match S with
     | []=>none
     | u::S=>if fy i.Op≠0 then jS false S L σ (dk c σ.W (fy i.Op) i.Arg [u,v])else none)
    else if eQ i.Op≠0 then jS true S L σ (dZ c σ.W (eQ i.Op) i.Arg [v])
    else if fy i.Op≠0 then jS false S L σ (dk c σ.W (fy i.Op) i.Arg [v])
    else none
def aX(c:XC):eA where
 J:=instJ c
 fn a:=if eJ c.B.Tables.cS a then aC c.B.Tables.cS a else -1
 pa r:=(aC c.B.Tables.Params r).toNat
 lo r a:=a.map ax++List.replicate ((aC c.B.Tables.aJ r).toNat-a.length) 0
def bT(b:br)(r:Int):List ae:=if eJ b.aF r then(aQ (b.aF[r.toNat]?.getD []) 0).1++ [⟨1,0⟩,⟨27,0⟩]else []
def bY(σ:XS):MS:=⟨σ.W,σ.Out,σ.Fuel⟩
theorem Zd(w:ai)(o a b:Int)(h:o≠9):iK w o (ax a) (ax b)=iK ai.zero o a b:=by
 unfold iK J8 J9 D1 U2 mulM;simp only[wrap_wrap,if_neg h]
theorem Ze(c:XC):(aX c).Ok where
 push a S L σ:=by simp[aX,instJ]
 pop x v S L σ:=by simp[aX,instJ,dr]
 bin o a b S L σ h9 h0:=by simp[aX,instJ,dr,h9,Zd,A1,h0]
 neg x a S L σ:=by simp[aX,instJ,dr,uP,wrap_wrap]
 no x v S L σ:=by simp[aX,instJ,dr]
 no0 x L σ:=by simp[aX,instJ,dr]
 test x a S L σ:=by simp[aX,instJ,dr]
 stops x S L σ S' L' σ' hx a:=by
  rcases hx with rfl|rfl|rfl<;>simp[aX,instJ,dr,eQ,fy,dk]<;>cases okW c σ.W<;>simp[jS]
def cD(c:XC)(d:Nat)(l r:List ae)(S L:List Int)(σ:MS)(r':List ae)(S' L':List Int)(σ':MS):Prop:=
 ∀g o k,run (aX c) (bT c.B) g d l r' S' L' σ'=some (o,k)->∃g' k',run (aX c) (bT c.B) g' d l r S L σ=some (o,k')
def dC(c:XC)(d:Nat)(l r:List ae)(S L:List Int)(σ:MS)(o:Oc):Prop:=∃g k,run (aX c) (bT c.B) g d l r S L σ=some (o,k)
theorem cD.refl(c:XC)(d:Nat)(l r:List ae)(S L:List Int)(σ:MS):cD c d l r S L σ r S L σ:=λg _ k h=>⟨g,k,h⟩
theorem cD.trans{c:XC}{d:Nat}{l r r1 r2:List ae}{S L S1 L1 S2 L2:List Int}{σ aO bV:MS}(h1:cD c d l r S L σ r1 S1 L1 aO)(h2:cD c d l r1 S1 L1 aO r2 S2 L2 bV):cD c d l r S L σ r2 S2 L2 bV:=by
 intro g o k h;obtain⟨g1,k1,h⟩:=h2 g o k h;exact h1 g1 o k1 h
theorem cD.stop{c:XC}{d:Nat}{l r r1:List ae}{S L S1 L1:List Int}{σ aO:MS}{o:Oc}(h1:cD c d l r S L σ r1 S1 L1 aO)(h2:dC c d l r1 S1 L1 aO o):dC c d l r S L σ o:=by
 obtain⟨g,k,h⟩:=h2;obtain⟨g1,k1,h⟩:=h1 g o k h;exact⟨g1,k1,h⟩
theorem cD.nx{c:XC}{d:Nat}{l r r1:List ae}{i:ae}{S L S1 L1:List Int}{σ aO:MS}{n:Nat}(h:nx (aX c) d l i r S L σ= .go r1 S1 L1 aO n):cD c d l (i::r) S L σ r1 S1 L1 aO:=by
 intro g o k hr;exact⟨g+1,k+n,by rw[kr h,hr];rfl⟩
theorem cD.flat{c:XC}{d:Nat}{l r:List ae}{i:ae}{S L S1 L1:List Int}{σ aO:MS}(hf:flat i.Op)(h:instJ c i S L σ=some (.ok S1 L1 aO)):cD c d l (i::r) S L σ r S1 L1 aO:=
 .nx (n:=1) (by rw[zx hf];show Nx.ev r σ (instJ c i S L σ)=_;rw[h];rfl)
theorem cD.label{c:XC}{d:Nat}{l r:List ae}{n:Int}{S L:List Int}{σ:MS}:cD c d l (⟨38,n⟩::r) S L σ r S L σ:= .nx (BY rfl)
theorem cD.rh{c:XC}{d:Nat}{l r r1:List ae}{n:Int}{S L S1 L1:List Int}{σ aO:MS}(h:cD c d l (⟨38,n⟩::r) S L σ r1 S1 L1 aO):cD c d l r S L σ r1 S1 L1 aO:=by
 intro g o k hr;obtain⟨g1,k1,h1⟩:=h g o k hr;obtain⟨g2,rfl⟩:=nZ h1;rw[kr (BY rfl)]at h1;obtain⟨k2,h2,_⟩:=iO h1;exact⟨g2,k2,h2⟩
theorem dC.rh{c:XC}{d:Nat}{l r:List ae}{n:Int}{S L:List Int}{σ:MS}{o:Oc}(h:dC c d l (⟨38,n⟩::r) S L σ o):dC c d l r S L σ o:=by
 obtain⟨g1,k1,h1⟩:=h;obtain⟨g2,rfl⟩:=nZ h1;rw[kr (BY rfl)]at h1;obtain⟨k2,h2,_⟩:=iO h1;exact⟨g2,k2,h2⟩
theorem Bl{a b:List ae}{n:Int}(hu:(bN (a++⟨38,n⟩::b)).Nodup):after (a++⟨38,n⟩::b) n=some b:=by
 rw[xc,after,if_pos ⟨rfl,rfl⟩];intro i hi ed;rw[oq,ary]at hu;exact hu.2.2 n (qD.2 ⟨i,hi,ed⟩) n (qD.2 ⟨⟨38,n⟩,by simp,rfl,rfl⟩) rfl
theorem cD.jump{c:XC}{d:Nat}{l a b r:List ae}{n:Int}{S L:List Int}{σ:MS}(hl:l=a++⟨38,n⟩::b)(hu:(bN l).Nodup):cD c d l (⟨24,n⟩::r) S L σ b S L σ:=
 .nx (n:=1) (by subst hl;rw[uU rfl,Bl hu];rfl)
theorem cD.Fw{c:XC}{d:Nat}{l a b r:List ae}{n v:Int}{S L:List Int}{σ:MS}(hl:l=a++⟨38,n⟩::b)(hu:(bN l).Nodup)(hv:ax v=0):cD c d l (⟨25,n⟩::r) (v::S) L σ b S L σ:=
 .nx (n:=1) (by subst hl;rw[rK rfl,Nx.zero,if_pos hv,Bl hu];rfl)
theorem cD.Fx{c:XC}{d:Nat}{l r:List ae}{n v:Int}{S L:List Int}{σ:MS}(hv:ax v≠0):cD c d l (⟨25,n⟩::r) (v::S) L σ r S L σ:=
 .nx (n:=1) (by rw[rK rfl,Nx.zero,if_neg hv])
theorem dC.bm{c:XC}{d:Nat}{l r:List ae}{i:ae}{S L:List Int}{σ:MS}{e:Int}(hf:Go.Ab.flat i.Op)(h:instJ c i S L σ=some (.bm e)):dC c d l (i::r) S L σ (.bm e σ):=
 ⟨1,1,by rw[run,zx hf,show(aX c).J i S L σ=instJ c i S L σ from rfl,h];rfl⟩
theorem dC.over{c:XC}{d:Nat}{l r:List ae}{i:ae}{S L:List Int}{σ aO:MS}(hf:Go.Ab.flat i.Op)(h:instJ c i S L σ=some (.over aO)):dC c d l (i::r) S L σ (.over aO):=
 ⟨1,1,by rw[run,zx hf,show(aX c).J i S L σ=instJ c i S L σ from rfl,h];rfl⟩
theorem dC.ret{c:XC}{d:Nat}{l r:List ae}{v x:Int}{S L:List Int}{σ:MS}:dC c d l (⟨27,x⟩::r) (v::S) L σ (.ret v σ):=
 ⟨1,1,by rw[run,Ho rfl];rfl⟩
def ly(b:br)(i:Int):List Int×Int:=if i<0\/(b.aF.length:Int)<=i then([],11)else pI (dK (bT b i))
theorem Zf(b:br)(hb:b.wf)(hR:∀l∈b.aF,me l/\gB l<=30000000)(i:Int):Pure prog 64 [.agg (b.enc.map .d),iD i] (.bM [Px (ly b i).1,iD (ly b i).2]):=by
 have hlen:=br.F5 hb;by_cases hi:i<0\/(b.aF.length:Int)<=i
 ·have hc:ly b i=([],11):=by unfold ly;rw[if_pos hi]
  rw[hc];refine rn func64 ?_;simp[-cB,f64];intro bs
  repeat' (first
   | (with_reducible refine And.intro ?_ ?_)
   | (refine aA (λh=>?_) (λh=>?_)<;>(try simp at h)<;>(try simp[-cB, *]))
   | (with_reducible intro _))
  ·rfl
  ·omega
 ·have hc:ly b i=pI (dK (bT b i)):=by unfold ly;rw[if_neg hi]
  rw[hc];have kF:i.toNat<b.aF.length:=by omega
  obtain⟨h1,h2⟩:=hR b.aF[i.toNat] (ap1 kF);have O5:bT b i=(aQ b.aF[i.toNat] 0).1++ [⟨1,0⟩,⟨27,0⟩]:=by
   unfold bT;rw[if_pos (by unfold eJ;omega),anc kF];rfl
  have bd:=gJ b.aF[i.toNat] 0;have hl:(bT b i).length<=1000000000:=by rw[O5];simp;omega
  have hg:=Hx b.aF[i.toNat] h1 h2;rw[<-O5]at hg;have ha:=abP (bT b i) (by omega);have hp:(dK (bT b i)).length<=(bT b i).length:=Cd _ _;have hs:=MQ (dK (bT b i)) (by omega);refine rn func64 ?_;simp[-cB,f64];intro bs;have qm:¬i<0:=by omega
  have FU:¬(b.aF.length:Int)<=i:=by omega
  simp[-cB,qm,FU,anc kF];refine⟨by omega,?_⟩;refine pC hg ?_;simp;refine pC ha ?_;simp;refine pC hs ?_;simp
end Go.Ab

/-
  The texts Lvm2 Vjoin Vjoin2 Vr7 Vtl4 Vjoin3 Vjoin4 Vsteps Vsteps2 Vlaw2 Vsteps3, one behind the other.
-/
import Derived.Test.YtmhnopomnpgcjaaGreatDoorMh9
set_option linter.unusedSimpArgs false
set_option linter.unusedVariables false
namespace Go.Ab
def gh(w w':aj):Prop:=w'.aQ.length=w.aQ.length/\w'.ae.length=w.ae.length/\w'.Child.length=w.Child.length/\w'.Next.length=w.Next.length/\w'.Flags.length=w.Flags.length/\w'.aJ.length=w.aJ.length/\w'.bc.length=w.bc.length
theorem fS(w:aj):gh w w:=⟨rfl,rfl,rfl,rfl,rfl,rfl,rfl⟩
theorem HR{a b c:aj}(h:gh a b)(k:gh b c):gh a c:=by
 unfold gh at *;omega
theorem Xm(w:aj)(x f:Int)(on:Bool):gh w (eb w x f on).1:=by
 unfold eb;split
 ·split
  ·exact fS w
  ·simp[gh]
 ·exact fS w
theorem aaC(t:ar)(w:aj)(x p n:Int):gh w (mW t w x p n).1:=by
 unfold mW;split<;>(try split)<;>simp[gh]
theorem HS(w:aj)(x:Int):gh w (cx w x):=⟨rfl,p8 w x,GC w x,GD w x,rfl,rfl,rfl⟩
theorem Ua(w:aj)(x to:Int):gh w (uX w x to):=by
 have h:=HS w x;unfold gh at *;unfold uX;simp;omega
theorem KG(t:ar)(p:aj×Int):(pE t p).1=p.1:=by unfold pE;split<;>rfl
theorem QB(t:ar)(w:aj)(x:Int):gh w (iG t w x).1:=by
 unfold iG;split
 ·exact fS w
 ·rw[KG];unfold fC;split
  ·exact HS w x
  ·exact fS w
theorem Xn(t:ar)(w:aj)(x to:Int):gh w (kW t w x to).1:=by
 unfold kW;split
 ·exact fS w
 ·rw[KG];unfold kX;repeat' split
  all_goals first|exact fS w|exact Ua w x to
theorem aaD{α:Type}{p:Prop}[Decidable p]{a b:Option α}{x:α}{Q:Prop}(h:(if p then a else b)=some x)(h1:a=some x->Q)(h2:b=some x->Q):Q:=by
 by_cases hp:p
 ·rw[if_pos hp]at h;exact h1 h
 ·rw[if_neg hp]at h;exact h2 h
theorem QC{w:aj}{p:aj×Int}(h:gh w p.1):gh w (ja w p).1:=by
 unfold ja;split
 ·exact h
 ·exact fS w
theorem Xo{c:XC}{w w':aj}{k n:Int}{a:List Int}{o:OC}(h:cE c w k n a=some (w',o)):gh w w':=by
 have wO:∀p,gh w p.1->some (ja w p)=some (w',o)->gh w w':=by
  intro p hp he;have:=QC hp;rw[aoK he]at this;exact this
 unfold cE at h
 repeat' (refine aaD h (λh=>?_) (λh=>?_))
 all_goals first
  | (cases h;done)
  | exact wO _ (Xm ..) h
  | exact wO _ (QB ..) h
  | exact wO _ (aaC ..) h
  | exact wO _ (Xn ..) h
  | (simp only[anc,aoI]at h;rw[<-h.1];first|exact fS w|simp[gh])
theorem Xp{c:XC}{w w':aj}{k n:Int}{a:List Int}{o:OC}(h:dh c w k n a=some (w',o)):gh w w':=by
 have pO:∀p:Int×Int,some (jw w p)=some (w',o)->gh w w':=by
  intro p he;have:=KH w p;rw[aoK he]at this;have:w'=w:=this;rw[this];exact fS w
 unfold dh at h
 repeat' (refine aaD h (λh=>?_) (λh=>?_))
 all_goals first
  | (cases h;done)
  | exact pO _ h
  | (simp only[anc,aoI]at h;rw[<-h.1];first|exact fS w|simp[gh])
def Xq(σ:MS):Ev->Prop
 | .ok _ _ σ'=>gh σ.W σ'.W
 | .over σ'=>gh σ.W σ'.W
 | .bG _=>True
theorem aaE{S0 L:List Int}{σ:MS}{t:ByteArray}{e:Ev}(h:yP S0 L σ t=some e):Xq σ e:=by
 unfold yP at h;split at h
 ·cases h;exact fS _
 ·cases h
theorem Nz{v:Bool}{S0 L:List Int}{σ:MS}{p:Option (aj×OC)}{e:Ev}(hp:∀w' o,p=some (w',o)->gh σ.W w')(h:iR v S0 L σ p=some e):Xq σ e:=by
 unfold iR at h;split at h
 ·cases h;exact hp _ _ rfl
 ·cases h;trivial
 ·cases h;exact hp _ _ rfl
 ·cases h
theorem aaF{S0 L:List Int}{σ:MS}{p:Int×Int}:Xq σ (FC S0 L σ p):=by
 unfold FC;split
 ·exact fS _
 ·trivial
theorem instJ_lens{c:XC}{i:ai}{S L:List Int}{σ:MS}{e:Ev}(h:instJ c i S L σ=some e):Xq σ e:=by
 rcases S with _|⟨v,_|⟨u,S⟩⟩
 all_goals
  unfold instJ at h;dsimp only at h
  repeat' (refine aaD h (λh=>?_) (λh=>?_))
  all_goals first
   | (cases h;done)
   | exact aaE h
   | exact Nz (λw' o hv=>Xp hv) h
   | exact Nz (λw' o hv=>Xo hv) h
   | (simp only[anc]at h;rw[<-h];first|exact aaF|trivial|exact fS _)
structure Jv(c:XC) (w0:aj) (n:Nat) (m:ah):Prop where
 hE:m.Env=c.E
 fM:m.Frames.length<=32
 hS:m.Stack.length<=n
 hW:WL m.Stack
 hL:∀f∈m.Frames,f.aM.length<=40
 hF:0<=m.Told.Fuel/\m.Told.Fuel<=n
 hw:gh w0 m.Told.World
theorem Jv.le{c:XC}{w0:aj}{n k:Nat}{m:ah}(h:Jv c w0 n m)(hk:n<=k):Jv c w0 k m:=⟨h.hE,h.fM,by have:=h.hS;omega,h.hW,h.hL,by have:=h.hF;omega,h.hw⟩
theorem WL.take{l:List Int}(h:WL l)(n:Nat):WL (l.take n):=λx hx=>h x (apO hx)
theorem WL.drop{l:List Int}(h:WL l)(n:Nat):WL (l.drop n):=λx hx=>h x (List.mem_of_mem_drop hx)
theorem WL.app{a b:List Int}(ha:WL a)(hb:WL b):WL (a++b):=λx hx=>(ao1.1 hx).elim (ha x) (hb x)
theorem WL.rev{a:List Int}(ha:WL a):WL a.reverse:=λx hx=>ha x (List.mem_reverse.1 hx)
theorem adt{c:XC}{s:al}{w0:aj}{n:Nat}{m m':ah}(dc:eJ c.B.Tables=true)(NA:s.Entry.length=c.B.Tables.Params.length)(hj:Jv c w0 n m)(h:iM (bS c) s m=some m'):Jv c w0 (n+1) m':=by
 obtain⟨hE,fM,hS,hW,hL,hF,hw⟩:=id hj;unfold iM at h;split at h
 ·cases h;exact hj.le (by omega)
 rename_i hd;split at h
 ·rename_i f hf;split at h
  ·rename_i hB;have p9:m.Frames=m.Frames.dropLast++ [f]:=by
    have bR:m.Frames≠ []:=by intro e;rw[e]at hf;cases hf
    have:=List.dropLast_concat_getLast bR;rw[aqD bR,anc]at hf;rw[hf]at this;exact this.symm
   generalize m.Frames.dropLast=Fr at *;have NB:Fr.length+1<=32:=by rw[p9]at fM;simpa using fM
   have Sg:f.aM.length<=40:=hL f (by rw[p9];simp);have hLF:∀g∈Fr,g.aM.length<=40:=λg hg=>hL g (by rw[p9];simp[hg])
   have Xr:∀(g0:aG),g0.aM.length<=40->∀g∈Fr++ [g0],g.aM.length<=40:=by
    intro g0 h0 g hg;rcases ao1.1 hg with hg|hg
    ·exact hLF g hg
    ·simp at hg;rw[hg];exact h0
   have Si:0<=m.Told.Fuel/\m.Told.Fuel<=((n+1:Nat):Int):=by omega
   have hB2:f.bO.toNat<=m.Stack.length:=by omega
   have qb:m.Stack=m.Stack.take f.bO.toNat++(dQ m f).reverse:=by unfold dQ;rw[aqc,ao5]
   have pF:(m.Stack.take f.bO.toNat).length+(dQ m f).length=m.Stack.length:=by
    have:=congrArg List.length qb;rw[aoS,aqx]at this;exact this.symm
   have Xs:WL (dQ m f):=by unfold dQ;exact(hW.drop _).rev
   have fail:∀e,Jv c w0 (n+1) (eT m e):=λe=>⟨hE,fM,by show m.Stack.length<=_;omega,hW,hL,Si,hw⟩
   generalize og s.Code f.At=x at h;obtain⟨i,k,e⟩:=x;unfold tj at h;simp only at h;split at h
   ·cases h
   split at h
   ·rw[<-aoK h];exact⟨hE,by simp;omega,by show m.Stack.length<=_;omega,hW,Xr _ Sg,Si,hw⟩
   split at h
   ·unfold EJ at h;split at h
    ·rename_i v S hv;rw[hv]at pF Xs;rw[<-aoK h];refine⟨hE,by simp;omega,?_,?_,Xr _ Sg,Si,hw⟩
     ·simp only[aoS,aqx,aoU]at pF⊢;omega
     ·exact(hW.take _).app Xs.tail.rev
    ·cases h
   split at h
   ·unfold JD at h;split at h
    ·rename_i v S hv;rw[hv]at pF Xs;have hv1:aq v=v:=Xs v (by simp);rw[<-aoK h];split
     ·exact⟨hE,by simp,by simp only[apg];omega,hW.take _,by simp,Si,hw⟩
     ·refine⟨hE,by show Fr.length<=32;omega,?_,(hW.take _).app (λy hy=>?_),hLF,Si,hw⟩
      ·simp only[aoS,apg,aoU,apd];omega
      ·simp at hy;rw[hy,hv1,hv1]
    ·cases h
   split at h
   ·split at h
    ·split at h
     ·rw[<-aoK h];exact fail 17
     ·cases h
    ·rename_i pH aw;unfold EK at h;split at h
     ·rename_i hp;obtain⟨ns,uk⟩:=hp;rw[<-aoK h];generalize (bS c).fn i.Arg=r at *;obtain⟨-,oh,-⟩:=oi dc;have hr:=oh r uk.1 (by have:=uk.2;omega);have jn:((bS c).lo r ((dQ m f).take ((bS c).pa r)).reverse).length<=40:=by
       show(List.map aq ((dQ m f).take (aA c.B.Tables.Params r).toNat).reverse++List.replicate _ 0).length<=40;simp only[aoS,ao8,aqx,apg,List.length_replicate];omega
      refine⟨hE,?_,?_,hW.take _,?_,Si,hw⟩
      ·simp only[aoS,aoU,apd];have:¬32<=m.Frames.length:=aw;rw[p9]at this;simp at this;omega
      ·simp only[apg];omega
      ·intro g hg;rcases ao1.1 hg with hg|hg
       ·exact Xr _ (by exact Sg) g hg
       ·simp at hg;rw[hg];exact jn
     ·cases h
   cases hJ:(bS c).J i (dQ m f) f.aM (eQ m)with
   | none=>rw[hJ]at h;cases h
   | some ev=>
     have aO:xG c (dQ m f) f.aM (eQ m) ev:=instJ_ok hJ;have hle:Xq (eQ m) ev:=instJ_lens hJ;rw[hJ]at h;cases ev with
     | bG e=>rw[<-aoK h];exact fail e
     | over σ'=>
       rw[<-aoK h];have h1:σ'.Fuel=m.Told.Fuel:=aO.1;have hFs:0<=σ'.Fuel/\σ'.Fuel<=((n+1:Nat):Int):=by omega
       exact⟨hE,by show(Fr++ [_]).length<=32;simp;omega,by show m.Stack.length<=_;omega,hW,Xr _ Sg,hFs,HR hw hle⟩
     | ok S' L' σ'=>
       rw[<-aoK h];obtain⟨⟨f1,f2,-⟩,-,g1,g2,g3⟩:=aO;have f1':m.Told.Fuel<=σ'.Fuel:=f1;have f2':σ'.Fuel<=m.Told.Fuel+1:=f2;have hFs:0<=σ'.Fuel/\σ'.Fuel<=((n+1:Nat):Int):=by omega
       refine⟨hE,by show(Fr++ [_]).length<=32;simp;omega,?_,(hW.take _).app (g1 Xs).rev,Xr _ (by show L'.length<=40;omega),hFs,HR hw hle⟩;show(m.Stack.take f.bO.toNat++S'.reverse).length<=_;rw[aoS,aqx];omega
  ·cases h
 ·cases h
theorem Sj{c:XC}{s:al}{w0:aj}(dc:eJ c.B.Tables=true)(NA:s.Entry.length=c.B.Tables.Params.length):∀(k n:Nat) (m m':ah),Jv c w0 n m->iterM (bS c) s k m=some m'->Jv c w0 (n+k) m'
 | 0,n,m,m',hj,h=>by cases h;exact hj
 | k+1,n,m,m',hj,h=>by
   rw[iterM]at h;cases hs:iM (bS c) s m with
   | none=>rw[hs]at h;cases h
   | some m1=>
     rw[hs]at h;have:=Sj dc NA k (n+1) m1 m' (adt dc NA hj hs) h;rw[show n+(k+1)=n+1+k by omega];exact this
theorem Sk{o n:Int}{k:Nat}(ho:1<=o/\o<38)(hk:k<=2):∀y∈fN o n k,0<=y/\y<=255:=by
 intro y hy;unfold fN at hy;rcases ao0.1 hy with rfl|hy
 ·omega
 ·match k,hk with
  | 0,_=>simp[jU]at hy
  | 1,_=>simp[jU]at hy;omega
  | 2,_=>simp[jU]at hy;omega
theorem NC(w:Zl):∀(z:Zl) (k:Nat),(∀p∈z,jmp p.1.Op=true->p.2<=2)->∀y∈fe w k z,0<=y/\y<=255
 | [],k,_,y,hy=>by simp[fe]at hy
 | p::z,k,hp,y,hy=>by
   rw[fe]at hy;rcases ao1.1 hy with hy|hy
   ·unfold om at hy;split at hy
    ·simp at hy
    ·split at hy
     ·rename_i hj;have ho:p.1.Op=24\/p.1.Op=25:=by simpa[jmp]using hj
      exact Sk (by omega) (hp p (by simp) hj) y hy
     ·unfold mY at hy;split at hy
      ·simp at hy
      ·exact Sk (by omega) (qc _) y hy
   ·exact NC w z _ (λq hq=>hp q (by simp[hq])) y hy
theorem aaG(l:List ai):(pv l).2=0\/(pv l).1=[]:=by
 unfold pv;split
 ·exact .inr rfl
 ·split
  ·split
   ·exact .inr rfl
   ·split
    ·exact .inr rfl
    ·exact .inl rfl
  ·exact .inr rfl
theorem Xt(l:List ai):∀y∈(pv l).1,0<=y/\y<=255:=by
 by_cases h0:(pv l).2=0
 ·obtain⟨z,h1,h2,h3,h4⟩:=ND (l:=l) (c:=(pv l).1) (by rw[<-h0]);rw[h3];refine NC z z 0 (λp hp hj=>?_);obtain⟨a,b,rfl⟩:=aqB hp;have:=h2 a p b rfl;exact this.1
 ·rcases aaG l with h|h
  ·exact absurd h h0
  ·rw[h];simp
theorem QE{b:bW}{s:al}(h:gA b=(s,0)):∀y∈s.Code,0<=y/\y<=255:=by
 unfold gA at h;split at h
 ·simp at h
 ·split at h
  ·rename_i he;simp only[aoI]at h;exact absurd h.2 he
  ·split at h
   ·simp at h
   ·simp only[aoI,and_true]at h;subst h;have:∀k,∀y∈(stM b k).2,0<=y/\y<=255:=by
     intro k
     induction k with
     | zero=>intro y hy;simp[stM]at hy
     | succ k ih=>
       intro y hy;rw[stM]at hy;rcases ao1.1 hy with hy|hy
       ·exact ih y hy
       ·unfold kY at hy;split at hy
        ·simp at hy
        ·exact Xt _ y hy
    exact this _
theorem adu{b:List Int}(hb:∀y∈b,0<=y/\y<=255)(i k:Int): -32768<=nI b i k/\nI b i k<=32767:=by
 have hg:0<=aA b i/\aA b i<=255:=by
  unfold aA;cases hx:b[i.toNat]? with
  | none=>simp
  | some y=>exact hb y (aoO hx)
 unfold nI;split
 ·split<;>omega
 ·split
  ·rw[iA];omega
  ·omega
theorem Xu{b:List Int}(hb:∀y∈b,0<=y/\y<=255){at_:Int}{i:ai}{k:Int}(h:og b at_=(i,k,0)):(0<=k/\k<=b.length)/\(-32768<=i.Arg/\i.Arg<=32767)/\(1<=i.Op/\i.Op<38):=by
 unfold og at h;split at h
 ·simp at h
 split at h
 ·simp at h
 split at h
 ·simp at h
 split at h
 ·simp at h
 ·rename_i h1 h2 h3 h4;simp only[aoI,and_true]at h;obtain⟨rfl,rfl⟩:=h;have:=adu hb (at_+1) (aA b at_ % 4);refine⟨by omega,this,by simp only;omega⟩
end Go.Ab
namespace Go.Ab
set_option maxHeartbeats 4000000
set_option maxRecDepth 20000
open Go.Proofs Go.Proofs.Tryz
structure Jn(c:XC) (s:al) (F:Int) (m:ah) (Fr:List aG) (f:aG):Prop where
 hT:s.Tables=c.B.Tables
 dc:eJ c.B.Tables=true
 hE:m.Env=c.E
 p9:m.Frames=Fr++ [f]
 hD:m.gB=false
 fM:m.Frames.length<=32
 hS:m.Stack.length<=20000
 hW:WL m.Stack
 hB:0<=f.bO/\f.bO<=m.Stack.length
 hL:f.aM.length<=1000
 hF:0<=m.Told.Fuel/\m.Told.Fuel<=1000000
 KJ:F<m.Told.Fuel+1↔c.M<m.Told.Fuel+1
abbrev eh(m:ah)(Fr:List aG)(f:aG)(k:Int):ah:={m with Frames:=Fr++ [{f with At:=k}]}
section
variable {c : XC} {s : al} {F : Int} {m m' : ah} {Fr : List aG} {f : aG} {i : ai} {k : Int}
theorem xH{X}(h:∀wb,jV wb s F (eh m Fr f k) i X)(e:X=m'):sN s m F Fr f i k 0 m':= .inr (.inl ⟨rfl,λwb=>e ▸ h wb⟩)
theorem NF{x}(h:∀wb,NG wb s F (eh m Fr f k) i x)(e:eT m x=m'):sN s m F Fr f i k 0 m':= .inr (.inr (.inr ⟨rfl,x,λwb=>⟨h wb,e.symm⟩⟩))
theorem uA{X}(aD:eI i.Op)(h:∀wb,jb wb s F (eh m Fr f k) i X)(e:X=m'):sN s m F Fr f i k 0 m':=xH (λwb=>Sl wb s F _ _ i aD (h wb)) e
theorem xI{x}(aD:eI i.Op)(h:∀wb,AY wb s F (eh m Fr f k) i x)(e:eT m x=m'):sN s m F Fr f i k 0 m':=NF (λwb=>adv wb s F _ i x aD (h wb)) e
theorem vN{X}(aD:eI i.Op)(aaH:me i.Op)(h:∀wb,jK wb s F (eh m Fr f k) i X)(e:X=m'):sN s m F Fr f i k 0 m':=uA aD (λwb=>adw wb s F _ _ i aaH (h wb)) e
theorem Aj{x}(aD:eI i.Op)(aaH:me i.Op)(h:∀wb,CT wb s F (eh m Fr f k) i x)(e:eT m x=m'):sN s m F Fr f i k 0 m':=xI aD (λwb=>adx wb s F _ i x aaH (h wb)) e
theorem cu{S L σ}(h:nU m Fr f k (some (.ok S L σ))=some m'):uY m (Fr++ [{f with At:=k,aM:=L}]) (m.Stack.take f.bO.toNat++S.reverse) σ=m':=aoK h
theorem ed{e}(h:nU m Fr f k (some (.bG e))=some m'):eT m e=m':=aoK h
theorem jc{v S L σ w p}:iR v S L σ (some (jw w p))=if p.2=0 then some (.ok (if v then aq p.1::S else S) L {σ with W:=w})else some (.bG p.2):=by
 unfold jw;split<;>rfl
theorem fT{S L σ w p}:iR false S L σ (some (ja w p))=if p.2=0 then some (.ok S L {σ with W:=p.1})else some (.bG p.2):=by
 unfold ja;split<;>rfl
theorem oW{S L σ x}(h:nU m Fr f k (yP S L σ x)=some m'):σ.Out.size+x.size<=140737488355328/\uY m (Fr++ [{f with At:=k,aM:=L}]) (m.Stack.take f.bO.toNat++S.reverse) {σ with Out:=σ.Out++x}=m':=by
 unfold yP at h;split at h
 ·exact⟨by omega,aoK h⟩
 ·cases h
theorem kC{c w}(hf:eJ c.B.Tables=true)(h:okW c w=true):ig c.B.Tables w:=by
 simp_all[lk,ig.of]
theorem ady{t}(hf:eJ t=true):kZ t.Flags<=65536:=by
 simp[AZ]
theorem ig.flags{t w}(hf:eJ t=true)(h:ig t w):cZ w:=⟨by rw[h.hF,h.hT],λv hv=>by have:=h.fl v hv;have:=ady hf;omega⟩
theorem ig.A0{t w}(hf:eJ t=true)(h:ig t w):w.ae.length<=128/\w.Flags.length<=128/\w.aQ.length<=64/\w.bc.length<=16/\w.aJ.length<=2048/\t.aJ.length<=16/\w.ae.length *t.aJ.length=w.aJ.length:=by
 obtain⟨h1,h2,h3,h4,-⟩:=jW hf;have:=h.hT;have:=h.hF;have:=h.hG;have:=h.hD;have:=h.hP;have rH:=aq3 h1.2 h2;grind
theorem nV{l x}(h:fL l x):l[x.toNat]?=some (aA l x):=by
 simp_all[aA]
theorem Xv(hj:Jn c s F m Fr f)(h:nU m Fr f k (instJ c i (dQ m f) f.aM (eQ m))=some m'):sN s m F Fr f i k 0 m':=by
 have hA:m.Stack=m.Stack.take f.bO.toNat++(dQ m f).reverse:=by simp[dQ,aqc,ao5]
 have hl:=hj.hS;have NB:Fr.length<=1000000:=by have:=hj.fM;rw[hj.p9]at this;grind
 have hT:=hj.hT;have hE:=hj.hE;have dc:=hj.dc;have wz:∀x,m.Stack.take f.bO.toNat++(x::dQ m f).reverse=m.Stack++ [x]:=by
  grind
 unfold instJ at h;by_cases h1:i.Op=1
 ·rw[if_pos h1]at h;refine uA (by simp[eI,h1]) (λwb=>HT wb s F _ i h1 (by grind)) ?_;rw[<-cu h,wz];rfl
 rw[if_neg h1]at h;by_cases Cc:i.Op=37
 ·rw[if_pos Cc]at h;have hF:=hj.hF;rw[if_pos (show 0<=(eQ m).Fuel/\(eQ m).Fuel<=1099511627776 from⟨hF.1,by show m.Told.Fuel<=_;omega⟩)]at h;split at h
  ·rename_i hc;exact NF (λwb=>KL wb s F _ i Cc ⟨hF.1,by grind⟩ (hj.KJ.2 hc)) (ed h)
  ·rename_i hc;refine xH (λwb=>KM wb s F _ i Cc ⟨hF.1,by grind⟩ (λh=>hc (hj.KJ.1 h))) ?_;rw[<-cu h,<-hA];rfl
 rw[if_neg Cc]at h;by_cases h5:i.Op=5
 ·rw[if_pos h5]at h;split at h
  ·rename_i cq;refine uA (by simp[eI,h5]) (λwb=>Ub wb s F _ i Fr _ _ h5 cq.1 rfl NB (nV cq) (by grind)) ?_;rw[<-cu h,wz];rfl
  ·cases h
 rw[if_neg h5]at h;by_cases Ak:i.Op=21
 ·rw[if_pos Ak]at h;obtain⟨gw,lE⟩:=oW h;refine xH (λwb=>adz wb s F _ i _ Ak (CU s.Tables i.Arg) (by rw[hT];exact gw)) ?_;rw[<-lE,<-hA,hT];rfl
 rw[if_neg Ak]at h;by_cases FD:i.Op=35
 ·rw[if_pos FD]at h;split at h
  ·rename_i aO;have hw:=kC dc aO;obtain⟨gw,lE⟩:=oW h;refine xH (λwb=>adA wb s F _ i _ FD (Xw s.Tables m.Told.World (by grind) (by rw[hT];exact hw) (hw.flags dc)) (by rw[hT];exact gw)) ?_;rw[<-lE,<-hA,hT];rfl
  ·cases h
 rw[if_neg FD]at h;by_cases h0:dI i.Op=0
 ·rw[if_pos h0]at h;have uB:i.Op=3\/i.Op=7\/(i.Op=28\/i.Op=29\/i.Op=30)\/i.Op=33:=by
   grind[dI]
  cases aO:okW c (eQ m).W with
  | false=>grind[di,dv,dh,cE,iR,nU]
  | true=>
  have hw:=kC dc aO;rcases uB with h3|h7|Xx|HU
  ·simp[h3,di,dh,aO]at h;split at h
   ·rename_i cq;refine uA (by simp[eI,h3]) (λwb=>Uc wb s F _ i _ h3 cq.1 (nV cq) (by grind)) ?_;rw[<-cu h];simp only[if_true];rw[wz];rfl
   grind[iR,nU]
  ·simp[h7,di,dh,aO,jc]at h;have oh:=(hw.A0 dc).1;cases hp:oq (eQ m).W c.E i.Arg with
   | mk v e=>
   rw[hp]at h;by_cases he:e=0
   ·subst he;refine uA (by simp[eI,h7]) (λwb=>Ud wb s F _ i v h7 (by show oq m.Told.World m.Env i.Arg=_;rw[hE];exact hp) (by grind) hw.wf (by show m.Told.World.ae.length<=_;have:m.Told.World.ae.length<=128:=oh;omega)) ?_;rw[<-cu h];rw[wz];rfl
   ·simp only[if_neg he]at h;exact xI (by simp[eI,h7]) (λwb=>Ue wb s F _ i v e he h7 (by grind[oq]) hw.wf (by show m.Told.World.ae.length<=_;have:m.Told.World.ae.length<=128:=oh;omega)) (ed h)
  ·refine xH (λwb=>Xy wb s F _ i Xx) ?_;rcases Xx with hq|hq|hq<;>simp[hq,di,dv,cE,aO,iR,nU]at h<;>rw[<-h]<;>simp[hq,uY,eQ,eh]
  ·simp[HU,di,dv,cE,aO]at h;split at h
   ·rename_i cq;have hd:=(hw.A0 dc).2.2.2.1;refine vN (by grind[eI]) (by grind[me]) (λwb=>QF wb s F _ i HU cq (by show m.Told.World.bc.length<=_;have:m.Told.World.bc.length<=16:=hd;omega)) ?_;rw[<-cu h];show _=uY m _ (m.Stack.take f.bO.toNat++(dQ m f).reverse) _;rw[<-hA];rfl
   grind[iR,nU]
 rw[if_neg h0]at h;cases qb:dQ m f with
 | nil=>rw[qb]at h;cases h
 | cons v S=>
   rw[qb]at h;simp only at h;rw[qb]at hA;have dN:m.Stack=(m.Stack.take f.bO.toNat++S.reverse)++ [v]:=by grind
   have Xz:(m.Stack.take f.bO.toNat++S.reverse).length<=20000:=by
    grind
   have hv:aq v=v:=hj.hW v (by grind);have xJ:∀x,m.Stack.take f.bO.toNat++(x::S).reverse=(m.Stack.take f.bO.toNat++S.reverse)++ [x]:=by simp
   by_cases h2:i.Op=2
   ·rw[if_pos h2]at h;refine vN (by simp[eI,h2]) (by simp[me,h2]) (λwb=>Uf wb s F _ i _ v h2 dN (by omega)) ?_;rw[<-cu h];rfl
   rw[if_neg h2]at h;by_cases h6:i.Op=6
   ·rw[if_pos h6]at h;split at h
    ·rename_i cq;refine vN (by simp[eI,h6]) (by simp[me,h6]) (λwb=>Uh wb s F _ i Fr _ _ v h6 rfl NB dN (by omega) cq (by show f.aM.length<=_;have:=hj.hL;omega)) ?_;rw[<-cu h];rfl
    ·cases h
   rw[if_neg h6]at h;by_cases h9:i.Op=9
   ·rw[if_pos h9]at h;refine uA (by simp[eI,h9]) (λwb=>Ui wb s F _ i _ v h9 dN (by omega)) ?_;rw[<-cu h,xJ];rfl
   rw[if_neg h9]at h;by_cases ew:i.Op=10
   ·rw[if_pos ew]at h;refine uA (by grind[eI]) (λwb=>QG wb s F _ i _ v ew dN (by omega)) ?_;rw[<-cu h,xJ,mZ];rfl
   rw[if_neg ew]at h;by_cases jN:i.Op=11
   ·rw[if_pos jN]at h;refine uA (by grind[eI]) (λwb=>QH wb s F _ i _ v jN dN (by omega)) ?_;rw[<-cu h,xJ,mZ];rfl
   rw[if_neg jN]at h;by_cases Cd:i.Op=22
   ·rw[if_pos Cd]at h;obtain⟨gw,lE⟩:=oW h;refine xH (λwb=>adB wb s F _ i _ v _ Cd dN (by omega) (NH v hv) gw) ?_;rw[<-lE];rfl
   rw[if_neg Cd]at h;by_cases yQ:i.Op=23
   ·rw[if_pos yQ]at h;obtain⟨gw,lE⟩:=oW h;refine xH (λwb=>adC wb s F _ i _ v _ yQ dN (by omega) (A1 s.Tables v) (by rw[hT];exact gw)) ?_;rw[<-lE,hT];rfl
   rw[if_neg yQ]at h;by_cases FE:i.Op=36
   ·rw[if_pos FE]at h;split at h
    ·rename_i aO;have hw:=kC dc aO;obtain⟨gw,lE⟩:=oW h;refine xH (λwb=>adD wb s F _ i _ v _ FE dN (by omega) (KN s.Tables m.Told.World v (by grind) (by rw[hT];exact hw) (hw.flags dc)) (by rw[hT];exact gw)) ?_;rw[<-lE,hT];rfl
    ·cases h
   rw[if_neg FE]at h;by_cases h8:i.Op=8
   ·rw[if_pos h8]at h;cases S with
    | nil=>cases h
    | cons u S=>
    simp only at h;split at h
    ·cases h
    ·rename_i h9;have yR:m.Stack=(m.Stack.take f.bO.toNat++S.reverse)++ [u,v]:=by grind
     have aaI:(m.Stack.take f.bO.toNat++S.reverse).length<=20000:=by grind
     have hTR:i.Arg=9->m.Told.World.Child.length=m.Told.World.ae.length/\m.Told.World.Next.length=m.Told.World.ae.length:=by
      intro h9';have aO:okW c (eQ m).W=true:=by
       grind
      have hw:=kC dc aO;exact⟨hw.hC,hw.hN⟩
     unfold FC at h;cases hp:jd (eQ m).W i.Arg u v with
     | mk x e=>
     rw[hp]at h;by_cases he:e=0
     ·subst he;refine uA (by simp[eI,h8]) (λwb=>Uj wb s F _ i _ v u x h8 yR (by omega) hTR hp) ?_;rw[<-cu h];simp[uY,eQ]
     ·simp only[if_neg he]at h;exact xI (by simp[eI,h8]) (λwb=>Uk wb s F _ i _ v u x e he h8 yR (by omega) hTR hp) (ed h)
   rw[if_neg h8]at h;by_cases NI:dI i.Op=2
   ·rw[if_pos NI]at h;have uB:i.Op=14\/i.Op=17:=by grind[dI]
    cases S with
    | nil=>cases h
    | cons u S=>
    simp only at h;have yR:m.Stack=(m.Stack.take f.bO.toNat++S.reverse)++ [u,v]:=by grind
    have aaI:(m.Stack.take f.bO.toNat++S.reverse).length<=20000:=by grind
    cases aO:okW c (eQ m).W with
    | false=>grind[dv,cE,iR,nU]
    | true=>
    have hw:=kC dc aO;have hd:=hw.A0 dc;rcases uB with Ce|Sm
    ·simp[Ce,dv,cE,aO,fT,aA]at h;cases hp:mW c.B.Tables (eQ m).W u i.Arg v with
     | mk w' e=>
     rw[hp]at h;have Al:mW s.Tables m.Told.World u i.Arg v=(w',e):=by rw[hT];exact hp
     by_cases he:e=0
     ·subst he;refine vN (by grind[eI]) (by grind[me]) (λwb=>QI wb s F _ i _ u v w' Ce yR (by omega) (by show m.Told.World.ae.length<=_;have:m.Told.World.ae.length<=128:=hd.1;omega) (by grind) (by rw[hT];exact hd.2.2.2.2.2.2) (by show m.Told.World.aJ.length<=_;have:m.Told.World.aJ.length<=2048:=hd.2.2.2.2.1;omega) Al) ?_;rw[<-cu h];rfl
     ·simp only[if_neg he]at h;exact Aj (by grind[eI]) (by grind[me]) (λwb=>QJ wb s F _ i _ u v w' e he Ce yR (by omega) (by show m.Told.World.ae.length<=_;have:m.Told.World.ae.length<=128:=hd.1;omega) (by grind) (by rw[hT];exact hd.2.2.2.2.2.2) (by show m.Told.World.aJ.length<=_;have:m.Told.World.aJ.length<=2048:=hd.2.2.2.2.1;omega) Al) (ed h)
    ·simp[Sm,dv,cE,aO,fT,aA]at h;cases hp:kW c.B.Tables (eQ m).W u v with
     | mk w' e=>
     rw[hp]at h;have Al:kW s.Tables m.Told.World u v=(w',e):=by rw[hT];exact hp
     have Am:ig s.Tables m.Told.World:=by rw[hT];exact hw
     by_cases he:e=0
     ·subst he;refine vN (by grind[eI]) (by grind[me]) (λwb=>QK wb s F _ i _ u v w' Sm yR (by omega) Am Al) ?_;rw[<-cu h];rfl
     ·simp only[if_neg he]at h;exact Aj (by grind[eI]) (by grind[me]) (λwb=>QL wb s F _ i _ u v w' e he Sm yR (by omega) Am Al) (ed h)
   rw[if_neg NI]at h;have uB:i.Op=12\/i.Op=13\/i.Op=19\/i.Op=20\/i.Op=4\/i.Op=15\/i.Op=16\/i.Op=18\/i.Op=31\/i.Op=32\/i.Op=34:=by
    by_cases hA:i.Op=12\/i.Op=13\/i.Op=19\/i.Op=20\/i.Op=4\/i.Op=15\/i.Op=16\/i.Op=18\/i.Op=31\/i.Op=32\/i.Op=34
    ·exact hA
    ·exfalso;have n0:i.Op≠3/\i.Op≠7/\i.Op≠28/\i.Op≠29/\i.Op≠30/\i.Op≠33:=by
      refine⟨?_,?_,?_,?_,?_,?_⟩<;>intro hq<;>exact h0 (by rw[hq];rfl)
     have n2:i.Op≠14/\i.Op≠17:=by
      refine⟨?_,?_⟩<;>intro hq<;>exact NI (by rw[hq];rfl)
     obtain⟨a1,a2,a3,a4,a5,a6⟩:=n0;obtain⟨a7,a8⟩:=n2;have b1:i.Op≠12:=λhq=>hA (by omega)
     have b2:i.Op≠13:=λhq=>hA (by omega)
     have b3:i.Op≠19:=λhq=>hA (by omega)
     have b4:i.Op≠20:=λhq=>hA (by omega)
     have b5:i.Op≠4:=λhq=>hA (by omega)
     have b6:i.Op≠15:=λhq=>hA (by omega)
     have b7:i.Op≠16:=λhq=>hA (by omega)
     have b8:i.Op≠18:=λhq=>hA (by omega)
     have b9:i.Op≠31:=λhq=>hA (by omega)
     have b10:i.Op≠32:=λhq=>hA (by omega)
     have b11:i.Op≠34:=λhq=>hA (by omega)
     have e1:di i.Op=0:=by unfold di;omega
     have e2:dv i.Op=0:=by unfold dv;omega
     grind[nU]
   cases aO:okW c (eQ m).W with
   | false=>grind[di,dv,dh,cE,iR,nU]
   | true=>
   have hw:=kC dc aO;have Am:ig s.Tables m.Told.World:=by rw[hT];exact hw
   obtain⟨d1,d2,d3,d4,d5,d6,d7⟩:=hw.A0 dc;have uC:cZ m.Told.World:=hw.flags dc;have d1':m.Told.World.ae.length<=128:=d1;have d2':m.Told.World.Flags.length<=128:=d2;rcases uB with oM|gK|nt|yS|h4|oN|lg|um|XA|fM|NJ
   ·simp[oM,di,dv,dh,cE,aO,jc,fT,aA]at h;unfold Ul at h;simp only at h;by_cases he:cz (eQ m).W v i.Arg=0
    ·have lG:cz m.Told.World v i.Arg=0:=he;rw[if_pos he,if_pos he]at h;refine uA (by grind[eI]) (λwb=>QM wb s F _ i _ v (cU m.Told.World v i.Arg.toNat) oM dN (by omega) uC (by grind)) ?_;rw[<-cu h,xJ];rfl
    ·have lG:¬cz m.Told.World v i.Arg=0:=he;rw[if_neg he]at h;exact xI (by grind[eI]) (λwb=>QN wb s F _ i _ v false (cz m.Told.World v i.Arg) lG oM dN (by omega) uC (by grind)) (ed h)
   ·simp[gK,di,dv,dh,cE,aO,jc,fT,aA]at h;cases hp:tl c.B.Tables (eQ m).W v i.Arg with
    | mk w' e=>
    rw[hp]at h;by_cases he:e=0
    ·subst he;refine uA (by grind[eI]) (λwb=>QO wb s F _ i _ v w' gK dN (by omega) (by rw[hT];exact hp) (by grind) (by grind) (by rw[hT];exact d7)) ?_;rw[<-cu h,xJ];rfl
    ·simp only[if_neg he]at h;exact xI (by grind[eI]) (λwb=>QP wb s F _ i _ v w' e he gK dN (by omega) (by rw[hT];exact hp) (by grind) (by grind) (by rw[hT];exact d7)) (ed h)
   ·simp[nt,di,dv,dh,cE,aO,jc,fT,aA]at h;cases hp:df (eQ m).W i.Arg v with
    | mk w' e=>
    rw[hp]at h;by_cases he:e=0
    ·subst he;refine uA (by grind[eI]) (λwb=>QQ wb s F _ i _ v w' nt dN (by omega) hw.hC hw.hN hp) ?_;rw[<-cu h,xJ];rfl
    ·simp only[if_neg he]at h;exact xI (by grind[eI]) (λwb=>QR wb s F _ i _ v w' e he nt dN (by omega) hw.hC hw.hN hp) (ed h)
   ·simp[yS,di,dv,dh,cE,aO,aA]at h;split at h
    ·rename_i hx;exact xI (by grind[eI]) (λwb=>QS wb s F _ i _ v yS dN (by omega) hx) (ed h)
    ·rename_i hx;refine uA (by grind[eI]) (λwb=>QT wb s F _ i _ v yS dN (by omega) hx) ?_;have h':=cu (by simpa[iR]using h);rw[<-h',xJ];rfl
   ·simp[h4,di,dv,dh,cE,aO,aA]at h;split at h
    ·rename_i cq;refine vN (by simp[eI,h4]) (by simp[me,h4]) (λwb=>Um wb s F _ i _ v h4 cq (by show m.Told.World.aQ.length<=_;have:m.Told.World.aQ.length<=64:=d3;omega) dN (by omega)) ?_;rw[<-cu h];rfl
    grind[iR,nU]
   ·simp[oN,di,dv,dh,cE,aO,jc,fT,aA]at h;cases hp:eb (eQ m).W v i.Arg true with
    | mk w' e=>
    rw[hp]at h;by_cases he:e=0
    ·subst he;refine vN (by grind[eI]) (by grind[me]) (λwb=>QU wb s F _ i _ v w' oN dN (by omega) uC (by grind) hp) ?_;rw[<-cu h];rfl
    ·simp only[if_neg he]at h;exact Aj (by grind[eI]) (by grind[me]) (λwb=>QV wb s F _ i _ v w' e he oN dN (by omega) uC (by grind) hp) (ed h)
   ·simp[lg,di,dv,dh,cE,aO,jc,fT,aA]at h;cases hp:eb (eQ m).W v i.Arg false with
    | mk w' e=>
    rw[hp]at h;by_cases he:e=0
    ·subst he;refine vN (by grind[eI]) (by grind[me]) (λwb=>QW wb s F _ i _ v w' lg dN (by omega) uC (by grind) hp) ?_;rw[<-cu h];rfl
    ·simp only[if_neg he]at h;exact Aj (by grind[eI]) (by grind[me]) (λwb=>QX wb s F _ i _ v w' e he lg dN (by omega) uC (by grind) hp) (ed h)
   ·simp[um,di,dv,dh,cE,aO,jc,fT,aA]at h;cases hp:iG c.B.Tables (eQ m).W v with
    | mk w' e=>
    rw[hp]at h;by_cases he:e=0
    ·subst he;refine vN (by grind[eI]) (by grind[me]) (λwb=>QY wb s F _ i _ v w' um dN (by omega) Am (by rw[hT];exact hp)) ?_;rw[<-cu h];rfl
    ·simp only[if_neg he]at h;exact Aj (by grind[eI]) (by grind[me]) (λwb=>QZ wb s F _ i _ v w' e he um dN (by omega) Am (by rw[hT];exact hp)) (ed h)
   ·simp[XA,di,dv,dh,cE,aO,aA]at h;refine vN (by grind[eI]) (by grind[me]) (λwb=>Q4 wb s F _ i _ v XA dN (by omega)) ?_;rw[<-cu h];rfl
   ·simp[fM,di,dv,dh,cE,aO,aA]at h;split at h
    ·rename_i cq;refine vN (by grind[eI]) (by grind[me]) (λwb=>Q5 wb s F _ i _ v fM dN (by omega) cq (by show m.Told.World.bc.length<=_;have:m.Told.World.bc.length<=16:=d4;omega)) ?_;rw[<-cu h];rfl
    grind[iR,nU]
   ·simp[NJ,di,dv,dh,cE,aO,aA]at h;split at h
    ·rename_i hx;exact Aj (by grind[eI]) (by grind[me]) (λwb=>Q6 wb s F _ i _ v NJ dN (by omega) (by omega)) (ed h)
    ·rename_i hx;refine vN (by grind[eI]) (by grind[me]) (λwb=>Q7 wb s F _ i _ v NJ dN (by omega) (by omega)) ?_;rw[<-cu h];rfl
end
structure HV(c:XC) (s:al):Prop where
 hT:s.Tables=c.B.Tables
 dc:eJ c.B.Tables=true
 hE:s.Entry.length=c.B.Tables.Params.length
 hC:s.Code.length<=65536
 hb:∀y∈s.Code,0<=y/\y<=255
theorem aeW{b:bW}{s:al}(env:dy)(M:Int)(h:gA b=(s,0)):HV ⟨b,env,M⟩ s:=by
 obtain⟨h1,h2,h3,h4,-⟩:=A2 h;have hB:=CV h1;exact⟨h2,hB.fits,by rw[h3];exact hB.len,h4,QE h⟩
structure aeX(c:XC) (s:al) (m:ah) (f:aG) (i:ai) (r:Nat) (e:Int) (N:Nat) (S a:List Int):Prop where
 hA:0<=i.Arg
 hf:s.Tables.cY[i.Arg.toNat]?=some (r:Int)
 he:s.Entry[r]?=some e
 hn:s.Tables.aM[r]?=some (N:Int)
 hN:N<=1000
 hp:s.Tables.Params[r]?=some (a.length:Int)
 ha:a.length<=N
 hS:m.Stack=S++a
 fM:m.Frames.length<32
theorem Un{c:XC}{s:al}(hs:HV c s){a:Int}(h:0<=(bS c).fn a):0<=a/\s.Tables.cY[a.toNat]?=some ((bS c).fn a):=by
 have e:(bS c).fn a=if fL c.B.Tables.cY a then aA c.B.Tables.cY a else -1:=rfl
 rw[e]at h⊢;split at h
 ·rename_i cq;rw[if_pos cq,hs.hT];exact⟨cq.1,nV cq⟩
 ·omega
theorem Sn{c:XC}{s:al}{m m':ah}{Fr:List aG}{f:aG}{i:ai}{k:Int}(hs:HV c s)(hB:0≤f.bO∧f.bO≤m.Stack.length)(aw:¬32≤m.Frames.length)(h:EK (bS c) s m Fr f k ((bS c).fn i.Arg)=some m'):
  ∃r e N S a,aeX c s m f i r e N S a/\m'={m with Stack:=S,Frames:=Fr++ [{f with At:=k}]++ [⟨r,e,S.length,a.map aq++List.replicate (N-a.length) 0⟩]}:=by
 unfold EK at h;split at h
 ·rename_i hp;obtain⟨ns,uk⟩:=hp;have hf:=Un hs (a:=i.Arg) uk.1;generalize (bS c).fn i.Arg=r at *;obtain⟨R,rfl⟩:∃R:Nat,r=R:=⟨r.toNat,by have:=uk.1;omega⟩
  obtain⟨-,oh,-⟩:=oi hs.dc;have hdm:=jW hs.dc;have hE:=hs.hE;have hRp:R<c.B.Tables.Params.length:=by have:=uk.2;omega
  have hr:=oh R (by omega) (by omega);have hRl:R<c.B.Tables.aM.length:=by omega
  have hpa:(bS c).pa R=(aA c.B.Tables.Params R).toNat:=rfl;have gp:c.B.Tables.Params[R]?=some (aA c.B.Tables.Params R):=nV (x:=(R:Int)) ⟨by omega,by omega⟩;have gl:c.B.Tables.aM[R]?=some (aA c.B.Tables.aM R):=nV (x:=(R:Int)) ⟨by omega,by omega⟩;have ge:s.Entry[R]?=some (aA s.Entry R):=nV (x:=(R:Int)) uk;have An:(dQ m f).length<=m.Stack.length:=by unfold dQ;simp
  have nu:((dQ m f).take ((bS c).pa R)).reverse.length=(bS c).pa R:=by rw[aqx,apg];omega
  have bQ:m.Stack=m.Stack.take (m.Stack.length-(bS c).pa R)++((dQ m f).take ((bS c).pa R)).reverse:=by
   have hA:m.Stack=m.Stack.take f.bO.toNat++(dQ m f).reverse:=by unfold dQ;rw[aqc,ao5]
   have bx:(dQ m f).reverse=((dQ m f).drop ((bS c).pa R)).reverse++((dQ m f).take ((bS c).pa R)).reverse:=by rw[<-List.reverse_append,ao5]
   have Cf:m.Stack=(m.Stack.take f.bO.toNat++((dQ m f).drop ((bS c).pa R)).reverse)++((dQ m f).take ((bS c).pa R)).reverse:=by
    rw[apb,<-bx];exact hA
   have lW:m.Stack.length-(bS c).pa R=(m.Stack.take f.bO.toNat++((dQ m f).drop ((bS c).pa R)).reverse).length:=by
    have:=congrArg List.length Cf;rw[aoS (bs:=((dQ m f).take ((bS c).pa R)).reverse),nu]at this;omega
   rw[lW]
   conv=>lhs;rw[Cf]
   conv=>rhs;arg 1;arg 2;rw[Cf]
   rw[List.take_left]
  have hlen:(m.Stack.take (m.Stack.length-(bS c).pa R)).length=m.Stack.length-(bS c).pa R:=by rw[apg];omega
  refine⟨R,aA s.Entry R,(aA c.B.Tables.aM R).toNat,m.Stack.take (m.Stack.length-(bS c).pa R),((dQ m f).take ((bS c).pa R)).reverse,⟨hf.1,hf.2,ge,?_,by omega,?_,by omega,bQ,by omega⟩,?_⟩
  ·rw[hs.hT,gl];congr 1;omega
  ·rw[hs.hT,gp,nu,hpa];congr 1;omega
  ·rw[<-aoK h,hlen];rfl
 ·cases h
theorem Cg{α:Type}{l:List α}{x:α}(h:l.getLast?=some x):l=l.dropLast++ [x]:=by
 have bR:l≠ []:=by intro e;rw[e]at h;cases h
 have:=List.dropLast_concat_getLast bR;rw[aqD bR,anc]at h;rw[h]at this;exact this.symm
theorem XB{c:XC}{s:al}{F:Int}{w0:aj}{n:Nat}{m m':ah}(hs:HV c s)(hj:Jv c w0 n m)(hn:n≤10000)(KJ:F < m.Told.Fuel+1↔c.M < m.Told.Fuel+1)(h:iM (bS c) s m=some m'):
  Pure prog 13 [.agg (s.enc.map .d),.agg (m.enc.map .d),iD F] (.agg (m'.enc.map .d)):=by
 unfold iM at h;split at h
 ·rename_i hd;rw[<-aoK h];exact GF s m F hd
 rename_i hd;have hd:m.gB=false:=by simpa using hd
 split at h
 ·rename_i f hf;split at h
  ·rename_i hB;have p9:=Cg hf;generalize m.Frames.dropLast=Fr at *;have fM:=hj.fM;have pF:=hj.hS;have CW:Fr.length+1<=32:=by rw[p9]at fM;simpa using fM
   have pw:=FF s.Code f.At hs.hb (by have:=hs.hC;omega);obtain⟨i,k,e,hx⟩:∃i k e,og s.Code f.At=(i,k,e):=⟨_,_,_,rfl⟩
   rw[hx]at h pw;refine xK s m m' F Fr f i k e hd p9 (by omega) (by omega) pw ?_;have hW:=hj.hW;have hA:m.Stack=m.Stack.take f.bO.toNat++(dQ m f).reverse:=by unfold dQ;rw[aqc,ao5]
   have Sg:f.aM.length<=40:=hj.hL f (by rw[p9];simp);have hF0:=hj.hF;unfold tj at h;simp only at h;by_cases he:e=0
   ·subst he;have iE:=Xu hs.hb hx;have hC:=hs.hC;rw[if_neg (by simp)]at h;by_cases jo:i.Op=24
    ·rw[if_pos jo]at h;refine xH (λwb=>XD wb s F _ Fr {f with At:=k} i jo rfl (by omega) (by rw[aS];show _<=k+i.Arg/\k+i.Arg<=_;omega)) ?_;rw[<-aoK h]
    rw[if_neg jo]at h;by_cases nv:i.Op=25
    ·rw[if_pos nv]at h;unfold EJ at h;cases qb:dQ m f with
     | nil=>rw[qb]at h;cases h
     | cons v S=>
       rw[qb]at h hA;have dN:m.Stack=(m.Stack.take f.bO.toNat++S.reverse)++ [v]:=by rw[apb,<-aqF];exact hA
       have Xz:(m.Stack.take f.bO.toNat++S.reverse).length<=20000:=by
        have:=congrArg List.length dN;rw[aoS,aqH]at this;omega
       have hv:aq v=v:=hW v (by rw[dN];simp);refine xH (λwb=>XE wb s F _ Fr {f with At:=k} i _ v nv rfl (by omega) dN (by omega) (by rw[aS];show _<=k+i.Arg/\k+i.Arg<=_;omega)) ?_;rw[<-aoK h,hv]
    rw[if_neg nv]at h;by_cases rI:i.Op=27
    ·rw[if_pos rI]at h;unfold JD at h;cases qb:dQ m f with
     | nil=>rw[qb]at h;cases h
     | cons v S=>
       rw[qb]at h hA;have dN:m.Stack=(m.Stack.take f.bO.toNat++S.reverse)++ [v]:=by rw[apb,<-aqF];exact hA
       have Xz:(m.Stack.take f.bO.toNat++S.reverse).length<=20000:=by
        have:=congrArg List.length dN;rw[aoS,aqH]at this;omega
       have hBl:f.bO.toNat<=(m.Stack.take f.bO.toNat++S.reverse).length:=by
        rw[aoS,apg];omega
       have xL:(m.Stack.take f.bO.toNat++S.reverse).take f.bO.toNat=m.Stack.take f.bO.toNat:=by
        rw[aqE (by rw[apg];omega),List.take_take,Nat.min_self]
       refine xH (λwb=>FG wb s F _ i Fr {f with At:=k} _ v rI rfl (by omega) dN ⟨hB.1,by show f.bO<=_;omega⟩ (by omega)) ?_;rw[<-aoK h,xL]
    rw[if_neg rI]at h;by_cases pH:i.Op=26
    ·rw[if_pos pH]at h;by_cases aw:32<=m.Frames.length
     ·rw[if_pos aw]at h;split at h
      ·rename_i yT;obtain⟨g1,g2⟩:=Un hs yT;refine NF (λwb=>XF wb s F _ i _ pH g1 g2 (by show 32<=(Fr++ [_]).length;simp;rw[p9]at aw;simpa using aw)) (aoK h)
      ·cases h
     ·rw[if_neg aw]at h;obtain⟨r,e,N,S,a,hc,he⟩:=Sn hs hB aw h;have aiu:S.length<=1000000:=by
       have:=congrArg List.length hc.hS;rw[aoS]at this;omega
      refine .inr (.inr (.inl ⟨rfl,λwb=>?_⟩));rw[he];exact XG wb s F _ i r e N S a pH hc.hA hc.hf hc.he hc.hn hc.hN hc.hp hc.ha hc.hS aiu (by show(Fr++ [_]).length<32;have:=hc.fM;rw[p9]at this;simp at this⊢;exact this)
    rw[if_neg pH]at h;exact Xv ⟨hs.hT,hs.dc,hj.hE,p9,hd,hj.fM,by omega,hW,hB,by omega,⟨hF0.1,by omega⟩,KJ⟩ h
   ·rw[if_pos he]at h;cases h
  ·cases h
 ·cases h
def uZ(o:Int):Prop:=o=24\/o=25\/o=26\/o=27\/o=5\/o=6
def EL(o:Int):Prop:=o=28\/o=29\/o=30\/o=37
def yU(o:Int):Prop:=o=21\/o=22\/o=23\/o=35\/o=36
def mz(o:Int):Prop:=o=15\/o=16\/o=14\/o=17\/o=18\/o=31\/o=32\/o=33\/o=34\/o=4
def kr(o:Int):Prop:=(o≠24/\o≠25/\o≠26/\o≠27/\o≠5/\o≠6)/\(o≠28/\o≠29/\o≠30/\o≠37)/\(o≠21/\o≠22/\o≠23/\o≠35/\o≠36)/\(o≠15/\o≠16/\o≠14/\o≠17/\o≠18/\o≠31/\o≠32/\o≠33/\o≠34/\o≠4)
def Uo(s:al)(m x:ah)(f:aG)(i:ai)(F:Int)(m':ah):Prop:=
 (uZ i.Op/\FH s m x f i m')\/(EL i.Op/\NK m x i F m')\/(yU i.Op/\HW s x i m')\/(mz i.Op/\uo s m x i m')\/(kr i.Op/\xM s m x i m')
theorem NL(s:al)(m:ah)(F:Int)(hd:m.gB=true):Pure prog 14 [.agg (s.enc.map .d),.agg (m.enc.map .d),iD F] (.agg (m.enc.map .d)):=by
 refine rn func14 ?_;simp[-cB,f14];intro bs;simp[hd]
@[simp] theorem aG.anh(f:aG)(n:Int):List.take 1 (f.enc.map V.d)++V.d (.v (.int .i64 n))::List.drop 2 (f.enc.map V.d)=({f with At:=n}:aG).enc.map V.d:=rfl
@[simp] theorem aG.XH(f:aG):List.take 4 (f.enc.map V.d)=f.enc.map V.d:=rfl
theorem Q8(s:al)(m m':ah)(F:Int)(Fr:List aG)(f:aG)(i:ai)(k e:Int)(hd:m.gB=false)(h:m.Frames=Fr++ [f])(hl:m.Frames.length≤1000)
  (pw:Pure prog 39 [.d (.sl (s.Code.map λy=> [.v (.int .u8 y)])),iD f.At] (.bA [.agg (i.enc.map .d),iD k,iD e]))
  (ho:(e≠0/\m'=eT m e)\/(e=0/\Uo s m {m with Frames:=Fr++ [{f with At:=k}]} {f with At:=k} i F m')):Pure prog 14 [.agg (s.enc.map .d),.agg (m.enc.map .d),iD F] (.agg (m'.enc.map .d)):=by
 have lH:Fr.length<m.Frames.length:=by rw[h];simp
 have bm:m.Frames[Fr.length]'lH=f:=by simp[h]
 have FI:((m.Frames.length:Nat):Int)-1=Fr.length:=by rw[h];simp
 have bU:aN .i64 (Fr.length:Int):=by rw[aS];omega
 have hf:=oX m e;have XI:=u0 m Fr f {f with At:=k} h hl;generalize hx:({m with Frames:=Fr++ [{f with At:=k}]}:ah)=x at *;by_cases he:e=0
 ·subst he;have ho:Uo s m x {f with At:=k} i F m':=by
   rcases ho with ho|ho
   ·exact absurd rfl ho.1
   ·exact ho.2
  rcases ho with⟨aD,hC⟩|⟨aD,hC⟩|⟨aD,hC⟩|⟨aD,hC⟩|⟨aD,hC⟩
  ·refine rn func14 ?_;simp[-cB,f14];intro bs;simp[hd,FI,bU,bm,lH];intro bL;refine pC pw ?_;simp[-cB];intro jX;refine pC XI ?_;simp[-cB];intro tn;unfold uZ at aD;rcases aD with hq|hq|hq|hq|hq|hq
   all_goals
    simp[-cB,hq];refine pC hC ?_;simp[-cB]
  ·refine rn func14 ?_;simp[-cB,f14];intro bs;simp[hd,FI,bU,bm,lH];intro bL;refine pC pw ?_;simp[-cB];intro jX;refine pC XI ?_;simp[-cB];intro tn;unfold EL at aD;rcases aD with hq|hq|hq|hq
   all_goals
    simp[-cB,hq];refine pC hC ?_;simp[-cB]
  ·refine rn func14 ?_;simp[-cB,f14];intro bs;simp[hd,FI,bU,bm,lH];intro bL;refine pC pw ?_;simp[-cB];intro jX;refine pC XI ?_;simp[-cB];intro tn;unfold yU at aD;rcases aD with hq|hq|hq|hq|hq
   all_goals
    simp[-cB,hq];refine pC hC ?_;simp[-cB]
  ·refine rn func14 ?_;simp[-cB,f14];intro bs;simp[hd,FI,bU,bm,lH];intro bL;refine pC pw ?_;simp[-cB];intro jX;refine pC XI ?_;simp[-cB];intro tn;unfold mz at aD;rcases aD with hq|hq|hq|hq|hq|hq|hq|hq|hq|hq
   all_goals
    simp[-cB,hq];refine pC hC ?_;simp[-cB]
  ·refine rn func14 ?_;simp[-cB,f14];intro bs;simp[hd,FI,bU,bm,lH];intro bL;refine pC pw ?_;simp[-cB];intro jX;refine pC XI ?_;simp[-cB];intro tn;obtain⟨⟨a1,a2,a3,a4,a5,a6⟩,⟨b1,b2,b3,b4⟩,⟨c1,c2,c3,c4,c5⟩,d1,d2,d3,d4,d5,d6,d7,d8,d9,d10⟩:=aD;simp[-cB,a1,a2,a3,a4,a5,a6,b1,b2,b3,b4,c1,c2,c3,c4,c5,d1,d2,d3,d4,d5,d6,d7,d8,d9,d10];refine pC hC ?_;simp[-cB]
 ·have ho:m'=eT m e:=by
   rcases ho with ho|ho
   ·exact ho.2
   ·exact absurd ho.1 he
  subst ho;refine rn func14 ?_;simp[-cB,f14];intro bs;simp[hd,FI,bU,bm,lH];intro bL;refine pC pw ?_;simp[-cB];intro jX;simp[he];refine pC hf ?_;simp[-cB]
theorem tp(N:Nat)(ew:N<10):Pure prog 148 [.d (.v (.int .u64 N))] (.d (.v (.string (gC N)))):=by
 have GG:(N:Int)<10:=by omega
 have e:gC N=⟨#[UInt8.ofNat (48+N)]⟩:=by rw[gC,if_pos ew]
 rw[e];have hu:IntKind.wrap .u64 ((N:Int)+1)=N+1:=iu (by omega);have key:∀N<10,(ByteArray.mk #[48,49,50,51,52,53,54,55,56,57]).extract N (N+1)=⟨#[48+UInt8.ofNat N]⟩:=by decide
 refine rn func148 ?_;simp[-cB,f148];simp[ew,GG,hu];exact⟨⟨by omega,by show N+1<=10;omega⟩,key N ew⟩
theorem rJ:∀(n N:Nat),N<=n->(gC N).size<=N+1:=by
 intro n
 induction n with
 | zero=>intro N hN;obtain rfl:N=0:=by omega
         rw[gC,if_pos (by decide)];decide
 | succ n ih=>
   intro N hN;by_cases ew:N<10
   ·rw[gC,if_pos ew];show 1<=_;omega
   ·rw[gC,if_neg ew,ao6];have h1:=ih (N / 10) (by omega);have:(ByteArray.mk #[UInt8.ofNat (48+N % 10)]).size=1:=rfl;omega
theorem Q9:∀(n N:Nat),N<=n->N<1000000->Pure prog 148 [.d (.v (.int .u64 N))] (.d (.v (.string (gC N)))):=by
 intro n
 induction n with
 | zero=>
   intro N hN _;exact tp N (by omega)
 | succ n ih=>
   intro N hN bU;by_cases ew:N<10
   ·exact tp N ew
   ·have GG:¬(N:Int)<10:=by omega
    have h1:=ih (N / 10) (by omega) (by omega);have h2:=tp (N % 10) (by omega);have z1:=rJ (N / 10) (N / 10) (by omega);have z2:=rJ (N % 10) (N % 10) (by omega);have e:gC N=gC (N / 10)++gC (N % 10):=by
     conv=>lhs;rw[gC,if_neg ew]
     congr 1;rw[gC,if_pos (by omega)]
    rw[e];generalize gC (N / 10)=A at *;generalize gC (N % 10)=B at *;have q1:IntKind.wrap .u64 ((N:Int).tdiv 10)=((N / 10:Nat):Int):=by rw[apt (by omega),iu (by omega)];omega
    have q2:IntKind.wrap .u64 ((N:Int).tmod 10)=((N % 10:Nat):Int):=by rw[apa (by omega),iu (by omega)];omega
    have q3:(N:Int).tdiv 10=((N / 10:Nat):Int):=by rw[apt (by omega)];omega
    have q4:(N:Int).tmod 10=((N % 10:Nat):Int):=by rw[apa (by omega)];omega
    generalize hQ:N / 10=Q at *;generalize hR:N % 10=R at *;refine rn func148 ?_;simp[-cB,f148];have wQ:IntKind.wrap .u64 (Q:Int)=Q:=iu (by omega);have wR:IntKind.wrap .u64 (R:Int)=R:=iu (by omega);simp[ew,GG,q1,q2,q3,q4,wQ];refine pC h1 ?_;simp[-cB,q2,q4,wR];refine pC h2 ?_;simp[-cB];omega
theorem Up:∀(n N:Nat),N<=n->0<N->N<1000000->Pure prog 91 [iD (-(N:Int))] (.d (.v (.string (⟨#[45]⟩++gC N)))):=by
 intro n
 induction n with
 | zero=>intro N h1 h2;omega
 | succ n ih=>
   intro N hN iZ aw;have h0:¬(0:Int)<= -(N:Int):=by omega
   by_cases ew:N<10
   ·have GG:(-10:Int) < -(N:Int):=by omega
    have hd:=tp N ew;have hw:IntKind.wrap .u64 (N:Int)=N:=iu (by omega);have bU:aN .i64 (N:Int):=by rw[aS];omega
    have z:=rJ N N (by omega);generalize gC N=A at *;refine rn func91 ?_;simp[-cB,f91];have hN0:¬N=0:=by omega
    simp[h0,GG,hw,bU,hN0];refine pC hd ?_;simp[-cB];have z1:(ByteArray.mk #[45]).size=1:=rfl;omega
   ·have GG:¬(-10:Int) < -(N:Int):=by omega
    have Fs:=ih (N / 10) (by omega) (by omega) (by omega);have hd:=tp (N % 10) (by omega);have e:gC N=gC (N / 10)++gC (N % 10):=by
     conv=>lhs;rw[gC,if_neg ew]
     congr 1;rw[gC,if_pos (by omega)]
    have z1:=rJ (N / 10) (N / 10) (by omega);have z2:=rJ (N % 10) (N % 10) (by omega);have q1:(-(N:Int)).tdiv 10= -((N / 10:Nat):Int):=by rw[Int.neg_tdiv,apt (by omega)];omega
    have q2:10 *(-((N / 10:Nat):Int))- -(N:Int)=((N % 10:Nat):Int):=by omega
    rw[e,<-aqC];generalize gC (N / 10)=A at *;generalize gC (N % 10)=B at *;have i1:aN .i64 (-((N / 10:Nat):Int)):=by rw[aS];omega
    have i2:aN .i64 (10 *(-((N / 10:Nat):Int))):=by rw[aS];omega
    have i3:aN .i64 ((N % 10:Nat):Int):=by rw[aS];omega
    have wR:IntKind.wrap .u64 ((N % 10:Nat):Int)=((N % 10:Nat):Int):=iu (by omega);generalize N / 10=Q at *;generalize N % 10=R at *;refine rn func91 ?_;simp[-cB,f91];have hN0:¬N=0:=by omega
    have wQ:IntKind.wrap .i64 (-(Q:Int))= -(Q:Int):=wrap64 i1;simp[h0,GG,q1,hN0,wQ];refine pC Fs ?_;simp[-cB,i2,q2,i3,wR];refine pC hd ?_;simp[-cB];have z3:(ByteArray.mk #[45]).size=1:=rfl;omega
theorem NM(v:Int)(hv:aq v=v):Pure prog 91 [iD v] (.d (.v (.string (uD v)))):=by
 rw[iA]at hv;unfold uD;by_cases h:v<0
 ·rw[if_pos h];have:=Up v.natAbs v.natAbs (aoT _) (by omega) (by omega);rw[show(-(v.natAbs:Int))=v by omega]at this;exact this
 ·rw[if_neg h];obtain⟨N,rfl⟩:∃N:Nat,v=N:=⟨v.toNat,by omega⟩
  have hd:=Q9 N N (aoT _) (by omega);have hw:IntKind.wrap .u64 (N:Int)=N:=iu (by omega);have h0:(0:Int)<=N:=by omega
  simp only[Int.natAbs_natCast];generalize gC N=A at *;refine rn func91 ?_;simp[-cB,f91];simp[h0,hw];refine pC hd ?_;simp[-cB]
theorem Uq s m x i S v n w' e(aD:i.Op=17)(hS:x.Stack=S++ [v,n])(hl:S.length≤100000)(aO:ig s.Tables x.Told.World)(hv:kW s.Tables x.Told.World v n=(w',e)):
  uo s m x i (if e≠0 then eT m e else {x with Stack:=S,Told:={x.Told with World:=w'}}):=by
 have uq:=NN aO v n;have hT:=aO.hT;have h3:=aO.hn;unfold kW at hv;cases hr:da s.Tables v with
 | true=>
   rw[hr,if_pos (by simp)]at hv;simp at hv;rw[<-hv.2,if_pos (by decide)];exact Ra s m x i S v n aD hS hl hr
 | false=>
   cases hp:kX x.Told.World v n with
   | mk w1 e1=>
   rw[hp]at hv uq;have oO:=XJ s m x i S v n w1 e1 aD hS hl hr aO.wf aO.nest hp (λ_=>Ci s w1 uq.1 (by grind) h3.1) _ rfl;have e2:(if e≠0 then eT m e else {x with Stack:=S,Told:={x.Told with World:=w'}})=(if e1≠0 then eT m e1 else if da s.Tables (dw w1.tree 1)=true then({x with Stack:=S,Told:={x.Told with World:=w1}}:ah)else eT m 12):=by
    unfold pE at hv;grind
   rw[e2];exact oO
theorem Ur s m x i S v w' e(aD:i.Op=18)(hS:x.Stack=S++ [v])(hl:S.length≤100000)(aO:ig s.Tables x.Told.World)(hv:iG s.Tables x.Told.World v=(w',e)):
  uo s m x i (if e≠0 then eT m e else {x with Stack:=S,Told:={x.Told with World:=w'}}):=by
 have uq:=HX aO v;have hT:=aO.hT;have h3:=aO.hn;unfold iG at hv;cases hr:da s.Tables v with
 | true=>
   rw[hr,if_pos (by simp)]at hv;simp at hv;rw[<-hv.2,if_pos (by decide)];exact Rb s m x i S v aD hS hl hr
 | false=>
   cases hp:fC x.Told.World v with
   | mk w1 e1=>
   rw[hp]at uq;have hv:pE s.Tables (w1,e1)=(w',e)\/(e=12/\e1=0/\da s.Tables (dw w1.tree 1)=false):=by
    by_cases h1:v=1
    ·subst h1;have HY:=Mt aO hr;grind
    grind
   have oO:=XK s m x i S v w1 e1 aD hS hl hr aO.wf aO.nest hp (λ_=>Ci s w1 uq.1 (by grind) h3.1) _ rfl;have e2:(if e≠0 then eT m e else {x with Stack:=S,Told:={x.Told with World:=w'}})=(if e1≠0 then eT m e1 else if da s.Tables (dw w1.tree 1)=true then({x with Stack:=S,Told:={x.Told with World:=w1}}:ah)else eT m 12):=by
    rcases hv with hv|⟨rfl,rfl,hB⟩
    ·unfold pE at hv;grind
    grind
   rw[e2];exact oO
section
variable {c : XC} {s : al} {F : Int} {m m' : ah} {Fr : List aG} {f : aG} {i : ai} {k : Int}
abbrev GH(s:al)(m:ah)(Fr:List aG)(f:aG)(k:Int)(i:ai)(F:Int)(m':ah):Prop:=Uo s m (eh m Fr f k) {f with At:=k} i F m'
theorem rG{X}(aD:uZ i.Op)(h:FH s m (eh m Fr f k) {f with At:=k} i X)(e:X=m'):GH s m Fr f k i F m':= .inl ⟨aD,e ▸ h⟩
theorem rE{X}(aD:EL i.Op)(h:NK m (eh m Fr f k) i F X)(e:X=m'):GH s m Fr f k i F m':= .inr (.inl ⟨aD,e ▸ h⟩)
theorem rS{X}(aD:yU i.Op)(h:HW s (eh m Fr f k) i X)(e:X=m'):GH s m Fr f k i F m':= .inr (.inr (.inl ⟨aD,e ▸ h⟩))
theorem rD{X}(aD:mz i.Op)(h:uo s m (eh m Fr f k) i X)(e:X=m'):GH s m Fr f k i F m':= .inr (.inr (.inr (.inl ⟨aD,e ▸ h⟩)))
theorem rR{X}(aD:kr i.Op)(h:xM s m (eh m Fr f k) i X)(e:X=m'):GH s m Fr f k i F m':= .inr (.inr (.inr (.inr ⟨aD,e ▸ h⟩)))
theorem aaJ(hj:Jn c s F m Fr f)(h:nU m Fr f k (instJ c i (dQ m f) f.aM (eQ m))=some m'):GH s m Fr f k i F m':=by
 have hA:m.Stack=m.Stack.take f.bO.toNat++(dQ m f).reverse:=by simp[dQ,aqc,ao5]
 have hl:=hj.hS;have NB:Fr.length<=1000000:=by have:=hj.fM;rw[hj.p9]at this;grind
 have aiv:(Fr++ [({f with At:=k}:aG)]).length<=1000:=by have:=hj.fM;rw[hj.p9]at this;grind
 have hT:=hj.hT;have hE:=hj.hE;have dc:=hj.dc;have wz:∀x,m.Stack.take f.bO.toNat++(x::dQ m f).reverse=m.Stack++ [x]:=by
  grind
 unfold instJ at h;by_cases h1:i.Op=1
 ·rw[if_pos h1]at h;refine rR (by simp[kr,h1]) (Rd s m _ i h1 (by grind)) ?_;rw[<-cu h,wz];rfl
 rw[if_neg h1]at h;by_cases Cc:i.Op=37
 ·rw[if_pos Cc]at h;have hF:=hj.hF;rw[if_pos (show 0<=(eQ m).Fuel/\(eQ m).Fuel<=1099511627776 from⟨hF.1,by show m.Told.Fuel<=_;omega⟩)]at h;split at h
  ·rename_i hc;exact rE (by grind[EL]) (XL m _ i F Cc hF (hj.KJ.2 hc)) (ed h)
  ·rename_i hc;refine rE (by grind[EL]) (XM m _ i F Cc hF (λh=>hc (hj.KJ.1 h)) rfl) ?_;rw[<-cu h,<-hA];rfl
 rw[if_neg Cc]at h;by_cases h5:i.Op=5
 ·rw[if_pos h5]at h;split at h
  ·rename_i cq;refine rG (by simp[uZ,h5]) (aaK s m _ _ i _ h5 cq.1 (nV cq) (by grind)) ?_;rw[<-cu h,wz];rfl
  ·cases h
 rw[if_neg h5]at h;by_cases Ak:i.Op=21
 ·rw[if_pos Ak]at h;obtain⟨gw,lE⟩:=oW h;refine rS (by grind[yU]) (XN s _ i _ Ak (CX s.Tables i.Arg) (by rw[hT];exact gw)) ?_;rw[<-lE,<-hA,hT];rfl
 rw[if_neg Ak]at h;by_cases FD:i.Op=35
 ·rw[if_pos FD]at h;split at h
  ·rename_i aO;have hw:=kC dc aO;obtain⟨gw,lE⟩:=oW h;refine rS (by grind[yU]) (XO s _ i _ FD (XP s.Tables m.Told.World (by grind) (by rw[hT];exact hw) (hw.flags dc)) (by rw[hT];exact gw)) ?_;rw[<-lE,<-hA,hT];rfl
  ·cases h
 rw[if_neg FD]at h;by_cases h0:dI i.Op=0
 ·rw[if_pos h0]at h;have uB:i.Op=3\/i.Op=7\/(i.Op=28\/i.Op=29\/i.Op=30)\/i.Op=33:=by
   grind[dI]
  cases aO:okW c (eQ m).W with
  | false=>grind[di,dv,dh,cE,iR,nU]
  | true=>
  have hw:=kC dc aO;rcases uB with h3|h7|Xx|HU
  ·simp[h3,di,dh,aO]at h;split at h
   ·rename_i cq;refine rR (by simp[kr,h3]) (Re s m _ i _ h3 cq.1 (nV cq) (by grind)) ?_;rw[<-cu h];simp only[if_true];rw[wz];rfl
   grind[iR,nU]
  ·simp[h7,di,dh,aO,jc]at h;have oh:=(hw.A0 dc).1;cases hp:oq (eQ m).W c.E i.Arg with
   | mk v e=>
   rw[hp]at h;by_cases he:e=0
   ·subst he;refine rR (by simp[kr,h7]) (FJ s m (eh m Fr f k) i v 0 h7 (by show oq m.Told.World m.Env i.Arg=_;rw[hE];exact hp) (by grind) hw.wf (gD _ _)) ?_;rw[<-cu h];rw[wz];rfl
   ·simp only[if_neg he]at h;exact rR (by simp[kr,h7]) (FJ s m (eh m Fr f k) i v e h7 (by grind[oq]) (by grind) hw.wf (jq _ _ e he)) (ed h)
  ·refine rE (by grind[EL]) (adE m _ i F Xx) ?_;rcases Xx with hq|hq|hq<;>simp[hq,di,dv,cE,aO,iR,nU]at h<;>rw[<-h]<;>simp[hq,uY,eQ,eh]
  ·simp[HU,di,dv,cE,aO]at h;split at h
   ·rename_i cq;have hd:=(hw.A0 dc).2.2.2.1;refine rD (by grind[mz]) (XQ s m _ i HU cq (by show m.Told.World.bc.length<=_;have:m.Told.World.bc.length<=16:=hd;omega)) ?_;rw[<-cu h];show _=uY m _ (m.Stack.take f.bO.toNat++(dQ m f).reverse) _;rw[<-hA];rfl
   grind[iR,nU]
 rw[if_neg h0]at h;cases qb:dQ m f with
 | nil=>rw[qb]at h;cases h
 | cons v S=>
   rw[qb]at h;simp only at h;rw[qb]at hA;have dN:m.Stack=(m.Stack.take f.bO.toNat++S.reverse)++ [v]:=by grind
   have Xz:(m.Stack.take f.bO.toNat++S.reverse).length<=20000:=by
    grind
   have hv:aq v=v:=hj.hW v (by grind);have xJ:∀x,m.Stack.take f.bO.toNat++(x::S).reverse=(m.Stack.take f.bO.toNat++S.reverse)++ [x]:=by simp
   by_cases h2:i.Op=2
   ·rw[if_pos h2]at h;refine rR (by simp[kr,h2]) (Rk s m _ i _ v h2 dN (by omega) hv) ?_;rw[<-cu h];rfl
   rw[if_neg h2]at h;by_cases h6:i.Op=6
   ·rw[if_pos h6]at h;split at h
    ·rename_i cq;refine rG (by simp[uZ,h6]) (aaL s m _ Fr _ _ i _ v h6 rfl aiv dN (by omega) cq (by show f.aM.length<=_;have:=hj.hL;omega)) ?_;rw[<-cu h];rfl
    ·cases h
   rw[if_neg h6]at h;by_cases h9:i.Op=9
   ·rw[if_pos h9]at h;refine rR (by simp[kr,h9]) (Rm s m _ i _ v h9 dN (by omega) hv) ?_;rw[<-cu h,xJ];rfl
   rw[if_neg h9]at h;by_cases ew:i.Op=10
   ·rw[if_pos ew]at h;refine rR (by simp[kr,ew]) (NO s m _ i _ v ew dN (by omega) hv) ?_;rw[<-cu h,xJ,mZ];rfl
   rw[if_neg ew]at h;by_cases jN:i.Op=11
   ·rw[if_pos jN]at h;refine rR (by simp[kr,jN]) (NP s m _ i _ v jN dN (by omega) hv) ?_;rw[<-cu h,xJ,mZ,show(!decide (v=0))=decide (v≠0) by simp];rfl
   rw[if_neg jN]at h;by_cases Cd:i.Op=22
   ·rw[if_pos Cd]at h;obtain⟨gw,lE⟩:=oW h;refine rS (by grind[yU]) (XR s _ i _ v _ Cd dN (by omega) (by rw[hv];exact NM v hv) gw) ?_;rw[<-lE];rfl
   rw[if_neg Cd]at h;by_cases yQ:i.Op=23
   ·rw[if_pos yQ]at h;obtain⟨gw,lE⟩:=oW h;refine rS (by grind[yU]) (XT s _ i _ v _ yQ dN (by omega) (by rw[hv];exact qK s.Tables v) (by rw[hT];exact gw)) ?_;rw[<-lE,hT];rfl
   rw[if_neg yQ]at h;by_cases FE:i.Op=36
   ·rw[if_pos FE]at h;split at h
    ·rename_i aO;have hw:=kC dc aO;obtain⟨gw,lE⟩:=oW h;refine rS (by grind[yU]) (XU s _ i _ v _ FE dN (by omega) (by rw[hv];exact KO s.Tables m.Told.World v (by grind) hw.wf (hw.flags dc) (hw.A0 dc).1) (by rw[hT];exact gw)) ?_;rw[<-lE,hT];rfl
    ·cases h
   rw[if_neg FE]at h;by_cases h8:i.Op=8
   ·rw[if_pos h8]at h;cases S with
    | nil=>cases h
    | cons u S=>
    simp only at h;split at h
    ·cases h
    ·rename_i h9;have yR:m.Stack=(m.Stack.take f.bO.toNat++S.reverse)++ [u,v]:=by grind
     have aaI:(m.Stack.take f.bO.toNat++S.reverse).length<=20000:=by grind
     have hTR:i.Arg=9->m.Told.World.Child.length=m.Told.World.ae.length/\m.Told.World.Next.length=m.Told.World.ae.length:=by
      intro h9';have aO:okW c (eQ m).W=true:=by
       grind
      have hw:=kC dc aO;exact⟨hw.hC,hw.hN⟩
     unfold FC at h;cases hp:jd (eQ m).W i.Arg u v with
     | mk x e=>
     rw[hp]at h;by_cases he:e=0
     ·subst he;refine rR (by simp[kr,h8]) (FK s m (eh m Fr f k) i _ u v x 0 h8 yR (by omega) hp (gD _ _)) ?_;rw[<-cu h];simp[uY,eQ]
     ·simp only[if_neg he]at h;exact rR (by simp[kr,h8]) (FK s m (eh m Fr f k) i _ u v x e h8 yR (by omega) hp (jq _ _ e he)) (ed h)
   rw[if_neg h8]at h;by_cases NI:dI i.Op=2
   ·rw[if_pos NI]at h;have uB:i.Op=14\/i.Op=17:=by grind[dI]
    cases S with
    | nil=>cases h
    | cons u S=>
    simp only at h;have yR:m.Stack=(m.Stack.take f.bO.toNat++S.reverse)++ [u,v]:=by grind
    have aaI:(m.Stack.take f.bO.toNat++S.reverse).length<=20000:=by grind
    cases aO:okW c (eQ m).W with
    | false=>grind[dv,cE,iR,nU]
    | true=>
    have hw:=kC dc aO;have hd:=hw.A0 dc;rcases uB with Ce|Sm
    ·simp[Ce,dv,cE,aO,fT,aA]at h;cases hp:mW c.B.Tables (eQ m).W u i.Arg v with
     | mk w' e=>
     rw[hp]at h;have Al:mW s.Tables m.Told.World u i.Arg v=(w',e):=by rw[hT];exact hp
     by_cases he:e=0
     ·subst he;refine rD (by grind[mz]) (KQ s m (eh m Fr f k) i _ u v w' 0 Ce yR (by omega) hw.wf (by show m.Told.World.ae.length<=_;have:m.Told.World.ae.length<=128:=hd.1;omega) (by grind) (by rw[hT];exact hd.2.2.2.2.2.2) Al (gD _ _)) ?_;rw[<-cu h];rfl
     ·simp only[if_neg he]at h;exact rD (by grind[mz]) (KQ s m (eh m Fr f k) i _ u v w' e Ce yR (by omega) hw.wf (by show m.Told.World.ae.length<=_;have:m.Told.World.ae.length<=128:=hd.1;omega) (by grind) (by rw[hT];exact hd.2.2.2.2.2.2) Al (jq _ _ e he)) (ed h)
    ·simp[Sm,dv,cE,aO,fT,aA]at h;cases hp:kW c.B.Tables (eQ m).W u v with
     | mk w' e=>
     rw[hp]at h;have Al:kW s.Tables m.Told.World u v=(w',e):=by rw[hT];exact hp
     have Am:ig s.Tables m.Told.World:=by rw[hT];exact hw
     exact rD (by grind[mz]) (Uq s m _ i _ u v w' e Sm yR (by omega) Am Al) (by
      by_cases he:e=0
      ·subst he;rw[if_neg (by simp),<-cu h];rfl
      ·simp only[if_neg he]at h;rw[if_pos he];exact ed h)
   rw[if_neg NI]at h;have uB:i.Op=12\/i.Op=13\/i.Op=19\/i.Op=20\/i.Op=4\/i.Op=15\/i.Op=16\/i.Op=18\/i.Op=31\/i.Op=32\/i.Op=34:=by
    by_cases hA:i.Op=12\/i.Op=13\/i.Op=19\/i.Op=20\/i.Op=4\/i.Op=15\/i.Op=16\/i.Op=18\/i.Op=31\/i.Op=32\/i.Op=34
    ·exact hA
    ·exfalso;have n0:i.Op≠3/\i.Op≠7/\i.Op≠28/\i.Op≠29/\i.Op≠30/\i.Op≠33:=by
      refine⟨?_,?_,?_,?_,?_,?_⟩<;>intro hq<;>exact h0 (by rw[hq];rfl)
     have n2:i.Op≠14/\i.Op≠17:=by
      refine⟨?_,?_⟩<;>intro hq<;>exact NI (by rw[hq];rfl)
     obtain⟨a1,a2,a3,a4,a5,a6⟩:=n0;obtain⟨a7,a8⟩:=n2;have b1:i.Op≠12:=λhq=>hA (by omega)
     have b2:i.Op≠13:=λhq=>hA (by omega)
     have b3:i.Op≠19:=λhq=>hA (by omega)
     have b4:i.Op≠20:=λhq=>hA (by omega)
     have b5:i.Op≠4:=λhq=>hA (by omega)
     have b6:i.Op≠15:=λhq=>hA (by omega)
     have b7:i.Op≠16:=λhq=>hA (by omega)
     have b8:i.Op≠18:=λhq=>hA (by omega)
     have b9:i.Op≠31:=λhq=>hA (by omega)
     have b10:i.Op≠32:=λhq=>hA (by omega)
     have b11:i.Op≠34:=λhq=>hA (by omega)
     have e1:di i.Op=0:=by unfold di;omega
     have e2:dv i.Op=0:=by unfold dv;omega
     grind[nU]
   cases aO:okW c (eQ m).W with
   | false=>grind[di,dv,dh,cE,iR,nU]
   | true=>
   have hw:=kC dc aO;have Am:ig s.Tables m.Told.World:=by rw[hT];exact hw
   obtain⟨d1,d2,d3,d4,d5,d6,d7⟩:=hw.A0 dc;have uC:cZ m.Told.World:=hw.flags dc;have d1':m.Told.World.ae.length<=128:=d1;have d2':m.Told.World.Flags.length<=128:=d2;rcases uB with oM|gK|nt|yS|h4|oN|lg|um|XA|fM|NJ
   ·simp[oM,di,dv,dh,cE,aO,jc,fT,aA]at h;unfold Ul at h;simp only at h;by_cases he:cz (eQ m).W v i.Arg=0
    ·have lG:cz m.Told.World v i.Arg=0:=he;rw[if_pos he,if_pos he]at h;refine rR (by simp[kr,oM]) (CY s m (eh m Fr f k) i _ v (cU m.Told.World v i.Arg.toNat) 0 oM dN (by omega) hv uC (by grind) (gD _ _)) ?_;rw[<-cu h,xJ];rfl
    ·have lG:¬cz m.Told.World v i.Arg=0:=he;rw[if_neg he]at h;exact rR (by simp[kr,oM]) (CY s m (eh m Fr f k) i _ v false (cz m.Told.World v i.Arg) oM dN (by omega) hv uC (by grind) (jq _ _ _ lG)) (ed h)
   ·simp[gK,di,dv,dh,cE,aO,jc,fT,aA]at h;cases hp:tl c.B.Tables (eQ m).W v i.Arg with
    | mk w' e=>
    rw[hp]at h;by_cases he:e=0
    ·subst he;refine rR (by simp[kr,gK]) (CZ s m (eh m Fr f k) i _ v w' 0 gK dN (by omega) hv (by grind) (by grind) (by rw[hT];exact d7) (by rw[hT];exact hp) (gD _ _)) ?_;rw[<-cu h,xJ];rfl
    ·simp only[if_neg he]at h;exact rR (by simp[kr,gK]) (CZ s m (eh m Fr f k) i _ v w' e gK dN (by omega) hv (by grind) (by grind) (by rw[hT];exact d7) (by rw[hT];exact hp) (jq _ _ e he)) (ed h)
   ·simp[nt,di,dv,dh,cE,aO,jc,fT,aA]at h;cases hp:df (eQ m).W i.Arg v with
    | mk w' e=>
    rw[hp]at h;by_cases he:e=0
    ·subst he;refine rR (by simp[kr,nt]) (C0 s m (eh m Fr f k) i _ v w' 0 nt dN (by omega) hv hw.hC hw.hN hp (gD _ _)) ?_;rw[<-cu h,xJ];rfl
    ·simp only[if_neg he]at h;exact rR (by simp[kr,nt]) (C0 s m (eh m Fr f k) i _ v w' e nt dN (by omega) hv hw.hC hw.hN hp (jq _ _ e he)) (ed h)
   ·simp[yS,di,dv,dh,cE,aO,aA]at h;split at h
    ·rename_i hx;exact rR (by simp[kr,yS]) (NQ s m _ i _ v yS dN (by omega) hv hx) (ed h)
    ·rename_i hx;refine rR (by simp[kr,yS]) (NR s m _ i _ v yS dN (by omega) hv hx) ?_;have h':=cu (by simpa[iR]using h);rw[<-h',xJ];rfl
   ·simp[h4,di,dv,dh,cE,aO,aA]at h;split at h
    ·rename_i cq;refine rD (by simp[mz,h4]) (aaM s m _ i _ v h4 dN (by omega) cq (by show m.Told.World.aQ.length<=_;have:m.Told.World.aQ.length<=64:=d3;omega)) ?_;rw[<-cu h];rfl
    grind[iR,nU]
   ·simp[oN,di,dv,dh,cE,aO,jc,fT,aA]at h;cases hp:eb (eQ m).W v i.Arg true with
    | mk w' e=>
    rw[hp]at h;by_cases he:e=0
    ·subst he;refine rD (by grind[mz]) (KR s m (eh m Fr f k) i _ v w' 0 oN dN (by omega) uC (by grind) hp (gD _ _)) ?_;rw[<-cu h];rfl
    ·simp only[if_neg he]at h;exact rD (by grind[mz]) (KR s m (eh m Fr f k) i _ v w' e oN dN (by omega) uC (by grind) hp (jq _ _ e he)) (ed h)
   ·simp[lg,di,dv,dh,cE,aO,jc,fT,aA]at h;cases hp:eb (eQ m).W v i.Arg false with
    | mk w' e=>
    rw[hp]at h;by_cases he:e=0
    ·subst he;refine rD (by grind[mz]) (KS s m (eh m Fr f k) i _ v w' 0 lg dN (by omega) uC (by grind) hp (gD _ _)) ?_;rw[<-cu h];rfl
    ·simp only[if_neg he]at h;exact rD (by grind[mz]) (KS s m (eh m Fr f k) i _ v w' e lg dN (by omega) uC (by grind) hp (jq _ _ e he)) (ed h)
   ·simp[um,di,dv,dh,cE,aO,jc,fT,aA]at h;cases hp:iG c.B.Tables (eQ m).W v with
    | mk w' e=>
    rw[hp]at h;exact rD (by grind[mz]) (Ur s m _ i _ v w' e um dN (by omega) Am (by rw[hT];exact hp)) (by
     by_cases he:e=0
     ·subst he;rw[if_neg (by simp),<-cu h];rfl
     ·simp only[if_neg he]at h;rw[if_pos he];exact ed h)
   ·simp[XA,di,dv,dh,cE,aO,aA]at h;refine rD (by grind[mz]) (XV s m _ i _ v XA dN (by omega)) ?_;rw[<-cu h];rfl
   ·simp[fM,di,dv,dh,cE,aO,aA]at h;split at h
    ·rename_i cq;refine rD (by grind[mz]) (XW s m _ i _ v fM dN (by omega) cq (by show m.Told.World.bc.length<=_;have:m.Told.World.bc.length<=16:=d4;omega)) ?_;rw[<-cu h];rfl
    grind[iR,nU]
   ·simp[NJ,di,dv,dh,cE,aO,aA]at h;split at h
    ·rename_i hx;exact rD (by grind[mz]) (XX s m _ i _ v NJ dN (by omega) (by omega)) (ed h)
    ·rename_i hx;refine rD (by grind[mz]) (XY s m _ i _ v NJ dN (by omega) (by omega)) ?_;rw[<-cu h];rfl
end
theorem aaN{c:XC}{s:al}{F:Int}{w0:aj}{n:Nat}{m m':ah}(hs:HV c s)(hj:Jv c w0 n m)(hn:n≤10000)(KJ:F < m.Told.Fuel+1↔c.M < m.Told.Fuel+1)(h:iM (bS c) s m=some m'):
  Pure prog 14 [.agg (s.enc.map .d),.agg (m.enc.map .d),iD F] (.agg (m'.enc.map .d)):=by
 unfold iM at h;split at h
 ·rename_i hd;rw[<-aoK h];exact NL s m F hd
 rename_i hd;have hd:m.gB=false:=by simpa using hd
 split at h
 ·rename_i f hf;split at h
  ·rename_i hB;have p9:=Cg hf;generalize m.Frames.dropLast=Fr at *;have fM:=hj.fM;have pF:=hj.hS;have CW:Fr.length+1<=32:=by rw[p9]at fM;simpa using fM
   have pw:=aaO s.Code f.At hs.hb (by have:=hs.hC;omega);obtain⟨i,k,e,hx⟩:∃i k e,og s.Code f.At=(i,k,e):=⟨_,_,_,rfl⟩
   rw[hx]at h pw;refine Q8 s m m' F Fr f i k e hd p9 (by omega) pw ?_;have hFk:(Fr++ [({f with At:=k}:aG)]).length<=1000:=by simp;omega
   have hW:=hj.hW;have hA:m.Stack=m.Stack.take f.bO.toNat++(dQ m f).reverse:=by unfold dQ;rw[aqc,ao5]
   have Sg:f.aM.length<=40:=hj.hL f (by rw[p9];simp);have hF0:=hj.hF;unfold tj at h;simp only at h;by_cases he:e=0
   ·subst he;refine .inr ⟨rfl,?_⟩;show GH s m Fr f k i F m';have iE:=Xu hs.hb hx;have hC:=hs.hC;rw[if_neg (by simp)]at h;by_cases jo:i.Op=24
    ·rw[if_pos jo]at h;refine rG (by simp[uZ,jo]) (XZ s m _ Fr _ {f with At:=k} i jo rfl hFk (by rw[aS];show _<=k+i.Arg/\k+i.Arg<=_;omega)) ?_;rw[<-aoK h]
    rw[if_neg jo]at h;by_cases nv:i.Op=25
    ·rw[if_pos nv]at h;unfold EJ at h;cases qb:dQ m f with
     | nil=>rw[qb]at h;cases h
     | cons v S=>
       rw[qb]at h hA;have dN:m.Stack=(m.Stack.take f.bO.toNat++S.reverse)++ [v]:=by rw[apb,<-aqF];exact hA
       have Xz:(m.Stack.take f.bO.toNat++S.reverse).length<=20000:=by
        have:=congrArg List.length dN;rw[aoS,aqH]at this;omega
       have hv:aq v=v:=hW v (by rw[dN];simp);refine rG (by simp[uZ,nv]) (X0 s m _ Fr _ {f with At:=k} i _ v nv rfl hFk dN (by omega) (by rw[aS];show _<=k+i.Arg/\k+i.Arg<=_;omega)) ?_;rw[<-aoK h];split<;>rfl
    rw[if_neg nv]at h;by_cases rI:i.Op=27
    ·rw[if_pos rI]at h;unfold JD at h;cases qb:dQ m f with
     | nil=>rw[qb]at h;cases h
     | cons v S=>
       rw[qb]at h hA;have dN:m.Stack=(m.Stack.take f.bO.toNat++S.reverse)++ [v]:=by rw[apb,<-aqF];exact hA
       have Xz:(m.Stack.take f.bO.toNat++S.reverse).length<=20000:=by
        have:=congrArg List.length dN;rw[aoS,aqH]at this;omega
       have hBl:f.bO.toNat<=(m.Stack.take f.bO.toNat++S.reverse).length:=by
        rw[aoS,apg];omega
       have xL:(m.Stack.take f.bO.toNat++S.reverse).take f.bO.toNat=m.Stack.take f.bO.toNat:=by
        rw[aqE (by rw[apg];omega),List.take_take,Nat.min_self]
       refine rG (by simp[uZ,rI]) (X1 s m _ Fr _ {f with At:=k} i _ v rI rfl hFk dN (by omega) ⟨hB.1,by show f.bO<=_;omega⟩) ?_;rw[<-aoK h,xL]
    rw[if_neg rI]at h;by_cases pH:i.Op=26
    ·rw[if_pos pH]at h;by_cases aw:32<=m.Frames.length
     ·rw[if_pos aw]at h;split at h
      ·rename_i yT;obtain⟨g1,g2⟩:=Un hs yT;exact rG (by simp[uZ,pH]) (X2 s m _ _ i pH aw) (aoK h)
      ·cases h
     ·rw[if_neg aw]at h;obtain⟨r,e,N,S,a,hc,he⟩:=Sn hs hB aw h;refine rG (by simp[uZ,pH]) (X3 s m _ _ i r e N S a pH hc.hA hc.hf hc.he hc.hn hc.hN hc.hp hc.hS (by show m.Stack.length<=_;omega) hc.fM hFk) ?_;rw[he,xN a N hc.ha]
    rw[if_neg pH]at h;exact aaJ ⟨hs.hT,hs.dc,hj.hE,p9,hd,hj.fM,by omega,hW,hB,by omega,⟨hF0.1,by omega⟩,KJ⟩ h
   ·rw[if_pos he]at h;cases h
  ·cases h
 ·cases h
def HZ(F:Int):Int:=min F 1000
theorem Us{w w':aj}(h:gh w w')(hs:vv w):vv w':=by
 unfold gh at h;unfold vv at *;omega
theorem Jv.short{c:XC}{w0:aj}{n:Nat}{m:ah}(h:Jv c w0 n m)(hn:n<=10000)(hs:vv w0):X4 m:=
 ⟨by have:=h.hS;omega,by have:=h.fM;omega,λf hf=>by have:=h.hL f hf;omega,Us h.hw hs⟩
theorem X5{t:ar}{w:aj}(hf:eJ t=true)(Ao:ig t w):vv w:=by
 have hdm:=jW hf;have k1:=Ao.hC;have k2:=Ao.hN;have k3:=Ao.hT;have k4:=Ao.hF;have k5:=Ao.hP;have k6:=Ao.hG;have k7:=Ao.hD;have k8:=Ao.hn;have k9:=Ao.hp;have rH:t.az.length *t.aJ.length<=128 *16:=aq3 k8.2 k9;unfold vv;omega
theorem Ut{c:XC}{s:al}{w0:aj}{m0:ah}(dc:eJ c.B.Tables=true)(NA:s.Entry.length=c.B.Tables.Params.length)(k1:∀i,∃mi,iterM (bS c) s i m0=some mi)(k2:Jv c w0 0 m0):
  ∃Ms:Nat->ah,Ms 0=m0/\∀i,Jv c w0 i (Ms i)/\iM (bS c) s (Ms i)=some (Ms (i+1)):=by
 generalize hK:bS c=K at k1;obtain⟨Ms,C1⟩:=aq4 k1;refine⟨Ms,?_,λi=>⟨?_,?_⟩⟩
 ·have:=C1 0;rw[iterM]at this;exact(aoK this).symm
 ·have hi:=C1 i;rw[<-hK]at hi;have:=Sj dc NA i 0 m0 (Ms i) k2 hi;rw[apz]at this;exact this
 ·have hi:=C1 i;have hj:=C1 (i+1);rw[vw,hi]at hj;simp only[ap7]at hj;rw[iterM]at hj;cases h:iM K s (Ms i)with
  | none=>rw[h]at hj;cases hj
  | some x=>rw[h]at hj;simp only[ap7,iterM]at hj;exact hj
theorem X6{b:bW}{s:al}{w:aj}(hs:gA b=(s,0))(hw:cK b.Tables w=true)(So:0≤w.cO∧w.cO < 18446744073709551616)(r:Int)(a:List Int)(env:dy)(M:Int)(hM:M≤1000000):
  ∃Ms:Nat->ah,Ms 0=tq s w r a env/\∀i,Jv ⟨b,env,M⟩ w i (Ms i)/\iM (bS ⟨b,env,M⟩) s (Ms i)=some (Ms (i+1)):=by
 obtain⟨yV,hT,hE,-,-⟩:=A2 hs;have hB:=CV yV;obtain⟨-,oh,-⟩:=oi hB.fits;have NA:s.Entry.length=b.Tables.Params.length:=by rw[hE];exact hB.len
 have key:(∀i,∃mi,iterM (bS ⟨b,env,M⟩) s i (tq s w r a env)=some mi)/\Jv ⟨b,env,M⟩ w 0 (tq s w r a env):=by
  unfold tq;split
  ·exact⟨λi=>⟨_,wA rfl i⟩,⟨rfl,by simp,by simp,by intro n hn;simp at hn,by simp,⟨apD _,apD _⟩,fS w⟩⟩
  ·rename_i hr;split
   ·exact⟨λi=>⟨_,wA rfl i⟩,⟨rfl,by simp,by simp,by intro n hn;simp at hn,by simp,⟨apD _,apD _⟩,fS w⟩⟩
   ·rename_i nu;rw[hT]at hr nu;have cq:0<=r/\r<b.Tables.Params.length:=by omega
    have fw:=oh r cq.1 cq.2;have aiw:(a.length:Int)<=aA b.Tables.aM r:=by omega
    have hle:a.length<=(aA s.Tables.aM r).toNat:=by rw[hT];omega
    rw[xN a _ hle];constructor
    ·obtain⟨g,σ',o,hc,-⟩:=adF (c:=⟨b,env,M⟩) hB hM (lk.2 ⟨hw,So⟩) (r:=r) (a:=a) (by show 0<=r/\r<(b.aK.length:Int);have:=hB.len;omega) aiw;obtain⟨n,m',h1,h2⟩:=NS hs hc (by show 0<=r/\r<(b.aK.length:Int);have:=hB.len;omega);have hd:m'.gB=true:=by
      cases o with
      | bN v=>unfold acM at h2;rw[h2]
      | bG e=>exact h2.1
      | over=>exact h2.1
      | ret n=>exact h2.elim
     intro i;have:=Uu h1 hd i;unfold acN gL at this;rw[hT];exact this
    ·refine⟨rfl,by simp,by simp,by intro n hn;simp at hn,?_,⟨apD _,apD _⟩,fS w⟩;intro f hf;simp at hf;rw[hf];simp only[aoS,ao8,List.length_replicate];rw[hT];omega
 obtain⟨k1,k2⟩:=key;exact Ut (c:=⟨b,env,M⟩) hB.fits NA k1 k2
set_option maxHeartbeats 8000000
set_option maxRecDepth 40000
theorem A3(b:bW)(w:aj)(c:qL)(s:al)(ok:Bool)(bQ:Pure prog 9 [.agg (b.enc.map .d),.agg (w.enc.map .d)] (.bA [.agg (s.enc.map .d),oD ok]))(h:ok=false∨20 < c.aF.length∨300 < c.Steps):
  Pure prog 3 [.agg (b.enc.map .d),.agg (w.enc.map .d),.agg (c.enc.map .d)] (oD true):=by
 have Sp:=H0;cases ok with
 | false=>
   refine rn func3 ?_;simp[-cB,Tryz.f3];intro bs;refine pC bQ ?_;simp[-cB];intro bL;refine pC Sp ?_;simp[-cB]
 | true=>
   by_cases yS:20<c.aF.length
   ·have JE:(20:Int)<c.aF.length:=by omega
    refine rn func3 ?_;simp[-cB,Tryz.f3];intro bs;refine pC bQ ?_;simp[-cB,JE];intro bL;refine pC Sp ?_;simp[-cB]
   ·have JE:¬(20:Int)<c.aF.length:=by omega
    have Uv:300<c.Steps:=by simpa[yS]using h
    refine rn func3 ?_;simp[-cB,Tryz.f3];intro bs;refine pC bQ ?_;simp[-cB,JE,Uv];intro bL;refine pC Sp ?_;simp[-cB]
theorem NT(b:bW)(w:aj)(c:qL)(s:al)(Ms:Nat→ah)(bQ:Pure prog 9 [.agg (b.enc.map .d),.agg (w.enc.map .d)] (.bA [.agg (s.enc.map .d),oD true]))(yS:c.aF.length≤20)(Uv:c.Steps≤300)
  (C2:Pure prog 11 [.agg (s.enc.map .d),.agg (w.enc.map .d),iD c.kv,.d (.sl (aC c.aF)),.agg (c.Env.enc.map .d)] (.agg ((Ms 0).enc.map .d)))
  (vy:Pure prog 12 [.agg (s.enc.map .d),.agg (w.enc.map .d),iD c.kv,.d (.sl (aC c.aF)),.agg (c.Env.enc.map .d)] (.agg ((Ms 0).enc.map .d)))
  (hp:∀i,i<=300->Pure prog 13 [.agg (s.enc.map .d),.agg ((Ms i).enc.map .d),iD c.Fuel] (.agg ((Ms (i+1)).enc.map .d)))
  (hr:∀i,i<=300->Pure prog 14 [.agg (s.enc.map .d),.agg ((Ms i).enc.map .d),iD c.Fuel] (.agg ((Ms (i+1)).enc.map .d)))
  (hsm:∀i,i<=300->Pure prog 15 [.agg ((Ms i).enc.map .d),.agg ((Ms i).enc.map .d)] (oD true))
  (KT:∀i,i<=300->(Ms i).gB=true->Pure prog 13 [.agg (s.enc.map .d),.agg ((Ms i).enc.map .d),iD c.Fuel] (.agg ((Ms i).enc.map .d))):
  Pure prog 3 [.agg (b.enc.map .d),.agg (w.enc.map .d),.agg (c.enc.map .d)] (oD true):=by
 have Sp:=H0;have JE:¬(20:Int)<c.aF.length:=by omega
 have acO:¬300<c.Steps:=by omega
 have k1:∀L,kJ prog 11 [.agg (s.enc.map .d),.agg (w.enc.map .d),iD c.kv,.d (.sl (aC c.aF)),.agg (c.Env.enc.map .d)] L (.agg ((Ms 0).enc.map .d)):=C2.ok;have k2:∀L,kJ prog 12 [.agg (s.enc.map .d),.agg (w.enc.map .d),iD c.kv,.d (.sl (aC c.aF)),.agg (c.Env.enc.map .d)] L (.agg ((Ms 0).enc.map .d)):=vy.ok;obtain⟨M0,hM0⟩:∃M0,M0=(Ms 0).enc.map V.d:=⟨_,rfl⟩
 refine Pure.GI func3 rfl (by simp[Tryz.f3]) ?_;simp only[Tryz.f3];refine av.gE ?_;simp[-cB];intro bs;refine av.gE ?_;simp[-cB];refine pC bQ ?_;simp[-cB,JE,acO];intro bL;refine av.gE ?_;simp[-cB,JE,acO];refine av.merge ⟨[(5,.bp 5 0),(6,oD false),(7,.bp 7 0),(9,.bp 9 0),(10,.bp 10 0)],[(9,.box 0 50 M0),(10,.box 0 50 M0),
  (7,.box (bL 0+1) 41 (s.enc.map .d)),(5,.box (bs 2+1) 38 (c.enc.map .d))]⟩ ?_ ?_
 ·rw[hM0];refine av.ee aT (dM.Uw 18 19 (by decide) (dM.m0 [arc,arc,arc,arc,arc,arc,arc,arc,arc,arc,arc,arc,arc,arc,arc,arc,arc,arc,none,none,none,none] [.agg ((Ms 0).enc.map .d),.agg ((Ms 0).enc.map .d)] (by kernel_rfl) ?_) (dM.perm [0,1,2,3,4,5,6,7,8,9,10,11,12,13,14,15,16,17,19,18,20,21] [0,1,2,3,4,5,6,7,8,9,10,11,12,13,14,15,16,17,19,18,20,21] (by kernel_rfl) (by kernel_rfl) (dM.m0 [arc,arc,arc,arc,arc,arc,arc,arc,arc,arc,arc,arc,arc,arc,arc,arc,arc,arc,none,none,none,none] [.agg ((Ms 0).enc.map .d),.agg ((Ms 0).enc.map .d)] (by kernel_rfl) ?_)))
  all_goals
   simp[-cB,k1,k2];intro KU;refine(Wk.tt [9,10]).trans (Wk.pick [5,6,7,9,10] [9,10,7,5] (by rfl) (by decide) (by simp[St.pick,St.tt,St.on,V.on,V.dE,aV.tt]))
 ·intro jX;refine av.ur ?_;simp[-cB];refine av.cI [5,7,9,10,11] c.Steps.toNat (λi=> [(11,iD i)]) (λi=> [(9,.box (jX 9+1) 50 ((Ms i).enc.map .d)),(10,.box (jX 10+1) 50 ((Ms i).enc.map .d))]) (λ_=>True) (by rfl) (by simp[hM0]) ?_;intro i hi _;rcases aoR hi with aw|heq
  ·have dj:(i:Int)<c.Steps:=by omega
   have bU:aN .i64 ((i:Int)+1):=by rw[aS];omega
   have j1:∀L,kJ prog 13 [.agg (s.enc.map .d),.agg ((Ms i).enc.map .d),iD c.Fuel] L (.agg ((Ms (i+1)).enc.map .d)):=(hp i (by omega)).ok;have j2:∀L,kJ prog 14 [.agg (s.enc.map .d),.agg ((Ms i).enc.map .d),iD c.Fuel] L (.agg ((Ms (i+1)).enc.map .d)):=(hr i (by omega)).ok;have j3:=hsm (i+1) (by omega);have j4:=KT (i+1) (by omega);simp[-cB,dj];refine av.aU [Q0,Q0,Q0,Q0,Q0,Q0,Q0,Q0,Q0,Q0,none,none] [.agg ((Ms (i+1)).enc.map .d),.agg ((Ms (i+1)).enc.map .d)] aT (by kernel_rfl) ?_;simp[-cB,j1,j2];refine pC j3 ?_;simp[-cB];cases hd:(Ms (i+1)).gB with
   | false=>
     simp[hd,bU,aw]
   | true=>
     have j5:=j4 hd;simp[-cB];refine av.bT [.agg ((Ms (i+1)).enc.map .d),oD true,oD true] aT (by kernel_rfl) (by rfl) ?_;simp[-cB];exact⟨j5.ok _,j3.ok _,Sp.ok _⟩
  ·have dj:¬(i:Int)<c.Steps:=by omega
   simp[-cB,dj];refine pC Sp ?_;simp[-cB]
set_option maxHeartbeats 200000
set_option maxRecDepth 20000
theorem NU{x:List D}:∀{L:List (List D)},x∈L->iH x<=mf L
 | [],h=>by cases h
 | y::L,h=>by
   rw[mf];rcases ao0.1 h with rfl|h
   ·omega
   ·have:=NU h;omega
theorem Sq{x:D}:∀{L:List D},x∈L->bD x<=iH L
 | [],h=>by cases h
 | y::L,h=>by
   rw[iH];rcases ao0.1 h with rfl|h
   ·omega
   ·have:=Sq h;omega
theorem Rn{L:List (List an)}{E:List D}(h2:D.sl (pI (List.map an.enc) L)∈E){r:List (List D)}(hB:mf (E::r)<=1048576):∀l∈L,hZ l<=30000000:=by
 intro l hl;have h1:iH E<=1048576:=by rw[mf]at hB;omega
 have h3:=Sq h2;rw[bD]at h3;have h4:[D.sl (l.map an.enc)]∈pI (List.map an.enc) L:=aoQ.2 ⟨l,hl,rfl⟩;have h5:=NU h4;simp only[iH,bD]at h5;have h6:=aaP _ l (ao2 _);omega
theorem JF{b:bW}{r:List (List D)}(hB:mf (b.enc::r)<=1048576):∀l∈b.aK,hZ l<=30000000:=Rn (by simp[bW.enc]) hB
set_option maxHeartbeats 4000000
theorem X7{b:bW}{w:aj}{s:al}(hw:w.wf)(hs:gA b=(s,0))(Sr:cK b.Tables w=true):
  eJ b.Tables=true/\ig b.Tables w/\
   ∀r a env,Pure prog 11 [.agg (s.enc.map .d),.agg (w.enc.map .d),iD r,.d (.sl (aC a)),.agg (env.enc.map .d)] (.agg ((tq s w r a env).enc.map .d))/\
    Pure prog 12 [.agg (s.enc.map .d),.agg (w.enc.map .d),iD r,.d (.sl (aC a)),.agg (env.enc.map .d)] (.agg ((tq s w r a env).enc.map .d)):=by
 obtain⟨yV,hT,hE⟩:=Ux hs;have vy:=yV;unfold eB at vy;simp only[aoM,decide_eq_true_eq]at vy;have hf:=vy.1.1;have hRl:=vy.1.2;have hdm:=jW hf;obtain⟨-,oh,-⟩:=oi hf;have Ao:=ig.of hf Sr (acP hw);have l1:s.Entry.length=s.Tables.Params.length:=by rw[hT,hE];exact hRl
 have l2:s.Tables.aM.length=s.Tables.Params.length:=by rw[hT];omega
 have l3:∀n∈s.Tables.aM,0<=n/\n<=1000000:=by
  intro n hn;rw[hT]at hn;obtain⟨k,hk,X8⟩:=aqe hn;have:=oh k (by omega) (by omega);have hg:aA b.Tables.aM k=n:=by unfold aA;rw[aq6,akC hk,X8];rfl
  rw[hg]at this;omega
 refine⟨hf,Ao,λr a env=>⟨?_,Uy s w r a env l1 l2 l3⟩⟩;refine A4 s w r a env l1 l2 l3 ?_;intro r e n he hn yW ha;have hle:a.length<=n:=by
  obtain⟨hk,X8⟩:=aoL.1 hn;have h1:=oh r (by omega) (by rw[hT]at l2 hk;omega);have hg:aA s.Tables.aM r=n:=by unfold aA;rw[aq6,hn];rfl
  rw[hT]at hg ha;omega
 have:=wB s r e n he hn yW a hle 0;rw[xN _ _ hle];exact this
theorem aaQ{b:bW}{w:aj}(hb:b.wf)(hw:w.wf)(hz:∀l∈b.aK,hZ l≤30000000)(aO:(jC b w).2=true):
  ∃s,gA b=(s,0)/\Pure prog 9 [.agg (b.enc.map .d),.agg (w.enc.map .d)] (.bA [.agg (s.enc.map .d),oD true])/\eJ b.Tables=true/\cK b.Tables w=true/\ig b.Tables w/\
   ∀r a env,Pure prog 11 [.agg (s.enc.map .d),.agg (w.enc.map .d),iD r,.d (.sl (aC a)),.agg (env.enc.map .d)] (.agg ((tq s w r a env).enc.map .d))/\
    Pure prog 12 [.agg (s.enc.map .d),.agg (w.enc.map .d),iD r,.d (.sl (aC a)),.agg (env.enc.map .d)] (.agg ((tq s w r a env).enc.map .d)):=by
 have bQ:=KV b w hb hw hz;obtain⟨s,hs⟩:∃s,gA b=(s,0):=by
  unfold jC at aO;split at aO
  ·exact⟨(gA b).1,Prod.ext rfl (by simpa using aO)⟩
  ·cases aO
 have Uz:KW b w=true:=by
  unfold jC at aO;split at aO
  ·assumption
  ·cases aO
 have Sr:cK b.Tables w=true:=by
  unfold KW at Uz;simp only[aoM]at Uz;exact Uz.2
 have e1:(jC b w).1=s:=by unfold jC;rw[if_pos Uz,hs]
 rw[aO,e1]at bQ;obtain⟨h1,h2,h3⟩:=X7 hw hs Sr;exact⟨s,hs,bQ,h1,Sr,h2,h3⟩
theorem UA(b:bW)(w:aj)(c:qL)(hb:b.wf)(hw:w.wf)(hz:∀l∈b.aK,hZ l<=30000000):Pure prog 3 [.agg (b.enc.map .d),.agg (w.enc.map .d),.agg (c.enc.map .d)] (oD true):=by
 cases aO:(jC b w).2 with
 | false=>
   have bQ:=KV b w hb hw hz;rw[aO]at bQ;exact A3 b w c _ false bQ (.inl rfl)
 | true=>
   obtain⟨s,hs,bQ,hf,Sr,Ao,aix⟩:=aaQ hb hw hz aO;by_cases yS:20<c.aF.length
   ·exact A3 b w c s true bQ (.inr (.inl yS))
   by_cases Uv:300<c.Steps
   ·exact A3 b w c s true bQ (.inr (.inr Uv))
   obtain⟨Ms,hM0,C1⟩:=X6 hs Sr (acP hw) c.kv c.aF c.Env (HZ c.Fuel) (by unfold HZ;omega);have p7:=aeW c.Env (HZ c.Fuel) hs;have hF:∀i,i<=300->(c.Fuel<(Ms i).Told.Fuel+1↔HZ c.Fuel<(Ms i).Told.Fuel+1):=by
    intro i hi;have:=(C1 i).1.hF;unfold HZ;omega
   have hg:=aix c.kv c.aF c.Env;rw[<-hM0]at hg;exact NT b w c s Ms bQ (by omega) (by omega) hg.1 hg.2
    (λi hi=>XB p7 (C1 i).1 (by omega) (hF i hi) (C1 i).2)
    (λi hi=>aaN p7 (C1 i).1 (by omega) (hF i hi) (C1 i).2)
    (λi hi=>UB _ ((C1 i).1.short (by omega) (X5 hf Ao)))
    (λi hi hd=>GF s (Ms i) c.Fuel hd)
theorem UC(b:bW)(hb:b.wf)(w:aj)(hw:w.wf)(c:qL)(hB:mf [b.enc,w.enc,c.enc]<=1048576):Pure prog 3 [.agg (b.enc.map .d),.agg (w.enc.map .d),.agg (c.enc.map .d)] (oD true):=UA b w c hb hw (JF hB)
end Go.Ab

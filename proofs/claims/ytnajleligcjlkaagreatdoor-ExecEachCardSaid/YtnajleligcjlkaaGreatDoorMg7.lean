/-
  The texts Bfits4 Bfits5 Bright2 Battr Xmod Nest4 Bok Xval Xval2 Xexpr Xcall Xstmt Xsay Xsay2 Xdo Xloop Xtold Xrun Xea, one behind the other.
-/
import Derived.Test.YtnajleligcjlkaaGreatDoorMg6
set_option linter.unusedSimpArgs false
set_option linter.unusedVariables false
namespace Go.Ab
open Go.Proofs
def paramB (t : GTables) (i : Nat) : Bool := fromB (t.Params[i]?.getD 0) 0 8 && fromB (t.Locals[i]?.getD 0) (t.Params[i]?.getD 0) 24
def headB (t : GTables) : Bool :=
  decide (t.Texts.length ≤ 4096) && textB t t.Title false && textB t t.By false && fromB t.Release 0 32767 && fromB t.Max 0 32767 && fromB t.Flags 4 16 &&
  (decide (t.Props.length ≤ 16) && decide (t.Globals.length ≤ 64) && allB int16 t.Props && allB int16 t.Globals && decide (t.Params.length = t.Locals.length) && decide (t.Params.length ≤ 2048)) &&
  allB isTextB t.Texts && allB (paramB t) (List.range t.Params.length)
set_option maxRecDepth 20000 in
theorem refHead_ok (t : GTables) (ht : t.wf) : Pure Tryz.prog 24 [.agg (t.enc.map .d)] (.d (.v (.bool (headB t)))) := by
  have hx1 := GTables.wl_Texts ht
  have hx2 := GTables.wl_Props ht
  have hx3 := GTables.wl_Globals ht
  have hx4 := GTables.wl_Params ht
  have hx5 := GTables.wl_Locals ht
  have hx6 := GTables.wf_Texts ht
  unfold headB
  refine Pure.run Tryz.func24 rfl (by simp [Tryz.f24]) ?_; simp [-cB, Tryz.f24]
  repeat' (first
    | (with_reducible refine And.intro ?_ ?_)
    | (refine condC_split (fun h => ?_) (fun h => ?_) <;> (try simp at h) <;> (try simp [-cB, *]))
    | (refine AOps.pureC rfl (refText_ok t ht _ _) rfl rfl (by simp) rfl ?_ <;> (try simp [-cB, *]))
    | (refine AOps.pureC rfl (refFrom_ok _ _ _) rfl rfl (by simp) rfl ?_ <;> (try simp [-cB, *]))
    | (refine AOps.pureC rfl (refValues_ok t.Props (by omega)) rfl rfl (by simp) rfl ?_ <;> (try simp [-cB, *]))
    | (refine AOps.pureC rfl (refValues_ok t.Globals (by omega)) rfl rfl (by simp) rfl ?_ <;> (try simp [-cB, *]))
    | (refine AOps.lendC rfl (refText_ok t ht _ _) rfl (by simp) rfl rfl (by simp) rfl ?_ <;> (try simp [-cB, *]))
    | (refine AOps.lendC rfl (refFrom_ok _ _ _) rfl (by simp) rfl rfl (by simp) rfl ?_ <;> (try simp [-cB, *]))
    | (refine AOps.lendC rfl (refValues_ok t.Props (by omega)) rfl (by simp) rfl rfl (by simp) rfl ?_ <;> (try simp [-cB, *]))
    | (refine AOps.lendC rfl (refValues_ok t.Globals (by omega)) rfl (by simp) rfl rfl (by simp) rfl ?_ <;> (try simp [-cB, *]))
    | (refine AOps.pureG rfl (fun h => refText_ok t ht _ _) rfl (by first | rfl | (simp; rfl)) (by simp) (by simp) rfl ?_ <;> (try simp [-cB, *]))
    | (refine AOps.pureG rfl (fun h => refFrom_ok _ _ _) rfl (by first | rfl | (simp; rfl)) (by simp) (by simp) rfl ?_ <;> (try simp [-cB, *]))
    | (refine AOps.pureG rfl (fun h => refValues_ok t.Props (by omega)) rfl (by first | rfl | (simp; rfl)) (by simp) (by simp) rfl ?_ <;> (try simp [-cB, *]))
    | (refine AOps.pureG rfl (fun h => refValues_ok t.Globals (by omega)) rfl (by first | rfl | (simp; rfl)) (by simp) (by simp) rfl ?_ <;> (try simp [-cB, *]))
    | (with_reducible intro _))
  all_goals (first | assumption | omega | (rw [inR_i64]; omega) | (simp_all; done) | grind | skip)
  have e1 : t.Texts.length ≤ 4096 := by omega
  have e2 : t.Props.length ≤ 16 := by omega
  have e3 : t.Globals.length ≤ 64 := by omega
  have e4 : t.Params.length = t.Locals.length := by omega
  have e5 : t.Params.length ≤ 2048 := by omega
  refine AWP.loopL [1, 3] t.Texts (fun pre => [(3, .d (.v (.int .i64 pre.length)))]) (fun _ => []) (fun pre => allB isTextB pre = true) (by rfl) (by omega) (by simp [allB_nil]) ?_ ?_
  · rintro pre x post hsp hH hlt hge a4
    have hall := allB_split hsp hH
    have hsn : allB isTextB (pre ++ [x]) = isTextB x := by simp [allB_snoc, hH]
    have hT := refIsText_ok x (by have := hx6 x (by rw [hsp]; simp); omega)
    clear hsp hx6
    simp [-cB, hlt, hge, hall, a4]
    repeat' (first
      | (with_reducible refine And.intro ?_ ?_)
      | (refine condC_split (fun h => ?_) (fun h => ?_) <;> (try simp at h) <;> (try simp [-cB, *]))
      | (refine AOps.pureC rfl (hT) rfl rfl (by simp) rfl ?_ <;> (try simp [-cB, *]))
      | (refine AOps.lendC rfl (hT) rfl (by simp) rfl rfl (by simp) rfl ?_ <;> (try simp [-cB, *]))
      | (refine AOps.pureG rfl (fun h => hT) rfl (by first | rfl | (simp; rfl)) (by simp) (by simp) rfl ?_ <;> (try simp [-cB, *]))
      | (with_reducible intro _))
    all_goals (first | assumption | omega | (rw [inR_i64]; omega) | (simp_all; done) | grind | skip)
  · intro hH
    simp [-cB, hH]
    refine AWP.loopL [1, 4] (List.range t.Params.length) (fun pre => [(4, .d (.v (.int .i64 pre.length)))]) (fun _ => []) (fun pre => allB (paramB t) pre = true) (by rfl) (by simp; omega) (by simp [allB_nil]) ?_ ?_
    · rintro pre x post hsp hH2 hlt hge a4
      have hall := allB_split hsp hH2
      have hx : pre.length = x := by simpa using hge
      simp at hlt
      subst hx
      have hsn : allB (paramB t) (pre ++ [pre.length]) = paramB t pre.length := by rw [allB_snoc, hH2]; simp
      have hlt2 : pre.length < t.Locals.length := by omega
      have hpx : paramB t pre.length = (fromB t.Params[pre.length] 0 8 && fromB t.Locals[pre.length] t.Params[pre.length] 24) := by simp [paramB, hlt, hlt2]
      clear hsp hge
      simp [-cB, hlt, hlt2, hall]
      refine AWP.regionD [.d (.v (.bool (fromB (t.Params[pre.length]?.getD 0) 0 8))), .d (.v (.bool (fromB (t.Locals[pre.length]?.getD 0) (t.Params[pre.length]?.getD 0) 24)))] Tryz.mixed (by kernel_rfl) (by rfl) ?_
      simp [-cB, hlt, hlt2, (refFrom_ok _ _ _).ok]
      refine condC_split (fun h => ?_) (fun h => ?_)
      · simp [-cB]
        simp at h
        all_goals (first | assumption | omega | (rw [inR_i64]; omega) | (simp_all; done) | grind | skip)
      · simp [-cB]
        simp at h
        all_goals (first | assumption | omega | (rw [inR_i64]; omega) | (simp_all; done) | grind | skip)
    · intro hH2
      simp [-cB, hH2]
      all_goals (first | assumption | omega | (rw [inR_i64]; omega) | (simp_all; done) | grind | skip)
def slotB (s : GSlot) : Bool := fromB s.Kind 1 5 && !(decide (s.Kind = 1) && decide (s.Words.length = 0)) && !(decide (s.Kind ≠ 1) && decide (0 < s.Words.length)) && wordsB s.Words 4
def nounB (s : GSlot) : Bool := decide (s.Kind = 2) || decide (s.Kind = 3)
def lineB (l : List GSlot) : Bool :=
  allB slotB l && (fromB l.length 1 8 && (decide ((l[0]?.getD GSlot.zero).Kind = 1) || decide ((l[0]?.getD GSlot.zero).Kind = 5)) && decide ((l.countP nounB : Int) ≤ 2) && decide ((l.countP (fun s => decide (s.Kind = 4)) : Int) ≤ 1) && decide ((l.countP (fun s => decide (s.Kind = 5)) : Int) ≤ 1))
set_option maxRecDepth 20000 in
theorem refLine_ok (l : List GSlot) (hl : l.length ≤ 1000000000000000) (hw : ∀ x ∈ l, x.wf) : Pure Tryz.prog 74 [.d (.sl (l.map GSlot.enc))] (.d (.v (.bool (lineB l)))) := by
  unfold lineB
  refine Pure.run Tryz.func74 rfl (by simp [Tryz.f74]) ?_; simp [-cB, Tryz.f74]
  refine AWP.loopL [0, 3, 4, 5, 6] l (fun pre => [(3, .d (.v (.int .i64 (pre.countP nounB)))), (4, .d (.v (.int .i64 (pre.countP (fun s => decide (s.Kind = 4)))))), (5, .d (.v (.int .i64 (pre.countP (fun s => decide (s.Kind = 5)))))), (6, .d (.v (.int .i64 pre.length)))]) (fun _ => []) (fun pre => allB slotB pre = true) (by rfl) (by omega) (by simp [allB_nil]) ?_ ?_
  · rintro pre x post hsp hH hlt hge a4
    have hall := allB_split hsp hH
    have hsn : allB slotB (pre ++ [x]) = slotB x := by simp [allB_snoc, hH]
    have hxw := hw x (by rw [hsp]; simp)
    have c1 := List.countP_le_length (p := nounB) (l := pre)
    have c2 := List.countP_le_length (p := fun s : GSlot => decide (s.Kind = 4)) (l := pre)
    have c3 := List.countP_le_length (p := fun s : GSlot => decide (s.Kind = 5)) (l := pre)
    have hn1 : (pre ++ [x]).countP nounB = pre.countP nounB + (if nounB x then 1 else 0) := by rw [List.countP_append]; simp [List.countP_cons]
    have hn2 : (pre ++ [x]).countP (fun s : GSlot => decide (s.Kind = 4)) = pre.countP (fun s : GSlot => decide (s.Kind = 4)) + (if x.Kind = 4 then 1 else 0) := by rw [List.countP_append]; simp [List.countP_cons]
    have hn3 : (pre ++ [x]).countP (fun s : GSlot => decide (s.Kind = 5)) = pre.countP (fun s : GSlot => decide (s.Kind = 5)) + (if x.Kind = 5 then 1 else 0) := by rw [List.countP_append]; simp [List.countP_cons]
    have hW := refWords_ok x.Words (by have := GSlot.wl_Words hxw; omega) (fun y hy => by have := GSlot.wf_Words hxw y hy; omega) 4
    have hsx : slotB x = (fromB x.Kind 1 5 && !(decide (x.Kind = 1) && decide (x.Words.length = 0)) && !(decide (x.Kind ≠ 1) && decide (0 < x.Words.length)) && wordsB x.Words 4) := rfl
    have hnx : nounB x = (decide (x.Kind = 2) || decide (x.Kind = 3)) := rfl
    generalize hk1 : pre.countP nounB = k1 at *
    generalize hk2 : pre.countP (fun s : GSlot => decide (s.Kind = 4)) = k2 at *
    generalize hk3 : pre.countP (fun s : GSlot => decide (s.Kind = 5)) = k3 at *
    clear hsp hw hk1 hk2 hk3
    simp [-cB, hlt, hge, hall, a4]
    repeat' (first
      | (with_reducible refine And.intro ?_ ?_)
      | (refine condC_split (fun h => ?_) (fun h => ?_) <;> (try simp at h) <;> (try simp [-cB, *]))
      | (refine AOps.pureC rfl (refFrom_ok _ _ _) rfl rfl (by simp) rfl ?_ <;> (try simp [-cB, *]))
      | (refine AOps.pureC rfl (hW) rfl rfl (by simp) rfl ?_ <;> (try simp [-cB, *]))
      | (refine AOps.lendC rfl (refFrom_ok _ _ _) rfl (by simp) rfl rfl (by simp) rfl ?_ <;> (try simp [-cB, *]))
      | (refine AOps.lendC rfl (hW) rfl (by simp) rfl rfl (by simp) rfl ?_ <;> (try simp [-cB, *]))
      | (refine AOps.pureG rfl (fun h => refFrom_ok _ _ _) rfl (by first | rfl | (simp; rfl)) (by simp) (by simp) rfl ?_ <;> (try simp [-cB, *]))
      | (refine AOps.pureG rfl (fun h => hW) rfl (by first | rfl | (simp; rfl)) (by simp) (by simp) rfl ?_ <;> (try simp [-cB, *]))
      | (with_reducible intro _))
    all_goals (first | assumption | omega | (rw [inR_i64]; omega) | (simp_all; done) | grind | skip)
  · intro hH
    have hF : fromB l.length 1 8 = true → 0 < l.length := by rw [fromB_iff]; omega
    simp [-cB, hH]
    repeat' (first
      | (with_reducible refine And.intro ?_ ?_)
      | (refine condC_split (fun h => ?_) (fun h => ?_) <;> (try simp at h) <;> (try simp [-cB, *]))
      | (refine AOps.pureC rfl (refFrom_ok _ _ _) rfl rfl (by simp) rfl ?_ <;> (try simp [-cB, *]))
      | (refine AOps.lendC rfl (refFrom_ok _ _ _) rfl (by simp) rfl rfl (by simp) rfl ?_ <;> (try simp [-cB, *]))
      | (refine AOps.pureG rfl (fun h => refFrom_ok _ _ _) rfl (by first | rfl | (simp; rfl)) (by simp) (by simp) rfl ?_ <;> (try simp [-cB, *]))
      | (with_reducible intro _))
    all_goals first | assumption | exact hF (by assumption)
end Go.Ab

namespace Go.Ab
open Go.Proofs
def actB (a : GAct) : Bool := fromB a.Lines.length 1 8 && allB lineB a.Lines
def deedB (t : GTables) (d : GDeed) : Bool :=
  fromB d.Verb 0 (t.Acts.length - 1) && fromB d.Phase 1 3 && (decide (d.Noun = -1) || thingB t d.Noun) && (decide (d.Second = -1) || thingB t d.Second) && routB t d.When true && routB t d.Body false
def rulesB (t : GTables) : Bool :=
  (decide (t.Acts.length ≤ 64) && decide (t.Deeds.length ≤ 512) && decide (t.Funcs.length ≤ 64) && decide (t.Daemons.length ≤ 16)) &&
  (allB actB t.Acts && (allB (deedB t) t.Deeds && (allB (fun n => fromB n 0 (t.Params.length - 1)) t.Funcs && allB (fun n => routB t n false) t.Daemons)))
set_option maxHeartbeats 1000000 in
set_option maxRecDepth 20000 in
theorem refRules_ok (t : GTables) (ht : t.wf) : Pure Tryz.prog 26 [.agg (t.enc.map .d)] (.d (.v (.bool (rulesB t)))) := by
  have hx1 := GTables.wl_Acts ht
  have hx2 := GTables.wl_Deeds ht
  have hx3 := GTables.wl_Funcs ht
  have hx4 := GTables.wl_Daemons ht
  have hx5 := GTables.wl_Params ht
  have hx6 := GTables.wf_Acts ht
  have hx7 := GTables.wf_Deeds ht
  unfold rulesB
  refine Pure.run Tryz.func26 rfl (by simp [Tryz.f26]) ?_; simp [-cB, Tryz.f26]
  repeat' (first
    | (with_reducible refine And.intro ?_ ?_)
    | (refine condC_split (fun h => ?_) (fun h => ?_) <;> (try simp at h) <;> (try simp [-cB, *]))
    | (refine AOps.pureC rfl (refText_ok t ht _ _) rfl rfl (by simp) rfl ?_ <;> (try simp [-cB, *]))
    | (refine AOps.lendC rfl (refText_ok t ht _ _) rfl (by simp) rfl rfl (by simp) rfl ?_ <;> (try simp [-cB, *]))
    | (refine AOps.pureG rfl (fun h => refText_ok t ht _ _) rfl (by first | rfl | (simp; rfl)) (by simp) (by simp) rfl ?_ <;> (try simp [-cB, *]))
    | (with_reducible intro _))
  all_goals (first | assumption | omega | (rw [inR_i64]; omega) | (simp_all; done) | grind | skip)
  have e1 : t.Acts.length ≤ 64 := by omega
  have e2 : t.Deeds.length ≤ 512 := by omega
  have e3 : t.Funcs.length ≤ 64 := by omega
  have e4 : t.Daemons.length ≤ 16 := by omega
  refine AWP.loopL [1, 3] t.Acts (fun pre => [(3, .d (.v (.int .i64 pre.length)))]) (fun _ => []) (fun pre => allB actB pre = true) (by rfl) (by omega) (by simp [allB_nil]) ?_ ?_
  · rintro pre x post hsp hH hlt hge a4
    have hall := allB_split hsp hH
    have hsn : allB actB (pre ++ [x]) = actB x := by simp [allB_snoc, hH]
    have hxw := hx6 x (by rw [hsp]; simp)
    have hax : actB x = (fromB x.Lines.length 1 8 && allB lineB x.Lines) := rfl
    clear hsp hx6 hx7
    simp [-cB, hlt, hge, hall, a4]
    repeat' (first
      | (with_reducible refine And.intro ?_ ?_)
      | (refine condC_split (fun h => ?_) (fun h => ?_) <;> (try simp at h) <;> (try simp [-cB, *]))
      | (refine AOps.pureC rfl (refFrom_ok _ _ _) rfl rfl (by simp) rfl ?_ <;> (try simp [-cB, *]))
      | (refine AOps.lendC rfl (refFrom_ok _ _ _) rfl (by simp) rfl rfl (by simp) rfl ?_ <;> (try simp [-cB, *]))
      | (refine AOps.pureG rfl (fun h => refFrom_ok _ _ _) rfl (by first | rfl | (simp; rfl)) (by simp) (by simp) rfl ?_ <;> (try simp [-cB, *]))
      | (with_reducible intro _))
    all_goals (first | assumption | omega | (rw [inR_i64]; omega) | (simp_all; done) | grind | skip)
    refine AWP.loopL [1, 3, 4] x.Lines (fun pre => [(4, .d (.v (.int .i64 pre.length)))]) (fun _ => []) (fun pre => allB lineB pre = true) (by rfl) (by have := GAct.wl_Lines hxw; omega) (by simp [allB_nil]) ?_ ?_
    · rintro pre2 y post2 hsp hH2 hlt2 hge2 a5
      have hall2 := allB_split hsp hH2
      have hsn2 : allB lineB (pre2 ++ [y]) = lineB y := by simp [allB_snoc, hH2]
      have hyw := GAct.wf_Lines hxw y (by rw [hsp]; simp)
      have hL := refLine_ok y (by omega) hyw.2
      clear hsp
      simp [-cB, hlt, hge, hlt2, hge2, hall2, a4, a5]
      repeat' (first
        | (with_reducible refine And.intro ?_ ?_)
        | (refine condC_split (fun h => ?_) (fun h => ?_) <;> (try simp at h) <;> (try simp [-cB, *]))
        | (refine AOps.pureC rfl (hL) rfl rfl (by simp) rfl ?_ <;> (try simp [-cB, *]))
        | (refine AOps.lendC rfl (hL) rfl (by simp) rfl rfl (by simp) rfl ?_ <;> (try simp [-cB, *]))
        | (refine AOps.pureG rfl (fun h => hL) rfl (by first | rfl | (simp; rfl)) (by simp) (by simp) rfl ?_ <;> (try simp [-cB, *]))
        | (with_reducible intro _))
      all_goals (first | assumption | omega | (rw [inR_i64]; omega) | (simp_all; done) | grind | skip)
    · intro hH2
      simp [-cB, hlt, hge, hH2]
      repeat' (first
        | (with_reducible refine And.intro ?_ ?_)
        | (refine condC_split (fun h => ?_) (fun h => ?_) <;> (try simp at h) <;> (try simp [-cB, *]))
        | (refine AOps.pureC rfl (refFrom_ok _ _ _) rfl rfl (by simp) rfl ?_ <;> (try simp [-cB, *]))
        | (refine AOps.lendC rfl (refFrom_ok _ _ _) rfl (by simp) rfl rfl (by simp) rfl ?_ <;> (try simp [-cB, *]))
        | (refine AOps.pureG rfl (fun h => refFrom_ok _ _ _) rfl (by first | rfl | (simp; rfl)) (by simp) (by simp) rfl ?_ <;> (try simp [-cB, *]))
        | (with_reducible intro _))
      all_goals (first | assumption | omega | (rw [inR_i64]; omega) | (simp_all; done) | grind | skip)
  · intro hH
    simp [-cB, hH]
    refine AWP.loopL [1, 5] t.Deeds (fun pre => [(5, .d (.v (.int .i64 pre.length)))]) (fun _ => []) (fun pre => allB (deedB t) pre = true) (by rfl) (by omega) (by simp [allB_nil]) ?_ ?_
    · rintro pre x post hsp hH2 hlt hge a4
      have hall := allB_split hsp hH2
      have hsn : allB (deedB t) (pre ++ [x]) = deedB t x := by simp [allB_snoc, hH2]
      have hxw := hx7 x (by rw [hsp]; simp)
      have hdx : deedB t x = (fromB x.Verb 0 (t.Acts.length - 1) && fromB x.Phase 1 3 && (decide (x.Noun = -1) || thingB t x.Noun) && (decide (x.Second = -1) || thingB t x.Second) && routB t x.When true && routB t x.Body false) := rfl
      clear hsp hx6 hx7
      simp [-cB, hlt, hge, hall, a4]
      repeat' (first
        | (with_reducible refine And.intro ?_ ?_)
        | (refine condC_split (fun h => ?_) (fun h => ?_) <;> (try simp at h) <;> (try simp [-cB, *]))
        | (refine AOps.pureC rfl (refFrom_ok _ _ _) rfl rfl (by simp) rfl ?_ <;> (try simp [-cB, *]))
        | (refine AOps.pureC rfl (refThing_ok t ht _) rfl rfl (by simp) rfl ?_ <;> (try simp [-cB, *]))
        | (refine AOps.pureC rfl (refRoutine_ok t ht _ _) rfl rfl (by simp) rfl ?_ <;> (try simp [-cB, *]))
        | (refine AOps.lendC rfl (refFrom_ok _ _ _) rfl (by simp) rfl rfl (by simp) rfl ?_ <;> (try simp [-cB, *]))
        | (refine AOps.lendC rfl (refThing_ok t ht _) rfl (by simp) rfl rfl (by simp) rfl ?_ <;> (try simp [-cB, *]))
        | (refine AOps.lendC rfl (refRoutine_ok t ht _ _) rfl (by simp) rfl rfl (by simp) rfl ?_ <;> (try simp [-cB, *]))
        | (refine AOps.pureG rfl (fun h => refFrom_ok _ _ _) rfl (by first | rfl | (simp; rfl)) (by simp) (by simp) rfl ?_ <;> (try simp [-cB, *]))
        | (refine AOps.pureG rfl (fun h => refThing_ok t ht _) rfl (by first | rfl | (simp; rfl)) (by simp) (by simp) rfl ?_ <;> (try simp [-cB, *]))
        | (refine AOps.pureG rfl (fun h => refRoutine_ok t ht _ _) rfl (by first | rfl | (simp; rfl)) (by simp) (by simp) rfl ?_ <;> (try simp [-cB, *]))
        | (with_reducible intro _))
      all_goals (first | assumption | omega | (rw [inR_i64]; omega) | (simp_all; done) | grind | skip)
    · intro hH2
      simp [-cB, hH2]
      refine AWP.loopL [1, 7] t.Funcs (fun pre => [(7, .d (.v (.int .i64 pre.length)))]) (fun _ => []) (fun pre => allB (fun n => fromB n 0 (t.Params.length - 1)) pre = true) (by rfl) (by omega) (by simp [allB_nil]) ?_ ?_
      · rintro pre x post hsp hH3 hlt hge a4
        have hall := allB_split hsp hH3
        have hsn : allB (fun n => fromB n 0 (t.Params.length - 1)) (pre ++ [x]) = fromB x 0 (t.Params.length - 1) := by rw [allB_snoc, hH3]; simp
        clear hsp hx6 hx7
        simp [-cB, hlt, hge, hall, a4]
        refine AWP.regionD [.d (.v (.bool (fromB x 0 (t.Params.length - 1))))] Tryz.mixed (by kernel_rfl) (by rfl) ?_
        simp [-cB, hlt, hge, (refFrom_ok _ _ _).ok]
        refine ⟨by rw [inR_i64]; omega, ?_⟩
        repeat' (first
          | (with_reducible refine And.intro ?_ ?_)
          | (refine condC_split (fun h => ?_) (fun h => ?_) <;> (try simp at h) <;> (try simp [-cB, *]))
          | (refine AOps.pureC rfl (refFrom_ok _ _ _) rfl rfl (by simp) rfl ?_ <;> (try simp [-cB, *]))
          | (refine AOps.lendC rfl (refFrom_ok _ _ _) rfl (by simp) rfl rfl (by simp) rfl ?_ <;> (try simp [-cB, *]))
          | (refine AOps.pureG rfl (fun h => refFrom_ok _ _ _) rfl (by first | rfl | (simp; rfl)) (by simp) (by simp) rfl ?_ <;> (try simp [-cB, *]))
          | (with_reducible intro _))
        all_goals (first | assumption | omega | (rw [inR_i64]; omega) | (simp_all; done) | grind | skip)
      · intro hH3
        simp [-cB, hH3]
        refine AWP.loopL [1, 8] t.Daemons (fun pre => [(8, .d (.v (.int .i64 pre.length)))]) (fun _ => []) (fun pre => allB (fun n => routB t n false) pre = true) (by rfl) (by omega) (by simp [allB_nil]) ?_ ?_
        · rintro pre x post hsp hH4 hlt hge a4
          have hall := allB_split hsp hH4
          have hsn : allB (fun n => routB t n false) (pre ++ [x]) = routB t x false := by rw [allB_snoc, hH4]; simp
          clear hsp hx6 hx7
          simp [-cB, hlt, hge, hall, a4]
          refine AWP.regionD [.d (.v (.bool (routB t x false)))] Tryz.mixed (by kernel_rfl) (by rfl) ?_
          simp [-cB, hlt, hge, (refRoutine_ok t ht _ _).ok]
          repeat' (first
            | (with_reducible refine And.intro ?_ ?_)
            | (refine condC_split (fun h => ?_) (fun h => ?_) <;> (try simp at h) <;> (try simp [-cB, *]))
            | (refine AOps.pureC rfl (refFrom_ok _ _ _) rfl rfl (by simp) rfl ?_ <;> (try simp [-cB, *]))
            | (refine AOps.lendC rfl (refFrom_ok _ _ _) rfl (by simp) rfl rfl (by simp) rfl ?_ <;> (try simp [-cB, *]))
            | (refine AOps.pureG rfl (fun h => refFrom_ok _ _ _) rfl (by first | rfl | (simp; rfl)) (by simp) (by simp) rfl ?_ <;> (try simp [-cB, *]))
            | (with_reducible intro _))
          all_goals (first | assumption | omega | (rw [inR_i64]; omega) | (simp_all; done) | grind | skip)
        · intro hH4
          simp [hH4, e1, e2, e3, e4]
def fitsB (t : GTables) : Bool := headB t && thingsB t && rulesB t
theorem refFits_ok (t : GTables) (ht : t.wf) : Pure Tryz.prog 8 [.agg (t.enc.map .d)] (.d (.v (.bool (fitsB t)))) := by
  unfold fitsB
  refine Pure.run Tryz.func8 rfl (by simp [Tryz.f8]) ?_; simp [-cB, Tryz.f8]
  repeat' (first
    | (with_reducible refine And.intro ?_ ?_)
    | (refine condC_split (fun h => ?_) (fun h => ?_) <;> (try simp at h) <;> (try simp [-cB, *]))
    | (refine AOps.pureC rfl (refHead_ok t ht) rfl rfl (by simp) rfl ?_ <;> (try simp [-cB, *]))
    | (refine AOps.pureC rfl (refThings_ok t ht) rfl rfl (by simp) rfl ?_ <;> (try simp [-cB, *]))
    | (refine AOps.pureC rfl (refRules_ok t ht) rfl rfl (by simp) rfl ?_ <;> (try simp [-cB, *]))
    | (refine AOps.lendC rfl (refHead_ok t ht) rfl (by simp) rfl rfl (by simp) rfl ?_ <;> (try simp [-cB, *]))
    | (refine AOps.lendC rfl (refThings_ok t ht) rfl (by simp) rfl rfl (by simp) rfl ?_ <;> (try simp [-cB, *]))
    | (refine AOps.lendC rfl (refRules_ok t ht) rfl (by simp) rfl rfl (by simp) rfl ?_ <;> (try simp [-cB, *]))
    | (refine AOps.pureG rfl (fun h => refHead_ok t ht) rfl (by first | rfl | (simp; rfl)) (by simp) (by simp) rfl ?_ <;> (try simp [-cB, *]))
    | (refine AOps.pureG rfl (fun h => refThings_ok t ht) rfl (by first | rfl | (simp; rfl)) (by simp) (by simp) rfl ?_ <;> (try simp [-cB, *]))
    | (refine AOps.pureG rfl (fun h => refRules_ok t ht) rfl (by first | rfl | (simp; rfl)) (by simp) (by simp) rfl ?_ <;> (try simp [-cB, *]))
    | (with_reducible intro _))
  all_goals (first | assumption | omega | (rw [inR_i64]; omega) | (simp_all; done) | grind | skip)
end Go.Ab

namespace Go.Ab
open Go.Proofs
theorem refAll_ok (l : List Int) (hl : l.length ≤ 1000000000000000) (lo hi : Int) : Pure Tryz.prog 29 [.d (.sl (encI l)), .d (.v (.int .i64 lo)), .d (.v (.int .i64 hi))] (.d (.v (.bool (allB (fun x => fromB x lo hi) l)))) := by
  refine Pure.run Tryz.func29 rfl (by simp [Tryz.f29]) ?_; simp [-cB, Tryz.f29]
  refine AWP.loopL [0, 1, 2, 7] l (fun pre => [(7, .d (.v (.int .i64 pre.length)))]) (fun _ => []) (fun pre => allB (fun x => fromB x lo hi) pre = true) (by rfl) (by omega) (by simp [allB_nil]) ?_ ?_
  · rintro pre x post hsp hH hlt hge a4
    have hall := allB_split hsp hH
    have hsn := allB_snoc (fun x => fromB x lo hi) pre x
    rw [hH] at hsn
    clear hsp
    simp [-cB, hlt, hge]
    refine AOps.pureC rfl (refFrom_ok _ _ _) rfl rfl (by simp) rfl ?_
    simp [-cB]
    refine condC_split (fun h => ?_) (fun h => ?_) <;> simp at h <;> simp [-cB, h, hlt, hge, hall, hsn, a4]
  · intro hH
    simp [-cB, hH]
def placedM (t : GTables) (w : GWorld) : Bool := (List.range (t.Things.length - 1)).all (fun k => !((thingAt t (k + 1)).Room && decide (atI w.Parent (k + 1) ≠ 0))) && (thingAt t (topM w.tree 1)).Room
theorem topM_bd (t : Tree) (x : Int) (h : 0 < t.Par.length) : 0 ≤ topM t x ∧ topM t x < t.Par.length := by
  unfold topM
  cases hl : (upsM t x).getLast? with
  | none => simp [List.getLastD_eq_getLast?, hl]; omega
  | some y =>
    have := chainM_mem (List.mem_of_getLast? hl)
    simp [List.getLastD_eq_getLast?, hl]
    omega
theorem refPlaced_ok (t : GTables) (ht : t.wf) (w : GWorld) (hw : w.wf) (hlen : w.Parent.length = t.Things.length) (hpos : 0 < t.Things.length) : Pure Tryz.prog 33 [.agg (t.enc.map .d), .agg (w.enc.map .d)] (.d (.v (.bool (placedM t w)))) := by
  have hl := GWorld.wl_Parent hw
  have htop := (reftop_ok w hw 1).ok
  have hb := topM_bd w.tree 1 (by show 0 < w.Parent.length; omega)
  have e1 : w.tree.Par = w.Parent := rfl
  rw [e1] at hb
  unfold placedM
  generalize hres : ((List.range (t.Things.length - 1)).all (fun k => !((thingAt t (k + 1)).Room && decide (atI w.Parent (k + 1) ≠ 0)))) = res
  refine Pure.run Tryz.func33 rfl (by simp [Tryz.f33]) ?_; simp [-cB, Tryz.f33]
  intro bs
  refine AWP.loopS [2, 3, 5] (t.Things.length - 1) (fun i => [(5, .d (.v (.int .i64 (i + 1))))]) (fun _ => []) (fun i => ∀ k < i, ((thingAt t (k + 1)).Room && decide (atI w.Parent (k + 1) ≠ 0)) = false) (by rfl) (by simp) ?_
  intro i hi hH
  rcases Nat.lt_or_eq_of_le hi with hlt | hie
  · have a4 : inR .i64 ((i : Int) + 1 + 1) := by rw [inR_i64]; omega
    have hlt' : (i : Int) + 1 < t.Things.length := by omega
    have hlt2 : i + 1 < t.Things.length := by omega
    have gx1 := getD_atI w.Parent ((i : Int) + 1) (by omega)
    have ex1 := elem_atI w.Parent ((i : Int) + 1) (by omega) (by omega)
    have tg := thingAt_get (t := t) (n := (i : Int) + 1) (by omega)
    have te := thingAt_elem (t := t) (n := (i : Int) + 1) (by omega)
    have hto : ((i : Int) + 1).toNat = i + 1 := by omega
    simp only [hto] at gx1 ex1 tg te
    have hnode : ((thingAt t ((i : Int) + 1)).Room && decide (atI w.Parent ((i : Int) + 1) ≠ 0)) = true → res = false := fun h => by
      rw [← hres, List.all_eq_false]
      exact ⟨i, List.mem_range.2 hlt, by simp only [h]; simp⟩
    have hgo : ((thingAt t ((i : Int) + 1)).Room && decide (atI w.Parent ((i : Int) + 1) ≠ 0)) = false → ∀ k < i + 1, ((thingAt t ((k : Int) + 1)).Room && decide (atI w.Parent ((k : Int) + 1) ≠ 0)) = false := fun h k hk => by
      rcases Nat.lt_or_ge k i with h2 | h2
      · exact hH k h2
      · rw [show k = i by omega]; exact h
    generalize hTh : thingAt t ((i : Int) + 1) = th at *
    generalize atI w.Parent ((i : Int) + 1) = p at *
    simp [-cB, hlt', hlt2, gx1, ex1, tg, te]
    refine ⟨by omega, fun _ => ⟨by omega, by assumption⟩, ?_⟩
    have hc : (th.Room && (p != 0)) = (th.Room && decide (p ≠ 0)) := by rw [Bool.eq_iff_iff]; simp
    rw [hc]
    refine condC_split (fun h => ?_) (fun h => ?_)
    · have := hnode h
      simp [this]
    · have := hgo h
      simp [-cB, a4]
      exact ⟨by omega, by simpa using this⟩
  · subst hie
    have hr : res = true := by
      rw [← hres, List.all_eq_true]
      intro k hk
      rw [hH k (List.mem_range.1 hk)]
      rfl
    have hnl : ¬ (((t.Things.length - 1 : Nat) : Int) + 1 < t.Things.length) := by omega
    have tg := thingAt_get (t := t) (n := topM w.tree 1) (by omega)
    have te := thingAt_elem (t := t) (n := topM w.tree 1) (by omega)
    simp [-cB, hnl, hr]
    refine AWP.regionD [.d (.v (.int .i64 (topM w.tree 1)))] Tryz.mixed (by kernel_rfl) (by rfl) ?_
    simp [-cB, htop, tg, te]
    omega
def rightB (t : GTables) (w : GWorld) : Bool :=
  decide (w.Globals.length = t.Globals.length) && decide (w.Parent.length = t.Things.length) && decide (w.Flags.length = t.Things.length) && decide (w.Props.length = t.Things.length * t.Props.length) && decide (w.Timers.length = t.Daemons.length) && nestedB w.tree &&
  (allB int16 w.Globals && allB int16 w.Props && allB (fun x => fromB x 0 (bitsM t.Flags - 1)) w.Flags && allB (fun x => fromB x 0 32767) w.Timers && int16 w.Score && fromB w.Turns 0 2147483647) &&
  (fromB w.Over 0 3 && fromB w.It 0 (t.Things.length - 1) && fromB w.Go 0 12 && placedM t w)
set_option maxRecDepth 20000 in
set_option maxHeartbeats 4000000 in
theorem refRight_ok (t : GTables) (ht : t.wf) (w : GWorld) (hw : w.wf) (hpr : t.Props.length ≤ 16) (htl : t.Things.length ≤ 128) : Pure Tryz.prog 9 [.agg (t.enc.map .d), .agg (w.enc.map .d)] (.d (.v (.bool (rightB t w)))) := by
  have hl := GWorld.wl_Parent hw
  have l1 := GWorld.wl_Globals hw
  have l5 := GWorld.wl_Flags hw
  have l6 := GWorld.wl_Props hw
  have l7 := GWorld.wl_Timers hw
  have hmul : inR .i64 ((t.Things.length : Int) * t.Props.length) := by
    have h1 : t.Things.length * t.Props.length ≤ 128 * 16 := Nat.mul_le_mul htl hpr
    have h2 : ((t.Things.length : Int) * t.Props.length) = ((t.Things.length * t.Props.length : Nat) : Int) := by simp
    rw [h2, inR_i64]; omega
  have hN := refNested_ok w hw
  have hb := bitsM_le t.Flags
  have c1 := (refValues_ok w.Globals (by omega)).ok
  have c2 := (refValues_ok w.Props (by omega)).ok
  have c3 := (refBits_ok t.Flags).ok
  have c4 := (refAll_ok w.Flags (by omega) 0 (bitsM t.Flags - 1)).ok
  have c5 := (refAll_ok w.Timers (by omega) 0 32767).ok
  have c6 := (refIs_ok w.Score).ok
  have c7 := (refFrom_ok w.Turns 0 2147483647).ok
  unfold rightB
  have c8 := refFrom_ok w.Over 0 3
  have c9 := refFrom_ok w.It 0 (t.Things.length - 1)
  have c10 := refFrom_ok w.Go 0 12
  refine Pure.run Tryz.func9 rfl (by simp [Tryz.f9]) ?_; simp [-cB, Tryz.f9]
  intro bs
  refine ⟨fun a1 a2 a3 => ⟨hmul, ⟨a1, a2⟩, a3⟩, ?_⟩
  refine AOps.pureG rfl (fun h => hN) rfl (by first | rfl | (simp; rfl)) (by simp) (by simp) rfl ?_
  simp [-cB]
  refine condC_split (fun h => ?_) (fun h => ?_) <;> simp at h
  · simp [-cB]
    intro a1 a2 a3 a4 a5 a6
    exfalso
    rcases h with ((((h | h) | h) | h) | h) | h
    · omega
    · omega
    · omega
    · rw [a4] at h; simp at h
    · omega
    · rw [a6] at h; cases h
  · simp [-cB]
    have hm := h.1.1.2
    have hlen : w.Parent.length = t.Things.length := by omega
    have hP : w.Props.length = t.Things.length * t.Props.length := by
      have : ((t.Things.length : Int) * t.Props.length) = ((t.Things.length * t.Props.length : Nat) : Int) := by simp
      omega
    have hpos : 0 < t.Things.length := by
      have := h.2
      unfold nestedB at this
      simp at this
      have := this.1.1.1.1.1.1
      have e1 : w.tree.Par = w.Parent := rfl
      rw [e1] at this
      have := List.length_pos_iff.2 this
      omega
    have c11 := refPlaced_ok t ht w hw hlen hpos
    have f1 : w.Globals.length = t.Globals.length := by omega
    have f3 : w.Flags.length = t.Things.length := by omega
    have f5 : w.Timers.length = t.Daemons.length := by omega
    have f6 := h.2
    refine AWP.regionD [.d (.v (.bool (allB int16 w.Globals))), .d (.v (.bool (allB int16 w.Props))), .d (.v (.int .i64 (bitsM t.Flags))), .d (.v (.bool (allB (fun x => fromB x 0 (bitsM t.Flags - 1)) w.Flags))), .d (.v (.bool (allB (fun x => fromB x 0 32767) w.Timers))), .d (.v (.bool (int16 w.Score))), .d (.v (.bool (fromB w.Turns 0 2147483647)))] Tryz.mixed (by kernel_rfl) (by rfl) ?_
    simp [-cB, c1, c2, c3, c4, c5, c6, c7]
    refine ⟨fun a b => ⟨by rw [inR_i64]; omega, a, b⟩, ?_⟩
    refine condC_split (fun h2 => ?_) (fun h2 => ?_) <;> simp at h2
    · simp [-cB]
      intro a1 a2 a3 a4 a5 a6 b1 b2 b3 b4 b5 b6
      exfalso
      simp [*] at h2
    · obtain ⟨⟨⟨⟨⟨b1, b2⟩, b3⟩, b4⟩, b5⟩, b6⟩ := h2
      simp [-cB]
      refine AOps.pureC rfl (c8) rfl rfl (by simp) rfl ?_
      simp [-cB]
      refine ⟨fun a => ⟨by rw [inR_i64]; omega, a⟩, ?_⟩
      refine AOps.pureG rfl (fun _ => c9) rfl (by first | rfl | (simp; rfl)) (by simp) (by simp) rfl ?_
      simp [-cB]
      refine AOps.pureG rfl (fun _ => c10) rfl (by first | rfl | (simp; rfl)) (by simp) (by simp) rfl ?_
      simp [-cB]
      refine AOps.pureG rfl (fun _ => c11) rfl (by first | rfl | (simp; rfl)) (by simp) (by simp) rfl ?_
      simp [hlen, hP, f1, f3, f5, f6, b1, b2, b3, b4, b5, b6]
end Go.Ab

namespace Go.Ab
open Go.Proofs
def placeE (t : GTables) (w : GWorld) (x p : Int) : Int := if isT w.Parent.length x then if 0 ≤ p ∧ p < t.Props.length then 0 else 5 else 11
theorem place_in {n k : Nat} {x p : Int} (hn : n ≤ 32768) (hk : k ≤ 65536) (hx : 1 ≤ x ∧ x < n) (hp : 0 ≤ p ∧ p < k) : inR .i64 (x * k) ∧ inR .i64 (x * k + p) := by
  have h1 : 0 ≤ x * k := Int.mul_nonneg (by omega) (by omega)
  have h2 : x * k ≤ 32768 * 65536 := Int.mul_le_mul (by omega) (by omega) (by omega) (by omega)
  rw [inR_i64, inR_i64]
  omega
theorem place_ok (t : GTables) (w : GWorld) (hn : w.Parent.length ≤ 32768) (hk : t.Props.length ≤ 65536) (x p : Int) : Pure Tryz.prog 230 [.agg (t.enc.map .d), .agg (w.enc.map .d), .d (.v (.int .i64 x)), .d (.v (.int .i64 p))] (pr2 (if placeE t w x p = 0 then x * t.Props.length + p else 0, placeE t w x p)) := by
  unfold placeE pr2
  cases hT : isT w.Parent.length x with
  | false =>
    refine Pure.run Tryz.func230 rfl (by simp [Tryz.f230]) ?_; simp [-cB, Tryz.f230]
    try intro (_ : Nat → Nat)
    repeat' (first
      | (with_reducible refine And.intro ?_ ?_)
      | (refine condC_split (fun h => ?_) (fun h => ?_) <;> (try simp at h) <;> (try simp [-cB, *]))
      | (refine AOps.pureC rfl (isP_ok w _) rfl rfl (by simp) rfl ?_ <;> (try simp [-cB, *]))
      | (refine AOps.lendC rfl (isP_ok w _) rfl (by simp) rfl rfl (by simp) rfl ?_ <;> (try simp [-cB, *]))
      | (refine AOps.pureG rfl (fun h => isP_ok w _) rfl (by first | rfl | (simp; rfl)) (by simp) (by simp) rfl ?_ <;> (try simp [-cB, *]))
      | (with_reducible intro _))
  | true =>
    have hb := isT_iff.1 hT
    by_cases hp : 0 ≤ p ∧ p < t.Props.length
    · obtain ⟨g1, g2⟩ := place_in hn hk hb hp
      have p1 : ¬ p < 0 := by omega
      have p2 : ¬ (t.Props.length : Int) ≤ p := by omega
      refine Pure.run Tryz.func230 rfl (by simp [Tryz.f230]) ?_; simp [-cB, Tryz.f230]
      try intro (_ : Nat → Nat)
      repeat' (first
        | (with_reducible refine And.intro ?_ ?_)
        | (refine condC_split (fun h => ?_) (fun h => ?_) <;> (try simp at h) <;> (try simp [-cB, *]))
        | (refine AOps.pureC rfl (isP_ok w _) rfl rfl (by simp) rfl ?_ <;> (try simp [-cB, *]))
        | (refine AOps.lendC rfl (isP_ok w _) rfl (by simp) rfl rfl (by simp) rfl ?_ <;> (try simp [-cB, *]))
        | (refine AOps.pureG rfl (fun h => isP_ok w _) rfl (by first | rfl | (simp; rfl)) (by simp) (by simp) rfl ?_ <;> (try simp [-cB, *]))
        | (with_reducible intro _))
    · refine Pure.run Tryz.func230 rfl (by simp [Tryz.f230]) ?_; simp [-cB, Tryz.f230]
      try intro (_ : Nat → Nat)
      repeat' (first
        | (with_reducible refine And.intro ?_ ?_)
        | (refine condC_split (fun h => ?_) (fun h => ?_) <;> (try simp at h) <;> (try simp [-cB, *]))
        | (refine AOps.pureC rfl (isP_ok w _) rfl rfl (by simp) rfl ?_ <;> (try simp [-cB, *]))
        | (refine AOps.lendC rfl (isP_ok w _) rfl (by simp) rfl rfl (by simp) rfl ?_ <;> (try simp [-cB, *]))
        | (refine AOps.pureG rfl (fun h => isP_ok w _) rfl (by first | rfl | (simp; rfl)) (by simp) (by simp) rfl ?_ <;> (try simp [-cB, *]))
        | (with_reducible intro _))
      all_goals (try omega)
def propR (t : GTables) (w : GWorld) (x p : Int) : Int × Int := (if placeE t w x p = 0 then w.Props[(x * t.Props.length + p).toNat]?.getD 0 else 0, placeE t w x p)
theorem place_lt {n k m : Nat} {x p : Int} (hm : n * k = m) (hx : 1 ≤ x ∧ x < n) (hp : 0 ≤ p ∧ p < k) : 0 ≤ x * k + p ∧ (x * k + p).toNat < m := by
  have h1 : 0 ≤ x * k := Int.mul_nonneg (by omega) (by omega)
  have h2 : (x + 1) * k ≤ n * k := Int.mul_le_mul_of_nonneg_right (by omega) (by omega)
  rw [Int.add_mul, Int.one_mul] at h2
  have h3 : ((n * k : Nat) : Int) = (n : Int) * k := by simp
  omega
theorem prop_ok (t : GTables) (w : GWorld) (hn : w.Parent.length ≤ 32768) (hk : t.Props.length ≤ 65536) (hm : w.Parent.length * t.Props.length = w.Props.length) (x p : Int) : Pure Tryz.prog 162 [.agg (t.enc.map .d), .agg (w.enc.map .d), .d (.v (.int .i64 x)), .d (.v (.int .i64 p))] (pr2 (propR t w x p)) := by
  have hpl := place_ok t w hn hk x p
  unfold pr2 at hpl ⊢
  unfold propR
  by_cases he : placeE t w x p = 0
  · have hT : isT w.Parent.length x = true ∧ 0 ≤ p ∧ p < t.Props.length := by
      unfold placeE at he
      split at he
      · split at he
        · rename_i a b; exact ⟨a, b⟩
        · omega
      · omega
    have hl := place_lt hm (isT_iff.1 hT.1) hT.2
    rw [he] at hpl ⊢
    simp at hpl
    generalize x * t.Props.length + p = q at *
    refine Pure.run Tryz.func162 rfl (by simp [Tryz.f162]) ?_; simp [-cB, Tryz.f162]
    try intro (_ : Nat → Nat)
    repeat' (first
      | (with_reducible refine And.intro ?_ ?_)
      | (refine condC_split (fun h => ?_) (fun h => ?_) <;> (try simp at h) <;> (try simp [-cB, *]))
      | (refine AOps.pureC rfl (hpl) rfl rfl (by simp) rfl ?_ <;> (try simp [-cB, *]))
      | (refine AOps.lendC rfl (hpl) rfl (by simp) rfl rfl (by simp) rfl ?_ <;> (try simp [-cB, *]))
      | (refine AOps.pureG rfl (fun h => hpl) rfl (by first | rfl | (simp; rfl)) (by simp) (by simp) rfl ?_ <;> (try simp [-cB, *]))
      | (with_reducible intro _))
  · simp [he] at hpl
    generalize placeE t w x p = e at *
    refine Pure.run Tryz.func162 rfl (by simp [Tryz.f162]) ?_; simp [-cB, Tryz.f162]
    try intro (_ : Nat → Nat)
    repeat' (first
      | (with_reducible refine And.intro ?_ ?_)
      | (refine condC_split (fun h => ?_) (fun h => ?_) <;> (try simp at h) <;> (try simp [-cB, *]))
      | (refine AOps.pureC rfl (hpl) rfl rfl (by simp) rfl ?_ <;> (try simp [-cB, *]))
      | (refine AOps.lendC rfl (hpl) rfl (by simp) rfl rfl (by simp) rfl ?_ <;> (try simp [-cB, *]))
      | (refine AOps.pureG rfl (fun h => hpl) rfl (by first | rfl | (simp; rfl)) (by simp) (by simp) rfl ?_ <;> (try simp [-cB, *]))
      | (with_reducible intro _))
    all_goals (exact absurd (by assumption) he)
end Go.Ab

namespace Go.Ab
open Go.Proofs
def smallT (n : Int) : ByteArray := if n < 10 then ⟨#[UInt8.ofNat (48 + n.toNat)]⟩ else ⟨#[UInt8.ofNat (48 + n.toNat / 10), UInt8.ofNat (48 + n.toNat % 10)]⟩
def numT (n : Int) : Option ByteArray := if 0 ≤ n ∧ n < 100 then some (smallT n) else none
def textM (t : GTables) (i : Int) : ByteArray := if i < 0 ∨ (t.Texts.length : Int) ≤ i then ⟨#[]⟩ else t.Texts[i.toNat]?.getD ⟨#[]⟩
def okW (c : XC) (w : GWorld) : Bool := rightB c.B.Tables w && decide (0 ≤ w.Seed ∧ w.Seed < 18446744073709551616)
abbrev inL {α : Type} (l : List α) (i : Int) : Prop := 0 ≤ i ∧ i < l.length
abbrev sml {α : Type} (l : List α) : Prop := l.length ≤ 1000000
def getI (l : List Int) (i : Int) : Int := l[i.toNat]?.getD 0
def errX (σ : XS) (p : Int × Int) : XS × OC := if p.2 = 0 then (σ, .nrm p.1) else (σ, .thr p.2)
def valX (c : XC) (σ : XS) (e : GExpr) (a : List Int) : Option (XS × OC) :=
  if e.Kind = 1 then some (σ, .nrm e.Num)
  else if e.Kind = 14 then (if inL σ.W.Globals e.Num then some (σ, .nrm (getI σ.W.Globals e.Num)) else none)
  else if e.Kind = 15 then (if inL σ.Ls e.Num then some (σ, .nrm (getI σ.Ls e.Num)) else none)
  else if e.Kind = 4 then (if 0 < a.length then some (σ, .nrm (negM (getI a 0))) else none)
  else if e.Kind = 5 then (if 0 < a.length then some (σ, .nrm (tru (decide (wrapM (getI a 0) = 0)))) else none)
  else if e.Kind = 6 then (if 1 < a.length ∧ okW c σ.W = true then some (errX σ (binR σ.W e.Op (getI a 0) (getI a 1))) else none)
  else if e.Kind = 17 then (if 0 < a.length ∧ okW c σ.W = true then some (errX σ (propR c.B.Tables σ.W (getI a 0) e.Num)) else none)
  else if e.Kind = 10 then (if 0 < a.length ∧ okW c σ.W = true then some (errX σ (treeR σ.W e.Op (getI a 0))) else none)
  else if e.Kind = 12 then (if okW c σ.W = true then some (errX σ (selfR σ.W c.E e.Op)) else none)
  else none
def wrapO (p : XS × OC) : XS × OC := match p.2 with
  | .nrm n => (p.1, .nrm (wrapM n))
  | _ => p
def outX (σ : XS) (s : ByteArray) : Option (XS × OC) := if σ.Out.size + s.size ≤ 140737488355328 then some ({ σ with Out := σ.Out ++ s, Wr := true }, .nrm 0) else none
mutual
def askX (c : XC) : Nat → XS → GExpr → Option (XS × OC)
  | 0, _, _ => none
  | g + 1, σ, e =>
    if e.Kind = 6 ∧ (e.Op = 1 ∨ e.Op = 2) then
      match e.Args with
      | x :: y :: _ => match askX c g σ x with
        | some (σ1, .nrm l) => if decide (l ≠ 0) = decide (e.Op = 1) then some (σ1, .nrm (tru (decide (l ≠ 0)))) else match askX c g σ1 y with
          | some (σ2, .nrm r) => some (σ2, .nrm (tru (decide (r ≠ 0))))
          | r => r
        | r => r
      | _ => none
    else if ¬ sml e.Args then none else match asksX c g σ e.Args with
      | some (σ1, .inl a) => if e.Kind = 18 then (if inL c.B.Tables.Funcs e.Num then (callX c g σ1 (getI c.B.Tables.Funcs e.Num) a).map wrapO else none) else (valX c σ1 e a).map wrapO
      | some (σ1, .inr o) => some (σ1, o)
      | none => none
def asksX (c : XC) : Nat → XS → List GExpr → Option (XS × (List Int ⊕ OC))
  | 0, _, _ => none
  | _ + 1, σ, [] => some (σ, .inl [])
  | g + 1, σ, e :: l => match askX c g σ e with
    | some (σ1, .nrm n) => match asksX c g σ1 l with
      | some (σ2, .inl a) => some (σ2, .inl (n :: a))
      | r => r
    | some (σ1, o) => some (σ1, .inr o)
    | none => none
def callX (c : XC) : Nat → XS → Int → List Int → Option (XS × OC)
  | 0, _, _, _ => none
  | g + 1, σ, r, a =>
    if σ.Dp < 0 then none else if 32 ≤ σ.Dp then some (σ, .thr 17) else
    if inL c.B.Tables.Locals r ∧ inL c.B.Routines r ∧ (a.length : Int) ≤ getI c.B.Tables.Locals r ∧ getI c.B.Tables.Locals r ≤ 1000 ∧ sml (c.B.Routines[r.toNat]?.getD []) then
      match blockX c g { σ with Dp := σ.Dp + 1, Ls := a.map wrapM ++ List.replicate ((getI c.B.Tables.Locals r).toNat - a.length) 0 } (c.B.Routines[r.toNat]?.getD []) with
      | some (σ1, o) => some ({ σ1 with Dp := σ1.Dp - 1, Ls := σ.Ls }, match o with | .nrm _ => .nrm 0 | .ret n => .nrm n | o => o)
      | none => none
    else none
def blockX (c : XC) : Nat → XS → List GStmt → Option (XS × OC)
  | 0, _, _ => none
  | _ + 1, σ, [] => some (σ, .nrm 0)
  | g + 1, σ, x :: l => match stmtX c g σ x with
    | some (σ1, .nrm _) => blockX c g σ1 l
    | r => r
def stmtX (c : XC) : Nat → XS → GStmt → Option (XS × OC)
  | 0, _, _ => none
  | g + 1, σ, x =>
    if x.Kind = 10 then (if sml x.Body then whileX c g σ x else none) else
    match costX c σ with
    | some (σ, .nrm _) => if ¬ sml x.Args then none else if x.Kind = 1 then saysX c g σ x.Args else match asksX c g σ x.Args with
      | some (σ1, .inl a) => doesX c g σ1 x a
      | some (σ1, .inr o) => some (σ1, o)
      | none => none
    | r => r
def saysX (c : XC) : Nat → XS → List GExpr → Option (XS × OC)
  | 0, _, _ => none
  | _ + 1, σ, [] => some (σ, .nrm 0)
  | g + 1, σ, e :: l =>
    match sayX c g σ e with
    | some (σ1, .nrm _) => saysX c g σ1 l
    | r => r
def sayX (c : XC) : Nat → XS → GExpr → Option (XS × OC)
  | 0, _, _ => none
  | g + 1, σ, e =>
    if e.Kind = 19 then outX σ (textM c.B.Tables e.Num) else if e.Kind = 13 then none else
    match askX c g σ e with
    | some (σ1, .nrm n) => match numT n with
      | some s => outX σ1 s
      | none => none
    | r => r
def whileX (c : XC) : Nat → XS → GStmt → Option (XS × OC)
  | 0, _, _ => none
  | g + 1, σ, x =>
    match costX c σ with
    | some (σ, .nrm _) => match x.Args with
      | e :: _ => match askX c g σ e with
        | some (σ1, .nrm n) => if n = 0 then some (σ1, .nrm 0) else match blockX c g σ1 x.Body with
          | some (σ2, .nrm _) => whileX c g σ2 x
          | r => r
        | r => r
      | [] => none
    | r => r
def eachX (c : XC) : Nat → XS → GStmt → Option (XS × OC)
  | 0, _, _ => none
  | g + 1, σ, x =>
    if inL σ.Ls x.Num ∧ inL σ.Ls (x.Num + 1) ∧ x.Num ≤ 1000000 ∧ okW c σ.W = true then
      if getI σ.Ls x.Num = 0 then some (σ, .nrm 0) else
      match costX c σ with
      | some (σ, .nrm _) =>
        if (treeR σ.W 3 (getI σ.Ls x.Num)).2 ≠ 0 then some (σ, .thr (treeR σ.W 3 (getI σ.Ls x.Num)).2) else
        match blockX c g { σ with Ls := σ.Ls.set (x.Num + 1).toNat (treeR σ.W 3 (getI σ.Ls x.Num)).1 } x.Body with
        | some (σ2, .nrm _) => eachX c g { σ2 with Ls := σ2.Ls.set x.Num.toNat (getI σ2.Ls (x.Num + 1)) } x
        | r => r
      | r => r
    else none
def doesX (c : XC) : Nat → XS → GStmt → List Int → Option (XS × OC)
  | 0, _, _, _ => none
  | g + 1, σ, x, a =>
    if x.Kind = 2 ∨ x.Kind = 3 then (if 0 < a.length ∧ inL σ.Ls x.Num then some ({ σ with Ls := σ.Ls.set x.Num.toNat (getI a 0) }, .nrm 0) else none)
    else if x.Kind = 9 then (if 0 < a.length ∧ sml x.Body ∧ sml x.Else then blockX c g σ (if getI a 0 ≠ 0 then x.Body else x.Else) else none)
    else if x.Kind = 11 then (if 0 < a.length ∧ okW c σ.W = true ∧ inL σ.Ls x.Num ∧ sml x.Body then
        if (treeR σ.W 2 (getI a 0)).2 ≠ 0 then some (σ, .thr (treeR σ.W 2 (getI a 0)).2) else eachX c g { σ with Ls := σ.Ls.set x.Num.toNat (treeR σ.W 2 (getI a 0)).1 } x
      else none)
    else if x.Kind = 12 then (if 0 < a.length then some (σ, .ret (getI a 0)) else none)
    else none
end
theorem cost_ls {c : XC} {σ σ' : XS} {o : OC} (h : costX c σ = some (σ', o)) : σ'.Ls = σ.Ls := by
  unfold costX at h
  split at h
  · split at h <;> simp only [Option.some.injEq, Prod.mk.injEq] at h <;> obtain ⟨rfl, rfl⟩ := h <;> rfl
  · cases h
theorem out_ls {σ σ' : XS} {s : ByteArray} {o : OC} (h : outX σ s = some (σ', o)) : σ'.Ls = σ.Ls := by
  unfold outX at h
  split at h
  · simp only [Option.some.injEq, Prod.mk.injEq] at h; obtain ⟨rfl, rfl⟩ := h; rfl
  · cases h
theorem err_ls {σ : XS} {p : Int × Int} : (errX σ p).1.Ls = σ.Ls := by unfold errX; split <;> rfl
theorem wrap_ls (p : XS × OC) : (wrapO p).1 = p.1 := by unfold wrapO; split <;> rfl
theorem val_ls {c : XC} {σ σ' : XS} {e : GExpr} {a : List Int} {o : OC} (h : valX c σ e a = some (σ', o)) : σ'.Ls = σ.Ls := by
  have key : ∀ p : Int × Int, errX σ p = (σ', o) → σ'.Ls = σ.Ls := fun p hp => by rw [← (err_ls (σ := σ) (p := p)), hp]
  unfold valX at h
  repeat' split at h
  all_goals (try grind)
structure LenOK (c : XC) (g : Nat) : Prop where
  ask : ∀ σ e σ' o, askX c g σ e = some (σ', o) → σ'.Ls.length = σ.Ls.length
  asks : ∀ σ l σ' o, asksX c g σ l = some (σ', o) → σ'.Ls.length = σ.Ls.length
  call : ∀ σ r a σ' o, callX c g σ r a = some (σ', o) → σ'.Ls.length = σ.Ls.length
  block : ∀ σ l σ' o, blockX c g σ l = some (σ', o) → σ'.Ls.length = σ.Ls.length
  stmt : ∀ σ x σ' o, stmtX c g σ x = some (σ', o) → σ'.Ls.length = σ.Ls.length
  says : ∀ σ l σ' o, saysX c g σ l = some (σ', o) → σ'.Ls.length = σ.Ls.length
  say : ∀ σ e σ' o, sayX c g σ e = some (σ', o) → σ'.Ls.length = σ.Ls.length
  whil : ∀ σ x σ' o, whileX c g σ x = some (σ', o) → σ'.Ls.length = σ.Ls.length
  each : ∀ σ x σ' o, eachX c g σ x = some (σ', o) → σ'.Ls.length = σ.Ls.length
  does : ∀ σ x a σ' o, doesX c g σ x a = some (σ', o) → σ'.Ls.length = σ.Ls.length
theorem len_all (c : XC) : ∀ g, LenOK c g := by
  intro g
  induction g with
  | zero => constructor <;> intros <;> rename_i h <;> simp [askX, asksX, callX, blockX, stmtX, saysX, sayX, whileX, eachX, doesX] at h
  | succ g ih =>
    have h1 := ih.ask
    have h2 := ih.asks
    have h3 := ih.call
    have h4 := ih.block
    have h5 := ih.stmt
    have h6 := ih.says
    have h7 := ih.whil
    have h10 := ih.say
    have h8 := ih.each
    have h9 := ih.does
    have k1 := @cost_ls c
    have k2 := @val_ls c
    have k3 := wrap_ls
    have k4 := @out_ls
    constructor
    · intro σ e σ' o h
      rw [askX] at h
      repeat' split at h
      all_goals (try (simp only [Option.map_eq_some_iff, Option.bind_eq_some_iff, Option.some.injEq, Prod.mk.injEq, reduceCtorEq] at h))
      all_goals (try grind)
    · intro σ l σ' o h
      cases l <;> rw [asksX] at h
      all_goals repeat' split at h
      all_goals (try grind)
    · intro σ r a σ' o h
      rw [callX] at h
      repeat' split at h
      all_goals (try grind)
    · intro σ l σ' o h
      cases l <;> rw [blockX] at h
      all_goals repeat' split at h
      all_goals (try grind)
    · intro σ x σ' o h
      rw [stmtX] at h
      repeat' split at h
      all_goals (try grind)
    · intro σ l σ' o h
      cases l <;> rw [saysX] at h
      all_goals repeat' split at h
      all_goals (try grind)
    · intro σ e σ' o h
      rw [sayX] at h
      repeat' split at h
      all_goals (try grind)
    · intro σ x σ' o h
      rw [whileX] at h
      repeat' split at h
      all_goals (try grind)
    · intro σ x σ' o h
      rw [eachX] at h
      repeat' split at h
      all_goals (try grind)
    · intro σ x a σ' o h
      rw [doesX] at h
      repeat' split at h
      all_goals (try (simp only [Option.map_eq_some_iff, Option.bind_eq_some_iff, Option.some.injEq, Prod.mk.injEq, reduceCtorEq] at h))
      all_goals (try grind)
theorem cost_dp {c : XC} {σ σ' : XS} {o : OC} (h : costX c σ = some (σ', o)) : σ'.Dp = σ.Dp := by
  unfold costX at h
  split at h
  · split at h <;> simp only [Option.some.injEq, Prod.mk.injEq] at h <;> obtain ⟨rfl, rfl⟩ := h <;> rfl
  · cases h
theorem out_dp {σ σ' : XS} {s : ByteArray} {o : OC} (h : outX σ s = some (σ', o)) : σ'.Dp = σ.Dp := by
  unfold outX at h
  split at h
  · simp only [Option.some.injEq, Prod.mk.injEq] at h; obtain ⟨rfl, rfl⟩ := h; rfl
  · cases h
theorem err_dp {σ : XS} {p : Int × Int} : (errX σ p).1.Dp = σ.Dp := by unfold errX; split <;> rfl
theorem val_dp {c : XC} {σ σ' : XS} {e : GExpr} {a : List Int} {o : OC} (h : valX c σ e a = some (σ', o)) : σ'.Dp = σ.Dp := by
  have key : ∀ p : Int × Int, errX σ p = (σ', o) → σ'.Dp = σ.Dp := fun p hp => by rw [← (err_dp (σ := σ) (p := p)), hp]
  unfold valX at h
  repeat' split at h
  all_goals (try grind)
structure DpOK (c : XC) (g : Nat) : Prop where
  ask : ∀ σ e σ' o, askX c g σ e = some (σ', o) → σ'.Dp = σ.Dp
  asks : ∀ σ l σ' o, asksX c g σ l = some (σ', o) → σ'.Dp = σ.Dp
  call : ∀ σ r a σ' o, callX c g σ r a = some (σ', o) → σ'.Dp = σ.Dp
  block : ∀ σ l σ' o, blockX c g σ l = some (σ', o) → σ'.Dp = σ.Dp
  stmt : ∀ σ x σ' o, stmtX c g σ x = some (σ', o) → σ'.Dp = σ.Dp
  says : ∀ σ l σ' o, saysX c g σ l = some (σ', o) → σ'.Dp = σ.Dp
  say : ∀ σ e σ' o, sayX c g σ e = some (σ', o) → σ'.Dp = σ.Dp
  whil : ∀ σ x σ' o, whileX c g σ x = some (σ', o) → σ'.Dp = σ.Dp
  each : ∀ σ x σ' o, eachX c g σ x = some (σ', o) → σ'.Dp = σ.Dp
  does : ∀ σ x a σ' o, doesX c g σ x a = some (σ', o) → σ'.Dp = σ.Dp
theorem dp_all (c : XC) : ∀ g, DpOK c g := by
  intro g
  induction g with
  | zero => constructor <;> intros <;> rename_i h <;> simp [askX, asksX, callX, blockX, stmtX, saysX, sayX, whileX, eachX, doesX] at h
  | succ g ih =>
    have h1 := ih.ask
    have h2 := ih.asks
    have h3 := ih.call
    have h4 := ih.block
    have h5 := ih.stmt
    have h6 := ih.says
    have h7 := ih.whil
    have h10 := ih.say
    have h8 := ih.each
    have h9 := ih.does
    have k1 := @cost_dp c
    have k2 := @val_dp c
    have k3 := wrap_ls
    have k4 := @out_dp
    constructor
    · intro σ e σ' o h
      rw [askX] at h
      repeat' split at h
      all_goals (try (simp only [Option.map_eq_some_iff, Option.bind_eq_some_iff, Option.some.injEq, Prod.mk.injEq, reduceCtorEq] at h))
      all_goals (try grind)
    · intro σ l σ' o h
      cases l <;> rw [asksX] at h
      all_goals repeat' split at h
      all_goals (try grind)
    · intro σ r a σ' o h
      rw [callX] at h
      repeat' split at h
      all_goals (try grind)
    · intro σ l σ' o h
      cases l <;> rw [blockX] at h
      all_goals repeat' split at h
      all_goals (try grind)
    · intro σ x σ' o h
      rw [stmtX] at h
      repeat' split at h
      all_goals (try grind)
    · intro σ l σ' o h
      cases l <;> rw [saysX] at h
      all_goals repeat' split at h
      all_goals (try grind)
    · intro σ e σ' o h
      rw [sayX] at h
      repeat' split at h
      all_goals (try grind)
    · intro σ x σ' o h
      rw [whileX] at h
      repeat' split at h
      all_goals (try grind)
    · intro σ x σ' o h
      rw [eachX] at h
      repeat' split at h
      all_goals (try grind)
    · intro σ x a σ' o h
      rw [doesX] at h
      repeat' split at h
      all_goals (try (simp only [Option.map_eq_some_iff, Option.bind_eq_some_iff, Option.some.injEq, Prod.mk.injEq, reduceCtorEq] at h))
      all_goals (try grind)
theorem call_ls {c : XC} {g : Nat} {σ σ' : XS} {r : Int} {a : List Int} {o : OC} (h : callX c g σ r a = some (σ', o)) : σ'.Ls = σ.Ls := by
  cases g with
  | zero => simp [callX] at h
  | succ g =>
    rw [callX] at h
    repeat' split at h
    all_goals (try grind)
def ExprOK (c : XC) (g : Nat) : Prop := ∀ (σ : XS) (e : GExpr) (σ' : XS) (o : OC), askX c g σ e = some (σ', o) → ∀ fb lb rb, ACalls Tryz.prog 248 [.bp 5001 0, .agg (e.enc.map V.d)] (exL fb lb rb c σ) (fun r L => r = ocE o ∧ L = exL fb lb rb c σ')
def ocV : List Int ⊕ OC → AE
  | .inl a => .ret (.d (.sl (encI a)))
  | .inr o => ocE o
def ValuesOK (c : XC) (g : Nat) : Prop := ∀ (σ : XS) (l : List GExpr) (σ' : XS) (o : List Int ⊕ OC), l.length ≤ 1000000 → asksX c g σ l = some (σ', o) → ∀ fb lb rb, ACalls Tryz.prog 198 [.bp 5001 0, .d (.sl (l.map GExpr.enc))] (exL fb lb rb c σ) (fun r L => r = ocV o ∧ L = exL fb lb rb c σ')
def CallOK (c : XC) (g : Nat) : Prop := ∀ (σ : XS) (r : Int) (a : List Int) (σ' : XS) (o : OC), a.length ≤ 1000000 → callX c g σ r a = some (σ', o) → ∀ rb, ACalls Tryz.prog 39 [.bp 5003 0, .d (.v (.int .i64 r)), .d (.sl (encI a))] (ruL rb c σ) (fun q L => q = ocE o ∧ L = ruL rb c σ')
def BlockOK (c : XC) (g : Nat) : Prop := ∀ (σ : XS) (l : List GStmt) (σ' : XS) (o : OC), l.length ≤ 1000000 → blockX c g σ l = some (σ', o) → ∀ fb lb rb, ACalls Tryz.prog 89 [.bp 5001 0, .d (.sl (l.map GStmt.enc))] (exL fb lb rb c σ) (fun r L => r = ocS o ∧ L = exL fb lb rb c σ')
def StmtOK (c : XC) (g : Nat) : Prop := ∀ (σ : XS) (x : GStmt) (σ' : XS) (o : OC), stmtX c g σ x = some (σ', o) → ∀ fb lb rb, ACalls Tryz.prog 143 [.bp 5001 0, .agg (x.enc.map V.d)] (exL fb lb rb c σ) (fun r L => r = ocS o ∧ L = exL fb lb rb c σ')
def SayOK (c : XC) (g : Nat) : Prop := ∀ (σ : XS) (e : GExpr) (σ' : XS) (o : OC), sayX c g σ e = some (σ', o) → ∀ fb lb rb, ACalls Tryz.prog 196 [.bp 5001 0, .agg (e.enc.map V.d)] (exL fb lb rb c σ) (fun r L => r = ocS o ∧ L = exL fb lb rb c σ')
def WhileOK (c : XC) (g : Nat) : Prop := ∀ (σ : XS) (x : GStmt) (σ' : XS) (o : OC), sml x.Body → whileX c g σ x = some (σ', o) → ∀ fb lb rb, ACalls Tryz.prog 194 [.bp 5001 0, .agg (x.enc.map V.d)] (exL fb lb rb c σ) (fun r L => r = ocS o ∧ L = exL fb lb rb c σ')
def DoesOK (c : XC) (g : Nat) : Prop := ∀ (σ : XS) (x : GStmt) (a : List Int) (σ' : XS) (o : OC), doesX c g σ x a = some (σ', o) → ∀ fb lb rb, ACalls Tryz.prog 197 [.bp 5001 0, .agg (x.enc.map V.d), .d (.sl (encI a))] (exL fb lb rb c σ) (fun r L => r = ocS o ∧ L = exL fb lb rb c σ')
end Go.Ab

namespace Go.Ab
theorem chainM_sub {nx : List Int} {n : Nat} : ∀ {k j : Nat} {c x : Int}, k ≤ j → x ∈ chainM nx n k c → x ∈ chainM nx n j c
  | 0, j, c, x, _, h => by simp [chainM] at h
  | k + 1, j, c, x, hj, h => by
    obtain ⟨j, rfl⟩ : ∃ i, j = i + 1 := ⟨j - 1, by omega⟩
    rw [chainM] at h ⊢
    split at h
    · rename_i hc
      rw [if_pos hc]
      rcases List.mem_cons.1 h with rfl | h
      · exact List.mem_cons_self
      · exact List.mem_cons_of_mem _ (chainM_sub (by omega) h)
    · cases h
theorem chainM_last {nx : List Int} {n : Nat} : ∀ {k : Nat} {c : Int}, (chainM nx n k c).length < k → isT n (match (chainM nx n k c).getLast? with | some y => atI nx y | none => c) = false
  | 0, c, h => by simp at h
  | k + 1, c, h => by
    rw [chainM] at h ⊢
    by_cases hc : isT n c = true
    · rw [if_pos hc] at h ⊢
      have h1 := chainM_last (nx := nx) (n := n) (k := k) (c := atI nx c) (by simpa using h)
      rw [List.getLast?_cons]
      cases hl : (chainM nx n k (atI nx c)).getLast? with
      | none => simpa [hl] using h1
      | some y => simpa [hl] using h1
    · rw [if_neg hc]
      simpa using hc
theorem chainM_nodup {nx : List Int} {n : Nat} (ha : ∀ y, isT n y = true → y ∉ chainM nx n n (atI nx y)) : ∀ {k : Nat} {c : Int}, k ≤ n → (chainM nx n k c).Nodup
  | 0, c, _ => by simp [chainM]
  | k + 1, c, hk => by
    rw [chainM]
    split
    · rename_i hc
      exact List.nodup_cons.2 ⟨fun hm => ha c hc (chainM_sub (by omega) hm), chainM_nodup ha (by omega)⟩
    · simp
theorem chain_ends {nx : List Int} {n : Nat} (h0 : atI nx 0 = 0) (hu : ∀ y, isT n y = true → atI nx y = 0 ∨ isT n (atI nx y) = true) (ha : ∀ y, isT n y = true → y ∉ chainM nx n n (atI nx y)) {x : Int} (hx : isT n x = true) : Ch nx n x (chainM nx n n x) := by
  have hnd : (chainM nx n n x).Nodup := chainM_nodup ha (Nat.le_refl _)
  refine chain_ch h0 (.inr ⟨hnd, Nat.le_refl _⟩) ?_
  have hb := isT_iff.1 hx
  have hlen : (chainM nx n n x).length < n := by
    rcases nodup_lt hnd (fun x hx => chainM_mem hx) with h | h
    · exact h
    · rw [h]; simp; omega
  have hl := chainM_last hlen
  cases hg : (chainM nx n n x).getLast? with
  | none =>
    rw [hg] at hl
    simp only at hl
    rw [hx] at hl
    cases hl
  | some y =>
    rw [hg] at hl
    simp only at hl ⊢
    rcases hu y (isT_iff.2 (chainM_mem (List.mem_of_getLast? hg))) with h | h
    · exact h
    · rw [hl] at h; cases h
theorem Nest.of_nestedB {t : Tree} (h : nestedB t = true) : Nest t t.Par.length (kidsM t) := by
  unfold nestedB at h
  simp only [Bool.and_eq_true, decide_eq_true_eq, List.all_eq_true, List.mem_range] at h
  obtain ⟨⟨⟨⟨⟨⟨h1, h2⟩, h3⟩, h4⟩, h5⟩, h6⟩, h7⟩ := h
  have node : ∀ x : Int, 1 ≤ x → x < t.Par.length → nodeB t x = true := by
    intro x a b
    have := h7 (x.toNat - 1) (by omega)
    rwa [show (((x.toNat - 1 : Nat) : Int) + 1) = x by omega] at this
  have parts : ∀ x : Int, 1 ≤ x → x < t.Par.length → (atI t.Par x = 0 ∨ isT t.Par.length (atI t.Par x) = true) ∧ (atI t.Par x = 0 → atI t.Nxt x = 0) ∧ listedB t x = true ∧ (atI t.Par x ≠ 0 → x ∈ kidsM t (atI t.Par x)) ∧ (isT t.Par.length (atI t.Par x) = true → x ∉ upsM t (atI t.Par x)) := by
    intro x a b
    have := node x a b
    unfold nodeB at this
    simp only [Bool.and_eq_true, Bool.not_eq_true', Bool.and_eq_false_iff, decide_eq_false_iff_not, Bool.not_eq_false', Decidable.not_not] at this
    obtain ⟨⟨⟨⟨n1, n2⟩, n3⟩, n4⟩, n5⟩ := this
    refine ⟨n1, fun e => ?_, n3, fun e => ?_, fun e => ?_⟩
    · rcases n2 with n2 | n2
      · exact (n2 e).elim
      · exact n2
    · rcases n4 with n4 | n4
      · exact (e n4).elim
      · exact List.count_pos_iff.1 (by omega)
    · rcases n5 with n5 | n5
      · rw [e] at n5; cases n5
      · exact n5
  have up : ∀ y, isT t.Par.length y = true → atI t.Par y = 0 ∨ isT t.Par.length (atI t.Par y) = true := fun y hy => (parts y (isT_iff.1 hy).1 (isT_iff.1 hy).2).1
  have listed : ∀ x : Int, 1 ≤ x → x < t.Par.length → (∀ y ∈ kidsM t x, atI t.Par y = x ∧ (kidsM t x).count y = 1) ∧ (match (kidsM t x).getLast? with | some y => atI t.Nxt y | none => atI t.Chi x) = 0 := by
    intro x a b
    have := (parts x a b).2.2.1
    rw [listedB_eq, Bool.and_eq_true, List.all_eq_true, decide_eq_true_eq] at this
    refine ⟨fun y hy => ?_, this.2⟩
    have h := this.1 y hy
    unfold listedP at h
    simpa using h
  refine ⟨by omega, rfl, h2, h3, h4, h5, h6, fun x a b => ?_, fun x a b y hy => ((listed x a b).1 y hy).1, fun x a b => ?_, fun x a b => ?_⟩
  · have hk : kidsM t x = chainM t.Nxt t.Par.length t.Par.length (atI t.Chi x) := by rw [kidsM, if_pos (isT_iff.2 ⟨a, b⟩)]
    have hl := listed x a b
    rw [hk] at hl ⊢
    refine chain_ch h6 (.inr ⟨?_, Nat.le_refl _⟩) hl.2
    rw [List.nodup_iff_count]
    intro y
    by_cases hy : y ∈ chainM t.Nxt t.Par.length t.Par.length (atI t.Chi x)
    · rw [(hl.1 y hy).2]; exact Nat.le_refl _
    · rw [List.count_eq_zero.2 hy]; omega
  · obtain ⟨p1, p2, p3, p4, p5⟩ := parts x a b
    rcases p1 with e | e
    · exact .inl ⟨e, p2 e⟩
    · exact .inr ⟨isT_iff.1 e, p4 (by have := isT_iff.1 e; omega)⟩
  · refine ⟨_, chain_ends h4 up (fun y hy => ?_) (isT_iff.2 ⟨a, b⟩)⟩
    obtain ⟨p1, p2, p3, p4, p5⟩ := parts y (isT_iff.1 hy).1 (isT_iff.1 hy).2
    rcases p1 with e | e
    · rw [e]
      have : ¬ y ∈ chainM t.Par t.Par.length t.Par.length 0 := by
        intro hm
        cases hn : t.Par.length with
        | zero => rw [hn] at hm; simp [chainM] at hm
        | succ k => rw [hn, chainM] at hm; simp [isT] at hm
      exact this
    · exact p5 e
end Go.Ab

namespace Go.Ab
theorem Ch.head {nx : List Int} {n : Nat} {c : Int} {l : List Int} (h : Ch nx n c l) : c = 0 ∨ (1 ≤ c ∧ c < n) := by
  cases h with
  | nil => exact .inl rfl
  | cons h t => exact .inr h
theorem Ch.nextB {nx : List Int} {n : Nat} {c : Int} {l : List Int} (h : Ch nx n c l) : ∀ y ∈ l, atI nx y = 0 ∨ (1 ≤ atI nx y ∧ atI nx y < n) := by
  induction h with
  | nil => simp
  | @cons c l h t ih =>
    intro y hy
    rcases List.mem_cons.1 hy with rfl | hy
    · exact t.head
    · exact ih y hy
theorem mem_atI {l : List Int} {y : Int} (h : y ∈ l) : ∃ i : Int, 0 ≤ i ∧ i < l.length ∧ atI l i = y := by
  obtain ⟨k, hk, rfl⟩ := List.getElem_of_mem h
  refine ⟨k, by omega, by omega, ?_⟩
  rw [atI, if_neg (by omega)]
  simp [List.getElem?_eq_getElem hk]
structure OkW (t : GTables) (w : GWorld) : Prop where
  wf : w.wf
  nest : Nest w.tree w.Parent.length (kidsM w.tree)
  hC : w.Child.length = w.Parent.length
  hN : w.Next.length = w.Parent.length
  hT : w.Parent.length = t.Things.length
  hF : w.Flags.length = t.Things.length
  hP : w.Props.length = t.Things.length * t.Props.length
  hG : w.Globals.length = t.Globals.length
  hD : w.Timers.length = t.Daemons.length
  hn : 3 ≤ t.Things.length ∧ t.Things.length ≤ 128
  hp : t.Props.length ≤ 16
  g16 : ∀ x ∈ w.Globals, -32768 ≤ x ∧ x ≤ 32767
  p16 : ∀ x ∈ w.Props, -32768 ≤ x ∧ x ≤ 32767
  fl : ∀ x ∈ w.Flags, 0 ≤ x ∧ x ≤ bitsM t.Flags - 1
  tm : ∀ x ∈ w.Timers, 0 ≤ x ∧ x ≤ 32767
  sc : -32768 ≤ w.Score ∧ w.Score ≤ 32767
  tu : 0 ≤ w.Turns ∧ w.Turns ≤ 2147483647
  ov : 0 ≤ w.Over ∧ w.Over ≤ 3
  it : 0 ≤ w.It ∧ w.It < t.Things.length
  go : 0 ≤ w.Go ∧ w.Go ≤ 12
  pl : placedM t w = true
theorem fits_dims {t : GTables} (hf : fitsB t = true) : (3 ≤ t.Things.length ∧ t.Things.length ≤ 128) ∧ t.Props.length ≤ 16 ∧ t.Globals.length ≤ 64 ∧ t.Daemons.length ≤ 16 ∧ t.Texts.length ≤ 4096 ∧ t.Params.length = t.Locals.length ∧ t.Params.length ≤ 2048 ∧ t.Funcs.length ≤ 64 ∧ (4 ≤ t.Flags ∧ t.Flags ≤ 16) := by
  unfold fitsB headB thingsB rulesB at hf
  simp only [Bool.and_eq_true, decide_eq_true_eq, fromB] at hf
  omega
theorem OkW.of {t : GTables} {w : GWorld} (hf : fitsB t = true) (h : rightB t w = true) (hs : 0 ≤ w.Seed ∧ w.Seed < 18446744073709551616) : OkW t w := by
  obtain ⟨d1, d2, d3, d4, d5, d6, d7, d8, d9⟩ := fits_dims hf
  unfold rightB at h
  simp only [Bool.and_eq_true, decide_eq_true_eq, fromB, allB, List.all_eq_true, int16] at h
  obtain ⟨⟨⟨⟨⟨⟨⟨h1, h2⟩, h3⟩, h4⟩, h5⟩, h6⟩, ⟨⟨⟨⟨⟨h7, h8⟩, h9⟩, h10⟩, h11⟩, h12⟩⟩, ⟨⟨⟨h13, h14⟩, h15⟩, h16⟩⟩ := h
  have hn := Nest.of_nestedB h6
  have e1 : w.tree.Par = w.Parent := rfl
  have e2 : w.tree.Chi = w.Child := rfl
  have e3 : w.tree.Nxt = w.Next := rfl
  rw [e1] at hn
  have lc : w.Child.length = w.Parent.length := hn.lc
  have ln : w.Next.length = w.Parent.length := hn.ln
  have hbit := bitsM_le t.Flags
  have small : ∀ y : Int, y = 0 ∨ (1 ≤ y ∧ y < w.Parent.length) → inR .i64 y := by intro y hy; rw [inR_i64]; omega
  have hpar : ∀ x : Int, 0 ≤ x → x < w.Parent.length → atI w.Parent x = 0 ∨ (1 ≤ atI w.Parent x ∧ atI w.Parent x < w.Parent.length) := by
    intro x a b
    by_cases h0 : x = 0
    · subst h0; exact .inl hn.p0
    · rcases hn.up x (by omega) b with h | h
      · exact .inl h.1
      · exact .inr h.1
  have hchi : ∀ x : Int, 0 ≤ x → x < w.Parent.length → atI w.Child x = 0 ∨ (1 ≤ atI w.Child x ∧ atI w.Child x < w.Parent.length) := by
    intro x a b
    by_cases h0 : x = 0
    · subst h0; exact .inl hn.c0
    · exact (hn.ch x (by omega) b).head
  have hnxt : ∀ x : Int, 0 ≤ x → x < w.Parent.length → atI w.Next x = 0 ∨ (1 ≤ atI w.Next x ∧ atI w.Next x < w.Parent.length) := by
    intro x a b
    by_cases h0 : x = 0
    · subst h0; exact .inl hn.n0
    · rcases hn.up x (by omega) b with h | h
      · exact .inl h.2
      · exact (hn.ch _ h.1.1 h.1.2).nextB x h.2
  have i16 : ∀ y : Int, (-32768 ≤ y ∧ y ≤ 32767) → inR .i64 y := by intro y hy; rw [inR_i64]; omega
  have hprod : t.Things.length * t.Props.length ≤ 128 * 16 := Nat.mul_le_mul d1.2 d2
  refine ⟨?_, hn, lc, ln, h2, h3, h4, h1, h5, d1, d2, h7, h8, h9, h10, h11, h12, h13, ?_, h15, h16⟩
  · unfold GWorld.wf
    refine ⟨by omega, fun y hy => i16 y (h7 y hy), by omega, fun y hy => ?_, by omega, fun y hy => ?_, by omega, fun y hy => ?_, by omega, fun y hy => ?_, by omega, fun y hy => i16 y (h8 y hy), by omega, fun y hy => ?_, ?_, i16 _ h11, ?_, ?_, ?_, ?_⟩
    · obtain ⟨i, a, b, rfl⟩ := mem_atI hy; exact small _ (hpar i a b)
    · obtain ⟨i, a, b, rfl⟩ := mem_atI hy; exact small _ (hchi i a (by omega))
    · obtain ⟨i, a, b, rfl⟩ := mem_atI hy; exact small _ (hnxt i a (by omega))
    · have := h9 y hy; rw [inR_i64]; omega
    · have := h10 y hy; rw [inR_i64]; omega
    · simp only [inR]; exact ⟨hs.1, by have := hs.2; show w.Seed ≤ 18446744073709551615; omega⟩
    · rw [inR_i64]; omega
    · rw [inR_i64]; omega
    · rw [inR_i64]; omega
    · rw [inR_i64]; omega
  · omega
end Go.Ab

namespace Go.Ab
open Go.Proofs
def catV (a : List Int) : List Int ⊕ OC → List Int ⊕ OC
  | .inl b => .inl (a ++ b)
  | .inr o => .inr o
def valI (c : XC) (n0 : Nat) (l : List GExpr) (fb lb rb g : Nat) (σ' : XS) (o : List Int ⊕ OC) (k : Nat) (s : St) : Prop :=
  ∃ (pre post : List GExpr) (σ : XS) (a : List Int) (g' : Nat) (r : List Int ⊕ OC), l = pre ++ post ∧ k = post.length ∧ g' ≤ g ∧ asksX c g' σ post = some (σ', r) ∧ o = catV a r ∧ a.length = pre.length ∧ σ.Ls.length = n0 ∧
    s = ⟨[(0, .bp 5001 0), (5, .rv 5), (8, .d (.sl (l.map GExpr.enc))), (9, .d (.v (.int .i64 l.length))), (10, .d (.v (.int .i64 pre.length)))], (5, .row 3 1 (dd (encI a))) :: [(5001, .box (fb + 1) 155 [.bp 5003 0, .sv 5002 n0]), (5002, .box (lb + 1) 3 (lsC σ.Ls)), (5003, .box (rb + 1) 86 (rnC c σ)), (5004, .row 5 1 (rowU σ.Out))]⟩
def valR (fb lb rb : Nat) (c : XC) (σ' : XS) (o : List Int ⊕ OC) (r : AE) (L : Heap) : Prop :=
  match o with
  | .inl a => r = .ret (.rv 5) ∧ L = (5, .row 3 1 (dd (encI a))) :: exL fb lb rb c σ'
  | .inr oc => r = ocE oc ∧ ∃ a : List Int, L = (5, .row 3 1 (dd (encI a))) :: exL fb lb rb c σ'
theorem valuesR_ok {c : XC} {g : Nat} (ih : ∀ g' < g, ExprOK c g') (σ : XS) (l : List GExpr) (σ' : XS) (o : List Int ⊕ OC) (hl : l.length ≤ 1000000) (h : asksX c g σ l = some (σ', o)) (fb lb rb : Nat) :
    ACalls Tryz.prog 198 [.bp 5001 0, .d (.sl (l.map GExpr.enc))] (exL fb lb rb c σ) (valR fb lb rb c σ' o) := by
  have hlen := (len_all c g).asks _ _ _ _ h
  unfold exL
  refine ACalls.runX [4] [5, 5001, 5002, 5003, 5004] Tryz.func198 rfl (by simp [Tryz.f198]) ?_; simp [-cB, Tryz.f198]
  refine AWP.weaken (Wk.own' (t := 5) (h := 5) (k := 1) (ty := 3) (by rfl) (by simp [keys])) ?_
  refine AWP.loopP [0, 5, 8, 9, 10] [5, 5001, 5002, 5003, 5004] (valI c σ.Ls.length l fb lb rb g σ' o) (by rfl) (by decide) ?_ ?_
  · refine ⟨by simp, l.length, [], l, σ, [], g, o, rfl, rfl, Nat.le_refl _, h, ?_, rfl, rfl, ?_⟩
    · cases o <;> rfl
    · simp [dd, encI]
  · rintro k s ⟨pre, post, σ1, a, g1, r, hsp, rfl, hg, hr, rfl, ha, hn, rfl⟩
    cases post with
    | nil =>
      obtain ⟨g2, rfl⟩ : ∃ j, g1 = j + 1 := by cases g1 with | zero => simp [asksX] at hr | succ j => exact ⟨j, rfl⟩
      simp only [asksX, Option.some.injEq, Prod.mk.injEq] at hr
      obtain ⟨rfl, rfl⟩ := hr
      have hlp : pre.length = l.length := by rw [hsp]; simp
      simp [-cB, catV, hlp, valR, exL, hn]
    | cons e post =>
      obtain ⟨g2, rfl⟩ : ∃ j, g1 = j + 1 := by cases g1 with | zero => simp [asksX] at hr | succ j => exact ⟨j, rfl⟩
      rw [asksX] at hr
      have hi : inR .i64 ((pre.length : Int) + 1) := by rw [inR_i64]; rw [hsp] at hl; simp at hl; omega
      have hlt : pre.length < l.length := by rw [hsp]; simp
      have he : l[pre.length]? = some e := by rw [hsp]; simp
      have he2 : l[pre.length] = e := by simp [hsp]
      revert hsp
      simp [-cB, hi, hlt, he, he2]
      intro hsp
      intro bs
      cases hx : askX c g2 σ1 e with
      | none => simp [hx] at hr
      | some p =>
        obtain ⟨σ2, oe⟩ := p
        have hC := ih g2 (by omega) σ1 e σ2 oe hx fb lb rb
        have hl2 := (len_all c g2).ask _ _ _ _ hx
        unfold exL at hC
        rw [hl2, hn] at hC
        rw [hx] at hr
        cases oe with
        | nrm n =>
          simp only at hr
          cases hy : asksX c g2 σ2 post with
          | none => simp [hy] at hr
          | some q =>
            obtain ⟨σ3, r1⟩ := q
            rw [hy] at hr
            obtain ⟨rfl, hr2⟩ : σ3 = σ' ∧ r = catV [n] r1 := by
              cases r1 <;> simp only [Option.some.injEq, Prod.mk.injEq] at hr <;> exact ⟨hr.1, hr.2.symm⟩
            have hin : inR .i64 ((a.length : Int) + 1) := by rw [ha]; exact hi
            refine AOps.effD [5001, 5002, 5003, 5004] rfl (hC) (by simp) rfl (by simp) rfl (by kernel_rfl) (by first | rfl | simp) (by simp) (by simp) (by simp) (by simp) ?_
            simp [-cB, hi, hin, ocE, LoopQ]
            refine ⟨by omega, post.length, by omega, pre ++ [e], post, σ2, a ++ [n], g2, r1, by rw [hsp]; simp, rfl, by omega, hy, ?_, by simp [ha], by rw [hl2, hn], ?_⟩
            · rw [hr2]; cases r1 <;> simp [catV]
            · simp
        | ret n =>
          simp only [Option.some.injEq, Prod.mk.injEq] at hr
          obtain ⟨rfl, rfl⟩ := hr
          refine AOps.effPan [5001, 5002, 5003, 5004] rfl (hC) (by simp) rfl (by simp) (by kernel_rfl) (by first | rfl | simp) (by simp) (by simp) (by simp) ?_
          simp [ocE, valR, catV, exL, hl2, hn]
          exact ⟨_, rfl⟩
        | thr n =>
          simp only [Option.some.injEq, Prod.mk.injEq] at hr
          obtain ⟨rfl, rfl⟩ := hr
          refine AOps.effPan [5001, 5002, 5003, 5004] rfl (hC) (by simp) rfl (by simp) (by kernel_rfl) (by first | rfl | simp) (by simp) (by simp) (by simp) ?_
          simp [ocE, valR, catV, exL, hl2, hn]
          exact ⟨_, rfl⟩
        | over =>
          simp only [Option.some.injEq, Prod.mk.injEq] at hr
          obtain ⟨rfl, rfl⟩ := hr
          refine AOps.effPan [5001, 5002, 5003, 5004] rfl (hC) (by simp) rfl (by simp) (by kernel_rfl) (by first | rfl | simp) (by simp) (by simp) (by simp) ?_
          simp [ocE, valR, catV, exL, hl2, hn]
          exact ⟨_, rfl⟩
theorem values_ok {c : XC} {g : Nat} (ih : ∀ g' < g, ExprOK c g') : ValuesOK c g := by
  intro σ l σ' o hl h fb lb rb
  have hlen := (len_all c g).asks _ _ _ _ h
  refine ACalls.wkP (valuesR_ok ih σ l σ' o hl h fb lb rb) ?_ ?_
  · intro x L' hR
    cases o with
    | inl a =>
      obtain ⟨e, rfl⟩ := hR
      obtain rfl := AE.ret.inj e
      refine ⟨_, _, Wk.freeze 5 (ys := encI a) rfl, ?_⟩
      simp [ocV, exL]
    | inr oc =>
      obtain ⟨e, a, rfl⟩ := hR
      cases oc with
      | nrm n =>
        simp only [ocE, AE.ret.injEq] at e
        subst e
        exact ⟨_, _, Wk.pick [0] [5001, 5002, 5003, 5004] (by rfl) (by decide) (by simp [exL]), by simp [exL, ocV, ocE]⟩
      | _ => simp [ocE] at e
  · intro y L' hR
    cases o with
    | inl a => cases hR.1
    | inr oc =>
      obtain ⟨e, a, rfl⟩ := hR
      refine ⟨_, ?_, Wk.pick [] [5001, 5002, 5003, 5004] (by rfl) (by decide) (by simp [exL]), ?_⟩
      · cases oc <;> simp [ocE] at e <;> subst e <;> simp
      · refine ⟨e, by simp [exL]⟩
end Go.Ab

namespace Go.Ab
open Go.Proofs
theorem truth_ok (b : Bool) : Pure Tryz.prog 315 [.d (.v (.bool b))] (.d (.v (.int .i64 (tru b)))) := by
  unfold tru
  cases b
  · refine Pure.run Tryz.func315 rfl (by simp [Tryz.f315]) ?_; simp [-cB, Tryz.f315]
  · refine Pure.run Tryz.func315 rfl (by simp [Tryz.f315]) ?_; simp [-cB, Tryz.f315]
theorem value1_ok {c : XC} {σ : XS} {e : GExpr} (hk : e.Kind = 1) (a : List Int) (fb lb rb : Nat) :
    ACalls Tryz.prog 291 [.bp 5001 0, .agg (e.enc.map V.d), .d (.sl (encI a))] (exL fb lb rb c σ) (fun r L => r = ocE (.nrm e.Num) ∧ L = exL fb lb rb c σ) := by
  unfold exL
  refine ACalls.runX [6] [5001, 5002, 5003, 5004] Tryz.func291 rfl (by simp [Tryz.f291]) ?_; simp [-cB, Tryz.f291]
  simp [-cB, hk, ocE]
theorem value14_ok {c : XC} {σ : XS} {e : GExpr} (hk : e.Kind = 14) (h : inL σ.W.Globals e.Num) (a : List Int) (fb lb rb : Nat) :
    ACalls Tryz.prog 291 [.bp 5001 0, .agg (e.enc.map V.d), .d (.sl (encI a))] (exL fb lb rb c σ) (fun r L => r = ocE (.nrm (getI σ.W.Globals e.Num)) ∧ L = exL fb lb rb c σ) := by
  unfold exL
  refine ACalls.runX [6] [5001, 5002, 5003, 5004] Tryz.func291 rfl (by simp [Tryz.f291]) ?_; simp [-cB, Tryz.f291]
  simp [-cB, hk]
  intro bs
  refine AWP.regionD [] Tryz.mixed (by kernel_rfl) (by rfl) ?_
  simp [ocE, getI]
  omega
theorem lsC_ld (l : List Int) (i : Nat) (h : i < l.length) : (lsC l)[i]?.getD V.any = .d (.v (.int .i64 (l[i]?.getD 0))) := by
  simp [lsC, List.getElem?_eq_getElem h]
theorem value15_ok {c : XC} {σ : XS} {e : GExpr} (hk : e.Kind = 15) (h : inL σ.Ls e.Num) (a : List Int) (fb lb rb : Nat) :
    ACalls Tryz.prog 291 [.bp 5001 0, .agg (e.enc.map V.d), .d (.sl (encI a))] (exL fb lb rb c σ) (fun r L => r = ocE (.nrm (getI σ.Ls e.Num)) ∧ L = exL fb lb rb c σ) := by
  have hg := lsC_ld σ.Ls e.Num.toNat (by omega)
  unfold exL
  refine ACalls.runX [6] [5001, 5002, 5003, 5004] Tryz.func291 rfl (by simp [Tryz.f291]) ?_; simp [-cB, Tryz.f291]
  simp [-cB, hk]
  intro bs
  refine AWP.regionD [] Tryz.mixed (by kernel_rfl) (by rfl) ?_
  simp [-lsC_get, ocE, getI, hg]
  omega
theorem value4_ok {c : XC} {σ : XS} {e : GExpr} (hk : e.Kind = 4) (x : Int) (a : List Int) (fb lb rb : Nat) :
    ACalls Tryz.prog 291 [.bp 5001 0, .agg (e.enc.map V.d), .d (.sl (encI (x :: a)))] (exL fb lb rb c σ) (fun r L => r = ocE (.nrm (negM x)) ∧ L = exL fb lb rb c σ) := by
  unfold exL
  refine ACalls.runX [6] [5001, 5002, 5003, 5004] Tryz.func291 rfl (by simp [Tryz.f291]) ?_; simp [-cB, Tryz.f291]
  simp [-cB, hk]
  intro bs
  refine AOps.pureC rfl (neg_ok _) rfl rfl (by simp) rfl ?_
  simp [ocE]
theorem value5_ok {c : XC} {σ : XS} {e : GExpr} (hk : e.Kind = 5) (x : Int) (a : List Int) (fb lb rb : Nat) :
    ACalls Tryz.prog 291 [.bp 5001 0, .agg (e.enc.map V.d), .d (.sl (encI (x :: a)))] (exL fb lb rb c σ) (fun r L => r = ocE (.nrm (tru (decide (wrapM x = 0)))) ∧ L = exL fb lb rb c σ) := by
  unfold exL
  refine ACalls.runX [6] [5001, 5002, 5003, 5004] Tryz.func291 rfl (by simp [Tryz.f291]) ?_; simp [-cB, Tryz.f291]
  simp [-cB, hk]
  intro bs
  refine AOps.pureC rfl (not_ok _) rfl rfl (by simp) rfl ?_
  simp [ocE]
theorem value10_ok {c : XC} {σ : XS} {e : GExpr} (hk : e.Kind = 10) (x : Int) (a : List Int) (hC : σ.W.Child.length = σ.W.Parent.length) (hN : σ.W.Next.length = σ.W.Parent.length) (fb lb rb : Nat) :
    ACalls Tryz.prog 291 [.bp 5001 0, .agg (e.enc.map V.d), .d (.sl (encI (x :: a)))] (exL fb lb rb c σ) (fun r L => r = ocE (errX σ (treeR σ.W e.Op x)).2 ∧ L = exL fb lb rb c σ) := by
  have hT := (tree_ok σ.W hC hN e.Op x)
  unfold pr2 at hT
  unfold exL errX
  generalize treeR σ.W e.Op x = p at *
  by_cases he : p.2 = 0
  · rw [he] at hT
    have hT := hT.ok
    refine ACalls.runX [6] [5001, 5002, 5003, 5004] Tryz.func291 rfl (by simp [Tryz.f291]) ?_; simp [-cB, Tryz.f291]
    simp [-cB, hk]
    intro bs
    refine AWP.regionD [.tup [.d (.v (.int .i64 p.1)), .d (.v (.int .i64 0))]] Tryz.mixed (by kernel_rfl) (by rfl) ?_
    simp [-cB, hT]
    refine AOps.pureC rfl (must0_ok) rfl rfl (by simp) rfl ?_
    simp [ocE, he]
  · have hT := hT.ok
    refine ACalls.runX [6] [5001, 5002, 5003, 5004] Tryz.func291 rfl (by simp [Tryz.f291]) ?_; simp [-cB, Tryz.f291]
    simp [-cB, hk]
    intro bs
    refine AWP.regionD [.tup [.d (.v (.int .i64 p.1)), .d (.v (.int .i64 p.2))]] Tryz.mixed (by kernel_rfl) (by rfl) ?_
    simp [-cB, hT]
    refine AOps.effPan [] rfl (mustE_ok he) (by simp) rfl (by simp) (by kernel_rfl) (by first | rfl | simp) (by simp) (by simp) (by simp) ?_
    simp [ocE, he]
theorem value17_ok {c : XC} {σ : XS} {e : GExpr} (hk : e.Kind = 17) (x : Int) (a : List Int) (hn : σ.W.Parent.length ≤ 32768) (hkk : c.B.Tables.Props.length ≤ 65536) (hm : σ.W.Parent.length * c.B.Tables.Props.length = σ.W.Props.length) (fb lb rb : Nat) :
    ACalls Tryz.prog 291 [.bp 5001 0, .agg (e.enc.map V.d), .d (.sl (encI (x :: a)))] (exL fb lb rb c σ) (fun r L => r = ocE (errX σ (propR c.B.Tables σ.W x e.Num)).2 ∧ L = exL fb lb rb c σ) := by
  have hT := (prop_ok c.B.Tables σ.W hn hkk hm x e.Num)
  unfold pr2 at hT
  unfold exL errX
  generalize propR c.B.Tables σ.W x e.Num = p at *
  by_cases he : p.2 = 0
  · rw [he] at hT
    have hT := hT.ok
    refine ACalls.runX [6] [5001, 5002, 5003, 5004] Tryz.func291 rfl (by simp [Tryz.f291]) ?_; simp [-cB, Tryz.f291]
    simp [-cB, hk]
    intro bs
    refine AWP.regionD [.tup [.d (.v (.int .i64 p.1)), .d (.v (.int .i64 0))]] Tryz.mixed (by kernel_rfl) (by rfl) ?_
    simp [-cB, hT]
    refine AOps.pureC rfl (must0_ok) rfl rfl (by simp) rfl ?_
    simp [ocE, he]
  · have hT := hT.ok
    refine ACalls.runX [6] [5001, 5002, 5003, 5004] Tryz.func291 rfl (by simp [Tryz.f291]) ?_; simp [-cB, Tryz.f291]
    simp [-cB, hk]
    intro bs
    refine AWP.regionD [.tup [.d (.v (.int .i64 p.1)), .d (.v (.int .i64 p.2))]] Tryz.mixed (by kernel_rfl) (by rfl) ?_
    simp [-cB, hT]
    refine AOps.effPan [] rfl (mustE_ok he) (by simp) rfl (by simp) (by kernel_rfl) (by first | rfl | simp) (by simp) (by simp) (by simp) ?_
    simp [ocE, he]
theorem value12_ok {c : XC} {σ : XS} {e : GExpr} (hk : e.Kind = 12) (a : List Int) (hw : σ.W.wf) (hn : σ.W.Parent.length ≤ 32768) (fb lb rb : Nat) :
    ACalls Tryz.prog 291 [.bp 5001 0, .agg (e.enc.map V.d), .d (.sl (encI a))] (exL fb lb rb c σ) (fun r L => r = ocE (errX σ (selfR σ.W c.E e.Op)).2 ∧ L = exL fb lb rb c σ) := by
  have hT := (self_ok σ.W hw hn c.E e.Op)
  unfold pr2 at hT
  unfold exL errX
  generalize selfR σ.W c.E e.Op = p at *
  by_cases he : p.2 = 0
  · rw [he] at hT
    have hT := hT.ok
    refine ACalls.runX [6] [5001, 5002, 5003, 5004] Tryz.func291 rfl (by simp [Tryz.f291]) ?_; simp [-cB, Tryz.f291]
    simp [-cB, hk]
    intro bs
    refine AWP.regionD [.tup [.d (.v (.int .i64 p.1)), .d (.v (.int .i64 0))]] Tryz.mixed (by kernel_rfl) (by rfl) ?_
    simp [-cB, hT]
    refine AOps.pureC rfl (must0_ok) rfl rfl (by simp) rfl ?_
    simp [ocE, he]
  · have hT := hT.ok
    refine ACalls.runX [6] [5001, 5002, 5003, 5004] Tryz.func291 rfl (by simp [Tryz.f291]) ?_; simp [-cB, Tryz.f291]
    simp [-cB, hk]
    intro bs
    refine AWP.regionD [.tup [.d (.v (.int .i64 p.1)), .d (.v (.int .i64 p.2))]] Tryz.mixed (by kernel_rfl) (by rfl) ?_
    simp [-cB, hT]
    refine AOps.effPan [] rfl (mustE_ok he) (by simp) rfl (by simp) (by kernel_rfl) (by first | rfl | simp) (by simp) (by simp) (by simp) ?_
    simp [ocE, he]
theorem value6_ok {c : XC} {σ : XS} {e : GExpr} (hk : e.Kind = 6) (x y : Int) (a : List Int) (hC : σ.W.Child.length = σ.W.Parent.length) (hN : σ.W.Next.length = σ.W.Parent.length) (fb lb rb : Nat) :
    ACalls Tryz.prog 291 [.bp 5001 0, .agg (e.enc.map V.d), .d (.sl (encI (x :: y :: a)))] (exL fb lb rb c σ) (fun r L => r = ocE (errX σ (binR σ.W e.Op x y)).2 ∧ L = exL fb lb rb c σ) := by
  have hT := bin_ok σ.W hC hN e.Op x y
  unfold pr2 at hT
  unfold exL errX
  generalize binR σ.W e.Op x y = p at *
  by_cases he : p.2 = 0
  · rw [he] at hT
    have hT := hT.ok
    refine ACalls.runX [6] [5001, 5002, 5003, 5004] Tryz.func291 rfl (by simp [Tryz.f291]) ?_; simp [-cB, Tryz.f291]
    simp [-cB, hk]
    intro bs
    refine AWP.regionD [.tup [.d (.v (.int .i64 p.1)), .d (.v (.int .i64 0))]] Tryz.mixed (by kernel_rfl) (by rfl) ?_
    simp [-cB, hT]
    refine AOps.pureC rfl (must0_ok) rfl rfl (by simp) rfl ?_
    simp [ocE, he]
  · have hT := hT.ok
    refine ACalls.runX [6] [5001, 5002, 5003, 5004] Tryz.func291 rfl (by simp [Tryz.f291]) ?_; simp [-cB, Tryz.f291]
    simp [-cB, hk]
    intro bs
    refine AWP.regionD [.tup [.d (.v (.int .i64 p.1)), .d (.v (.int .i64 p.2))]] Tryz.mixed (by kernel_rfl) (by rfl) ?_
    simp [-cB, hT]
    refine AOps.effPan [] rfl (mustE_ok he) (by simp) rfl (by simp) (by kernel_rfl) (by first | rfl | simp) (by simp) (by simp) (by simp) ?_
    simp [ocE, he]
theorem value18_ok {c : XC} {g : Nat} (ih : CallOK c g) {σ σ' : XS} {e : GExpr} {o : OC} (hk : e.Kind = 18) {a : List Int} (ha : a.length ≤ 1000000) (hi : inL c.B.Tables.Funcs e.Num) (h : callX c g σ (getI c.B.Tables.Funcs e.Num) a = some (σ', o)) (fb lb rb : Nat) :
    ACalls Tryz.prog 291 [.bp 5001 0, .agg (e.enc.map V.d), .d (.sl (encI a))] (exL fb lb rb c σ) (fun r L => r = ocE o ∧ L = exL fb lb rb c σ') := by
  have hC := ih σ _ a σ' o ha h rb
  have hl := call_ls h
  unfold exL
  unfold ruL getI at hC
  rw [hl]
  refine ACalls.runX [6] [5001, 5002, 5003, 5004] Tryz.func291 rfl (by simp [Tryz.f291]) ?_; simp [-cB, Tryz.f291]
  simp [-cB, hk]
  intro bs
  refine AWP.regionSt [some (0, 0), some (0, 0), some (0, 0), some (0, 0), some (0, 0), some (0, 0), some (0, 0), some (0, 0), some (0, 0), some (0, 0), some (0, 0), some (0, 0), some (0, 0), some (0, 0), some (0, 0), some (0, 0), some (0, 0), some (0, 0), none, some (1, 1)] [] [] Tryz.mixed (by kernel_rfl) ?_
  simp [-cB]
  refine ⟨by omega, ?_⟩
  cases o with
  | nrm n =>
    refine stopS.ret rfl (fun _ => LOp.call (s := ⟨_, _⟩) 5004 [5003, 5004] rfl (hC) (by simp) rfl (by kernel_rfl) (by first | rfl | simp) (by simp) (boxes_stay (by simp)) (by simp) (by simp)) ?_
    simp [-cB, ocE]
  | ret n =>
    refine stopS.pan rfl (fun _ => LOpP.call (s := ⟨_, _⟩) [5003, 5004] rfl (hC) (by simp) rfl (by kernel_rfl) (by first | rfl | simp) (by simp) (boxes_stay (by simp)) (by simp) (by simp)) ?_
    simp [-cB, ocE]
  | thr n =>
    refine stopS.pan rfl (fun _ => LOpP.call (s := ⟨_, _⟩) [5003, 5004] rfl (hC) (by simp) rfl (by kernel_rfl) (by first | rfl | simp) (by simp) (boxes_stay (by simp)) (by simp) (by simp)) ?_
    simp [-cB, ocE]
  | over =>
    refine stopS.pan rfl (fun _ => LOpP.call (s := ⟨_, _⟩) [5003, 5004] rfl (hC) (by simp) rfl (by kernel_rfl) (by first | rfl | simp) (by simp) (boxes_stay (by simp)) (by simp) (by simp)) ?_
    simp [-cB, ocE]
theorem okW_of {c : XC} {w : GWorld} (hf : fitsB c.B.Tables = true) (h : okW c w = true) : OkW c.B.Tables w := by
  unfold okW at h
  simp only [Bool.and_eq_true, decide_eq_true_eq] at h
  exact OkW.of hf h.1 h.2
theorem err_eq {σ σ' : XS} {p : Int × Int} {o : OC} (h : errX σ p = (σ', o)) : σ' = σ ∧ o = (errX σ p).2 := by
  rw [h]
  unfold errX at h
  split at h <;> simp only [Prod.mk.injEq] at h <;> exact ⟨h.1.symm, rfl⟩
theorem exvalue_ok {c : XC} (hf : fitsB c.B.Tables = true) {σ σ' : XS} {e : GExpr} {a : List Int} {o : OC} (h : valX c σ e a = some (σ', o)) (fb lb rb : Nat) :
    ACalls Tryz.prog 291 [.bp 5001 0, .agg (e.enc.map V.d), .d (.sl (encI a))] (exL fb lb rb c σ) (fun r L => r = ocE o ∧ L = exL fb lb rb c σ') := by
  unfold valX at h
  split at h
  · rename_i hk
    simp only [Option.some.injEq, Prod.mk.injEq] at h
    obtain ⟨rfl, rfl⟩ := h
    exact value1_ok hk a fb lb rb
  split at h
  · rename_i hk
    split at h
    · rename_i hi
      simp only [Option.some.injEq, Prod.mk.injEq] at h
      obtain ⟨rfl, rfl⟩ := h
      exact value14_ok hk hi a fb lb rb
    · cases h
  split at h
  · rename_i hk
    split at h
    · rename_i hi
      simp only [Option.some.injEq, Prod.mk.injEq] at h
      obtain ⟨rfl, rfl⟩ := h
      exact value15_ok hk hi a fb lb rb
    · cases h
  split at h
  · rename_i hk
    cases a with
    | nil => simp at h
    | cons x a =>
      simp [getI] at h
      obtain ⟨rfl, rfl⟩ := h
      exact value4_ok hk x a fb lb rb
  split at h
  · rename_i hk
    cases a with
    | nil => simp at h
    | cons x a =>
      simp [getI] at h
      obtain ⟨rfl, rfl⟩ := h
      exact value5_ok hk x a fb lb rb
  split at h
  · rename_i hk
    match a, h with
    | [], h => simp at h
    | [x], h => simp at h
    | x :: y :: a, h =>
      split at h
      · rename_i hw
        have hO := okW_of hf hw.2
        obtain ⟨rfl, rfl⟩ := err_eq (Option.some.inj h)
        exact value6_ok hk x y a hO.hC hO.hN fb lb rb
      · cases h
  split at h
  · rename_i hk
    cases a with
    | nil => simp at h
    | cons x a =>
      split at h
      · rename_i hw
        have hO := okW_of hf hw.2
        have h1 := hO.hn
        have h2 := hO.hT
        have h3 := hO.hp
        obtain ⟨rfl, rfl⟩ := err_eq (Option.some.inj h)
        exact value17_ok hk x a (by omega) (by omega) (by rw [hO.hT, hO.hP]) fb lb rb
      · cases h
  split at h
  · rename_i hk
    cases a with
    | nil => simp at h
    | cons x a =>
      split at h
      · rename_i hw
        have hO := okW_of hf hw.2
        obtain ⟨rfl, rfl⟩ := err_eq (Option.some.inj h)
        exact value10_ok hk x a hO.hC hO.hN fb lb rb
      · cases h
  split at h
  · rename_i hk
    split at h
    · rename_i hw
      have hO := okW_of hf hw
      have h1 := hO.hn
      have h2 := hO.hT
      obtain ⟨rfl, rfl⟩ := err_eq (Option.some.inj h)
      exact value12_ok hk a hO.wf (by omega) fb lb rb
    · cases h
  · cases h
end Go.Ab

namespace Go.Ab
open Go.Proofs
theorem logic_ok {c : XC} {g : Nat} (ih : ExprOK c g) {σ σ' : XS} {e : GExpr} {o : OC} {x y : GExpr} {l : List GExpr} (hA : e.Args = x :: y :: l) (hop : e.Op = 1 ∨ e.Op = 2)
    (h : (match askX c g σ x with
        | some (σ1, .nrm l) => if decide (l ≠ 0) = decide (e.Op = 1) then some (σ1, .nrm (tru (decide (l ≠ 0)))) else match askX c g σ1 y with
          | some (σ2, .nrm r) => some (σ2, .nrm (tru (decide (r ≠ 0))))
          | r => r
        | r => r) = some (σ', o)) (fb lb rb : Nat) :
    ACalls Tryz.prog 290 [.bp 5001 0, .agg (e.enc.map V.d)] (exL fb lb rb c σ) (fun r L => r = ocE o ∧ L = exL fb lb rb c σ') := by
  cases hx : askX c g σ x with
  | none => simp [hx] at h
  | some p =>
    obtain ⟨σ1, ox⟩ := p
    have hC := ih σ x σ1 ox hx fb lb rb
    have hl := (len_all c g).ask _ _ _ _ hx
    unfold exL at hC
    rw [hl] at hC
    rw [hx] at h
    unfold exL
    refine ACalls.runX [4] [5001, 5002, 5003, 5004] Tryz.func290 rfl (by simp [Tryz.f290]) ?_; simp [-cB, Tryz.f290]
    intro bs
    simp [-cB, hA]
    cases ox with
    | nrm n =>
      simp only at h
      refine AOps.effD [5001, 5002, 5003, 5004] rfl (hC) (by simp) rfl (by simp) rfl (by kernel_rfl) (by first | rfl | simp) (by simp) (by simp) (by simp) (by simp) ?_
      simp [-cB, ocE]
      rcases hop with he | he
      · by_cases hz : n = 0
        · have hne : (n != 0) = false := by simp [hz]
          rw [if_neg (by simp [he, hz])] at h
          simp [-cB, he, hz, hne, hA]
          cases hy : askX c g σ1 y with
          | none => simp [hy] at h
          | some q =>
            obtain ⟨σ2, oy⟩ := q
            have hD := ih σ1 y σ2 oy hy fb lb rb
            have hl2 := (len_all c g).ask _ _ _ _ hy
            unfold exL at hD
            rw [hl2, hl] at hD
            rw [hy] at h
            cases oy with
            | nrm k =>
              simp only [Option.some.injEq, Prod.mk.injEq] at h
              obtain ⟨rfl, rfl⟩ := h
              refine AOps.effD [5001, 5002, 5003, 5004] rfl (hD) (by simp) rfl (by simp) rfl (by kernel_rfl) (by first | rfl | simp) (by simp) (by simp) (by simp) (by simp) ?_
              simp [-cB, ocE]
              refine AOps.pureC rfl (truth_ok _) rfl rfl (by simp) rfl ?_
              simp [-cB, ocE, hl, hl2]
              rfl
            | ret k =>
              simp only [Option.some.injEq, Prod.mk.injEq] at h
              obtain ⟨rfl, rfl⟩ := h
              refine AOps.effPan [5001, 5002, 5003, 5004] rfl (hD) (by simp) rfl (by simp) (by kernel_rfl) (by first | rfl | simp) (by simp) (by simp) (by simp) ?_
              simp [ocE, hl, hl2]
            | thr k =>
              simp only [Option.some.injEq, Prod.mk.injEq] at h
              obtain ⟨rfl, rfl⟩ := h
              refine AOps.effPan [5001, 5002, 5003, 5004] rfl (hD) (by simp) rfl (by simp) (by kernel_rfl) (by first | rfl | simp) (by simp) (by simp) (by simp) ?_
              simp [ocE, hl, hl2]
            | over =>
              simp only [Option.some.injEq, Prod.mk.injEq] at h
              obtain ⟨rfl, rfl⟩ := h
              refine AOps.effPan [5001, 5002, 5003, 5004] rfl (hD) (by simp) rfl (by simp) (by kernel_rfl) (by first | rfl | simp) (by simp) (by simp) (by simp) ?_
              simp [ocE, hl, hl2]
        · have hne : (n != 0) = true := by simp [hz]
          rw [if_pos (by simp [he, hz])] at h
          simp [-cB, he, hz, hne, hA]
          simp only [Option.some.injEq, Prod.mk.injEq] at h
          obtain ⟨rfl, rfl⟩ := h
          refine AOps.pureC rfl (truth_ok _) rfl rfl (by simp) rfl ?_
          simp [-cB, ocE, hl, hz, hne]
      · by_cases hz : n = 0
        · have hne : (n != 0) = false := by simp [hz]
          rw [if_pos (by simp [he, hz])] at h
          simp [-cB, he, hz, hne, hA]
          simp only [Option.some.injEq, Prod.mk.injEq] at h
          obtain ⟨rfl, rfl⟩ := h
          refine AOps.pureC rfl (truth_ok _) rfl rfl (by simp) rfl ?_
          simp [-cB, ocE, hl, hz, hne]
        · have hne : (n != 0) = true := by simp [hz]
          rw [if_neg (by simp [he, hz])] at h
          simp [-cB, he, hz, hne, hA]
          cases hy : askX c g σ1 y with
          | none => simp [hy] at h
          | some q =>
            obtain ⟨σ2, oy⟩ := q
            have hD := ih σ1 y σ2 oy hy fb lb rb
            have hl2 := (len_all c g).ask _ _ _ _ hy
            unfold exL at hD
            rw [hl2, hl] at hD
            rw [hy] at h
            cases oy with
            | nrm k =>
              simp only [Option.some.injEq, Prod.mk.injEq] at h
              obtain ⟨rfl, rfl⟩ := h
              refine AOps.effD [5001, 5002, 5003, 5004] rfl (hD) (by simp) rfl (by simp) rfl (by kernel_rfl) (by first | rfl | simp) (by simp) (by simp) (by simp) (by simp) ?_
              simp [-cB, ocE]
              refine AOps.pureC rfl (truth_ok _) rfl rfl (by simp) rfl ?_
              simp [-cB, ocE, hl, hl2]
              rfl
            | ret k =>
              simp only [Option.some.injEq, Prod.mk.injEq] at h
              obtain ⟨rfl, rfl⟩ := h
              refine AOps.effPan [5001, 5002, 5003, 5004] rfl (hD) (by simp) rfl (by simp) (by kernel_rfl) (by first | rfl | simp) (by simp) (by simp) (by simp) ?_
              simp [ocE, hl, hl2]
            | thr k =>
              simp only [Option.some.injEq, Prod.mk.injEq] at h
              obtain ⟨rfl, rfl⟩ := h
              refine AOps.effPan [5001, 5002, 5003, 5004] rfl (hD) (by simp) rfl (by simp) (by kernel_rfl) (by first | rfl | simp) (by simp) (by simp) (by simp) ?_
              simp [ocE, hl, hl2]
            | over =>
              simp only [Option.some.injEq, Prod.mk.injEq] at h
              obtain ⟨rfl, rfl⟩ := h
              refine AOps.effPan [5001, 5002, 5003, 5004] rfl (hD) (by simp) rfl (by simp) (by kernel_rfl) (by first | rfl | simp) (by simp) (by simp) (by simp) ?_
              simp [ocE, hl, hl2]
    | ret n =>
      simp only [Option.some.injEq, Prod.mk.injEq] at h
      obtain ⟨rfl, rfl⟩ := h
      refine AOps.effPan [5001, 5002, 5003, 5004] rfl (hC) (by simp) rfl (by simp) (by kernel_rfl) (by first | rfl | simp) (by simp) (by simp) (by simp) ?_
      simp [ocE, hl]
    | thr n =>
      simp only [Option.some.injEq, Prod.mk.injEq] at h
      obtain ⟨rfl, rfl⟩ := h
      refine AOps.effPan [5001, 5002, 5003, 5004] rfl (hC) (by simp) rfl (by simp) (by kernel_rfl) (by first | rfl | simp) (by simp) (by simp) (by simp) ?_
      simp [ocE, hl]
    | over =>
      simp only [Option.some.injEq, Prod.mk.injEq] at h
      obtain ⟨rfl, rfl⟩ := h
      refine AOps.effPan [5001, 5002, 5003, 5004] rfl (hC) (by simp) rfl (by simp) (by kernel_rfl) (by first | rfl | simp) (by simp) (by simp) (by simp) ?_
      simp [ocE, hl]
theorem expr1_ok {c : XC} {g : Nat} (hV : ValuesOK c g) {σ σ1 : XS} {e : GExpr} (hk : ¬ (e.Kind = 6 ∧ (e.Op = 1 ∨ e.Op = 2))) (hA : e.Args.length ≤ 1000000) {a : List Int} (ha : asksX c g σ e.Args = some (σ1, .inl a)) {σ' : XS} {o : OC}
    (hv : ∀ fb lb rb, ACalls Tryz.prog 291 [.bp 5001 0, .agg (e.enc.map V.d), .d (.sl (encI a))] (exL fb lb rb c σ1) (fun r L => r = ocE o ∧ L = exL fb lb rb c σ')) (hl2 : σ'.Ls.length = σ1.Ls.length) (fb lb rb : Nat) :
    ACalls Tryz.prog 248 [.bp 5001 0, .agg (e.enc.map V.d)] (exL fb lb rb c σ) (fun r L => r = ocE (wrapO (σ', o)).2 ∧ L = exL fb lb rb c σ') := by
  have hl := (len_all c g).asks _ _ _ _ ha
  have h1 := hV σ e.Args σ1 (.inl a) hA ha fb lb rb
  have h2 := hv fb lb rb
  unfold exL at h1 h2 ⊢
  rw [hl] at h1 h2
  rw [hl2, hl] at h2
  rw [hl2, hl]
  refine ACalls.runX [4] [5001, 5002, 5003, 5004] Tryz.func248 rfl (by simp [Tryz.f248]) ?_; simp [-cB, Tryz.f248]
  intro bs
  have hk1 : (decide (e.Kind = 6) && (decide (e.Op = 1) || decide (e.Op = 2))) = false := by simpa using hk
  refine ⟨by omega, ?_⟩
  cases o with
  | nrm n =>
    simp [-cB, hk1]
    refine AWP.regionSt [some (0, 1), some (0, 1), some (0, 0), some (0, 0), some (0, 0), none, none, some (2, 2), some (2, 2)] [] [.d (.v (.int .i64 (wrapM n)))] Tryz.mixed (by kernel_rfl) ?_
    simp [-cB]
    refine stopS.ret rfl (fun _ => LOp.call (s := ⟨_, _⟩) 5004 [5001, 5002, 5003, 5004] rfl (h1) (by simp) rfl (by kernel_rfl) (by first | rfl | simp) (by simp) (boxes_stay (by simp)) (by simp) (by simp)) ?_
    simp [-cB, ocV]
    refine stopS.ret rfl (fun _ => LOp.call (s := ⟨_, _⟩) 5004 [5001, 5002, 5003, 5004] rfl (h2) (by simp) rfl (by kernel_rfl) (by first | rfl | simp) (by simp) (boxes_stay (by simp)) (by simp) (by simp)) ?_
    have hw := (wrap_ok n).ok
    simp [-cB, ocE, hw]
    rfl
  | ret n =>
    simp [-cB, hk1]
    refine AWP.regionSt [some (0, 1), some (0, 1), some (0, 0), some (0, 0), some (0, 0), none, none, some (2, 2), some (2, 2)] [] [] Tryz.mixed (by kernel_rfl) ?_
    simp [-cB]
    refine stopS.ret rfl (fun _ => LOp.call (s := ⟨_, _⟩) 5004 [5001, 5002, 5003, 5004] rfl (h1) (by simp) rfl (by kernel_rfl) (by first | rfl | simp) (by simp) (boxes_stay (by simp)) (by simp) (by simp)) ?_
    simp [-cB, ocV]
    refine stopS.pan rfl (fun _ => LOpP.call (s := ⟨_, _⟩) [5001, 5002, 5003, 5004] rfl (h2) (by simp) rfl (by kernel_rfl) (by first | rfl | simp) (by simp) (boxes_stay (by simp)) (by simp) (by simp)) ?_
    simp [-cB, ocE]
    rfl
  | thr n =>
    simp [-cB, hk1]
    refine AWP.regionSt [some (0, 1), some (0, 1), some (0, 0), some (0, 0), some (0, 0), none, none, some (2, 2), some (2, 2)] [] [] Tryz.mixed (by kernel_rfl) ?_
    simp [-cB]
    refine stopS.ret rfl (fun _ => LOp.call (s := ⟨_, _⟩) 5004 [5001, 5002, 5003, 5004] rfl (h1) (by simp) rfl (by kernel_rfl) (by first | rfl | simp) (by simp) (boxes_stay (by simp)) (by simp) (by simp)) ?_
    simp [-cB, ocV]
    refine stopS.pan rfl (fun _ => LOpP.call (s := ⟨_, _⟩) [5001, 5002, 5003, 5004] rfl (h2) (by simp) rfl (by kernel_rfl) (by first | rfl | simp) (by simp) (boxes_stay (by simp)) (by simp) (by simp)) ?_
    simp [-cB, ocE]
    rfl
  | over =>
    simp [-cB, hk1]
    refine AWP.regionSt [some (0, 1), some (0, 1), some (0, 0), some (0, 0), some (0, 0), none, none, some (2, 2), some (2, 2)] [] [] Tryz.mixed (by kernel_rfl) ?_
    simp [-cB]
    refine stopS.ret rfl (fun _ => LOp.call (s := ⟨_, _⟩) 5004 [5001, 5002, 5003, 5004] rfl (h1) (by simp) rfl (by kernel_rfl) (by first | rfl | simp) (by simp) (boxes_stay (by simp)) (by simp) (by simp)) ?_
    simp [-cB, ocV]
    refine stopS.pan rfl (fun _ => LOpP.call (s := ⟨_, _⟩) [5001, 5002, 5003, 5004] rfl (h2) (by simp) rfl (by kernel_rfl) (by first | rfl | simp) (by simp) (boxes_stay (by simp)) (by simp) (by simp)) ?_
    simp [-cB, ocE]
    rfl
theorem expr2_ok {c : XC} {g : Nat} (hV : ValuesOK c g) {σ σ1 : XS} {e : GExpr} (hk : ¬ (e.Kind = 6 ∧ (e.Op = 1 ∨ e.Op = 2))) (hA : e.Args.length ≤ 1000000) {o : OC} (ho : ∀ n, o ≠ .nrm n) (ha : asksX c g σ e.Args = some (σ1, .inr o)) (fb lb rb : Nat) :
    ACalls Tryz.prog 248 [.bp 5001 0, .agg (e.enc.map V.d)] (exL fb lb rb c σ) (fun r L => r = ocE o ∧ L = exL fb lb rb c σ1) := by
  have hl := (len_all c g).asks _ _ _ _ ha
  have h1 := hV σ e.Args σ1 (.inr o) hA ha fb lb rb
  unfold exL at h1 ⊢
  rw [hl] at h1 ⊢
  refine ACalls.runX [4] [5001, 5002, 5003, 5004] Tryz.func248 rfl (by simp [Tryz.f248]) ?_; simp [-cB, Tryz.f248]
  intro bs
  have hk1 : (decide (e.Kind = 6) && (decide (e.Op = 1) || decide (e.Op = 2))) = false := by simpa using hk
  refine ⟨by omega, ?_⟩
  cases o with
  | nrm n => exact (ho n rfl).elim
  | ret n =>
    simp [-cB, hk1]
    refine AWP.regionSt [some (0, 1), some (0, 1), some (0, 0), some (0, 0), some (0, 0), none, none, some (2, 2), some (2, 2)] [] [] Tryz.mixed (by kernel_rfl) ?_
    simp [-cB]
    refine stopS.pan rfl (fun _ => LOpP.call (s := ⟨_, _⟩) [5001, 5002, 5003, 5004] rfl (h1) (by simp) rfl (by kernel_rfl) (by first | rfl | simp) (by simp) (boxes_stay (by simp)) (by simp) (by simp)) ?_
    simp [-cB, ocE]
  | thr n =>
    simp [-cB, hk1]
    refine AWP.regionSt [some (0, 1), some (0, 1), some (0, 0), some (0, 0), some (0, 0), none, none, some (2, 2), some (2, 2)] [] [] Tryz.mixed (by kernel_rfl) ?_
    simp [-cB]
    refine stopS.pan rfl (fun _ => LOpP.call (s := ⟨_, _⟩) [5001, 5002, 5003, 5004] rfl (h1) (by simp) rfl (by kernel_rfl) (by first | rfl | simp) (by simp) (boxes_stay (by simp)) (by simp) (by simp)) ?_
    simp [-cB, ocE]
  | over =>
    simp [-cB, hk1]
    refine AWP.regionSt [some (0, 1), some (0, 1), some (0, 0), some (0, 0), some (0, 0), none, none, some (2, 2), some (2, 2)] [] [] Tryz.mixed (by kernel_rfl) ?_
    simp [-cB]
    refine stopS.pan rfl (fun _ => LOpP.call (s := ⟨_, _⟩) [5001, 5002, 5003, 5004] rfl (h1) (by simp) rfl (by kernel_rfl) (by first | rfl | simp) (by simp) (boxes_stay (by simp)) (by simp) (by simp)) ?_
    simp [-cB, ocE]
theorem asks_stop {c : XC} : ∀ {g : Nat} {σ σ1 : XS} {l : List GExpr} {o : OC}, asksX c g σ l = some (σ1, .inr o) → ∀ n, o ≠ .nrm n
  | 0, _, _, _, _, h => by simp [asksX] at h
  | _ + 1, _, _, [], _, h => by simp [asksX] at h
  | g + 1, σ, σ1, e :: l, o, h => by
    rw [asksX] at h
    intro n
    split at h
    · rename_i σ2 k h1
      split at h
      · rename_i h2; cases h
      · rename_i h2
        exact asks_stop h n
    · rename_i σ2 o2 h1 h2
      simp only [Option.some.injEq, Prod.mk.injEq, Sum.inr.injEq] at h
      obtain ⟨rfl, rfl⟩ := h
      rintro rfl
      exact h1 _ rfl
    · cases h
theorem asks_len {c : XC} : ∀ {g : Nat} {σ σ1 : XS} {l : List GExpr} {a : List Int}, asksX c g σ l = some (σ1, .inl a) → a.length = l.length
  | 0, _, _, _, _, h => by simp [asksX] at h
  | _ + 1, _, _, [], _, h => by
    simp only [asksX, Option.some.injEq, Prod.mk.injEq, Sum.inl.injEq] at h
    obtain ⟨_, rfl⟩ := h
    rfl
  | g + 1, σ, σ1, e :: l, a, h => by
    rw [asksX] at h
    split at h
    · rename_i σ2 k h1
      split at h
      · rename_i σ3 b h2
        simp only [Option.some.injEq, Prod.mk.injEq, Sum.inl.injEq] at h
        obtain ⟨rfl, rfl⟩ := h
        simp [asks_len h2]
      · rename_i h2
        cases hx : asksX c g σ2 l with
        | none => rw [hx] at h; cases h
        | some p =>
          obtain ⟨σ3, r⟩ := p
          cases r with
          | inl b => exact (h2 σ3 b hx).elim
          | inr b => rw [hx] at h; cases h
    · cases h
    · cases h
theorem expr_ok {c : XC} (hf : fitsB c.B.Tables = true) {g : Nat} (hE : ExprOK c g) (hV : ValuesOK c g) (hC : CallOK c g) : ExprOK c (g + 1) := by
  intro σ e σ' o h fb lb rb
  rw [askX] at h
  split at h
  · rename_i hk
    split at h
    · rename_i x y l hA
      have h1 := logic_ok hE hA hk.2 h fb lb rb
      have hl := (len_all c (g + 1)).ask σ e σ' o (by rw [askX, if_pos hk, hA]; exact h)
      have hk1 : (decide (e.Kind = 6) && (decide (e.Op = 1) || decide (e.Op = 2))) = true := by simpa using hk
      unfold exL at h1 ⊢
      rw [hl] at h1 ⊢
      refine ACalls.runX [4] [5001, 5002, 5003, 5004] Tryz.func248 rfl (by simp [Tryz.f248]) ?_; simp [-cB, Tryz.f248]
      intro bs
      refine ⟨by omega, ?_⟩
      simp [-cB, hk1]
      cases o with
      | nrm n =>
        refine AOps.effD [5001, 5002, 5003, 5004] rfl (h1) (by simp) rfl (by simp) rfl (by kernel_rfl) (by first | rfl | simp) (by simp) (by simp) (by simp) (by simp) ?_
        simp [-cB, ocE]
      | ret n =>
        refine AOps.effPan [5001, 5002, 5003, 5004] rfl (h1) (by simp) rfl (by simp) (by kernel_rfl) (by first | rfl | simp) (by simp) (by simp) (by simp) ?_
        simp [-cB, ocE]
      | thr n =>
        refine AOps.effPan [5001, 5002, 5003, 5004] rfl (h1) (by simp) rfl (by simp) (by kernel_rfl) (by first | rfl | simp) (by simp) (by simp) (by simp) ?_
        simp [-cB, ocE]
      | over =>
        refine AOps.effPan [5001, 5002, 5003, 5004] rfl (h1) (by simp) rfl (by simp) (by kernel_rfl) (by first | rfl | simp) (by simp) (by simp) (by simp) ?_
        simp [-cB, ocE]
    · cases h
  · rename_i hk
    split at h
    · cases h
    · rename_i hs
      have hA : e.Args.length ≤ 1000000 := by simpa using hs
      split at h
      · rename_i σ1 a ha
        split at h
        · rename_i h18
          split at h
          · rename_i hi
            obtain ⟨⟨σ2, o2⟩, h2, h3⟩ := Option.map_eq_some_iff.1 h
            have hb := call_ls h2
            have hal : a.length ≤ 1000000 := by
              have := asks_len ha; omega
            have := expr1_ok hV hk hA ha (fun fb lb rb => value18_ok hC h18 hal hi h2 fb lb rb) (by rw [hb]) fb lb rb
            have e1 : (wrapO (σ2, o2)).1 = σ2 := wrap_ls _
            rw [h3] at this e1
            obtain rfl : σ' = σ2 := e1
            exact this
          · cases h
        · rename_i h18
          obtain ⟨⟨σ2, o2⟩, h2, h3⟩ := Option.map_eq_some_iff.1 h
          have hb := val_ls h2
          have := expr1_ok hV hk hA ha (fun fb lb rb => exvalue_ok hf h2 fb lb rb) (by rw [hb]) fb lb rb
          have e1 : (wrapO (σ2, o2)).1 = σ2 := wrap_ls _
          rw [h3] at this e1
          obtain rfl : σ' = σ2 := e1
          exact this
      · rename_i σ1 o1 ha
        simp only [Option.some.injEq, Prod.mk.injEq] at h
        obtain ⟨rfl, rfl⟩ := h
        exact expr2_ok hV hk hA (asks_stop ha) ha fb lb rb
      · cases h
end Go.Ab

namespace Go.Ab
open Go.Proofs
def cdL (b6 b3 rb : Nat) (v : Int) (c : XC) (σ : XS) : Heap := [(5006, .box (b6 + 1) 3 [.d (.v (.int .i64 v))]), (5005, .box (b3 + 1) 81 [.bp 5003 0]), (5003, .box (rb + 1) 86 (rnC c σ)), (5004, .row 5 1 (rowU σ.Out))]
theorem callD0_ok (b6 b3 rb : Nat) (v : Int) (c : XC) (σ : XS) (hd : inR .i64 (σ.Dp - 1)) : DCalls Tryz.prog 87 [.bp 5005 0, .bp 5006 0] (cdL b6 b3 rb v c σ) none (fun r L' => r = none ∧ L' = cdL b6 b3 rb v c { σ with Dp := σ.Dp - 1 }) := by
  unfold cdL
  refine DCalls.run Tryz.func87 rfl (by simp [Tryz.f87]) (by simp [Tryz.f87]) ?_
  simp only [Tryz.f87]
  refine SWP.seqA rfl (by rfl) ?_
  refine AWP.ofK ?_
  simp [-cB, hd]
  refine SWP.rec (d := 12) ?_ rfl (by decide) rfl (l := [_]) rfl rfl (by rfl) ?_
  · intro ρ w
    simp [execOp, resolve, invoke]
    rfl
  refine AWP.edq (hs := [5006, 5005, 5003, 5004]) (by decide) (AWP.ofK ?_)
  simp [-cB, recV]
theorem callDr_ok (b6 b3 rb : Nat) (v n : Int) (c : XC) (σ : XS) (hd : inR .i64 (σ.Dp - 1)) : DCalls Tryz.prog 87 [.bp 5005 0, .bp 5006 0] (cdL b6 b3 rb v c σ) (some (retdV n)) (fun r L' => r = none ∧ L' = cdL b6 b3 rb n c { σ with Dp := σ.Dp - 1 }) := by
  unfold cdL
  refine DCalls.run Tryz.func87 rfl (by simp [Tryz.f87]) (by simp [Tryz.f87]) ?_
  simp only [Tryz.f87]
  refine SWP.seqA rfl (by rfl) ?_
  refine AWP.ofK ?_
  simp [-cB, hd]
  refine SWP.rec (d := 12) ?_ rfl (by decide) rfl (l := [_]) rfl rfl (by rfl) ?_
  · intro ρ w
    simp [execOp, resolve, invoke]
    rfl
  refine AWP.edq (hs := [5006, 5005, 5003, 5004]) (by decide) (AWP.ofK ?_)
  simp [-cB, recV, retdV]
theorem callDt_ok (b6 b3 rb : Nat) (v n : Int) (c : XC) (σ : XS) (hd : inR .i64 (σ.Dp - 1)) : DCalls Tryz.prog 87 [.bp 5005 0, .bp 5006 0] (cdL b6 b3 rb v c σ) (some (thrownV n)) (fun r L' => r = some (thrownV n) ∧ L' = cdL b6 b3 rb v c { σ with Dp := σ.Dp - 1 }) := by
  unfold cdL
  refine DCalls.run Tryz.func87 rfl (by simp [Tryz.f87]) (by simp [Tryz.f87]) ?_
  simp only [Tryz.f87]
  refine SWP.seqA rfl (by rfl) ?_
  refine AWP.ofK ?_
  simp [-cB, hd]
  refine SWP.rec (d := 12) ?_ rfl (by decide) rfl (l := [_]) rfl rfl (by rfl) ?_
  · intro ρ w
    simp [execOp, resolve, invoke]
    rfl
  refine AWP.edq (hs := [5006, 5005, 5003, 5004]) (by decide) (AWP.ofK ?_)
  simp [-cB, recV, thrownV]
  intro bs
  refine AOps.panic rfl rfl rfl ?_
  simp
theorem callDo_ok (b6 b3 rb : Nat) (v : Int) (c : XC) (σ : XS) (hd : inR .i64 (σ.Dp - 1)) : DCalls Tryz.prog 87 [.bp 5005 0, .bp 5006 0] (cdL b6 b3 rb v c σ) (some overV) (fun r L' => r = some overV ∧ L' = cdL b6 b3 rb v c { σ with Dp := σ.Dp - 1 }) := by
  unfold cdL
  refine DCalls.run Tryz.func87 rfl (by simp [Tryz.f87]) (by simp [Tryz.f87]) ?_
  simp only [Tryz.f87]
  refine SWP.seqA rfl (by rfl) ?_
  refine AWP.ofK ?_
  simp [-cB, hd]
  refine SWP.rec (d := 12) ?_ rfl (by decide) rfl (l := [_]) rfl rfl (by rfl) ?_
  · intro ρ w
    simp [execOp, resolve, invoke]
    rfl
  refine AWP.edq (hs := [5006, 5005, 5003, 5004]) (by decide) (AWP.ofK ?_)
  simp [-cB, recV, overV]
  intro bs
  refine AOps.panic rfl rfl rfl ?_
  simp
theorem BWP.weaken {P : Program} {n : Nat} {s s' : St} {Q : AX → St → Prop} {QD : FuncId → List (Nat × Nat) → AX → St → Prop} {y : Code} (h : Wk n s s') (k : BWP P n y s' Q QD) : BWP P n y s Q QD := by
  intro fo m a w hr hD hnm g
  obtain ⟨m', g', hs⟩ := h fo m a w g
  refine Code.wpIn_mono (F := Fence.wide) ?_ (k fo m' a w hr hD hnm g')
  rintro e a2 w2 (h2 | ⟨f, hs2, he, h2⟩)
  · exact .inl (Post.step hs h2)
  · exact .inr ⟨f, hs2, he, Post.step hs h2⟩
theorem DCalls.mono {P : Program} {f : FuncId} {args : List V} {L : Heap} {px : Option V} {R R' : Option V → Heap → Prop} (h : DCalls P f args L px R) (hr : ∀ r L, R r L → R' r L) : DCalls P f args L px R' :=
  fun fo m w xs u hi hx hu => (h fo m w xs u hi hx hu).mono fun _ _ _ ⟨m', r, L', h1, h2⟩ => ⟨m', r, L', hr _ _ h1, h2⟩
theorem perm6 {α : Type} (a b c d e f : α) : List.Perm [a, b, c, d, e, f] [e, f, c, d, a, b] :=
  (List.perm_append_comm (l₁ := [a, b]) (l₂ := [c, d, e, f])).trans ((List.perm_append_comm (l₁ := [c, d]) (l₂ := [e, f])).append_right [a, b])
theorem DCalls.monoP {P : Program} {f : FuncId} {args : List V} {L : Heap} {px : Option V} {R R' : Option V → Heap → Prop} (h : DCalls P f args L px R) (hr : ∀ r L, R r L → ∃ L2, L.Perm L2 ∧ R' r L2) : DCalls P f args L px R' :=
  fun fo m w xs u hi hx hu => (h fo m w xs u hi hx hu).mono fun _ _ _ ⟨m', r, L', h1, h2, h3, h4⟩ => by
    obtain ⟨L2, hp, hR⟩ := hr _ _ h1
    exact ⟨m', r, L2, hR, h2, h3.perm hp, h4⟩
def clL (fb lb n : Nat) (ls : List Int) (b6 b5 rb : Nat) (v : Int) (c : XC) (σ : XS) : Heap := [(5001, .box (fb + 1) 155 [.bp 5003 0, .sv 5002 n]), (5002, .box (lb + 1) 3 (lsC ls)), (5003, .box (rb + 1) 86 (rnC c σ)), (5004, .row 5 1 (rowU σ.Out)), (5006, .box (b6 + 1) 3 [.d (.v (.int .i64 v))]), (5005, .box (b5 + 1) 81 [.bp 5003 0])]
theorem callF_ok {b6 b5 rb : Nat} {v v' : Int} {c : XC} {σ σ' : XS} {px r0 : Option V} (hx : pxOn px = true) (h : DCalls Tryz.prog 87 [.bp 5005 0, .bp 5006 0] (cdL b6 b5 rb v c σ) px (fun r L' => r = r0 ∧ L' = cdL b6 b5 rb v' c σ')) (fb lb n : Nat) (ls : List Int) :
    DCalls Tryz.prog 87 [.bp 5005 0, .bp 5006 0] (clL fb lb n ls b6 b5 rb v c σ) px (fun r L' => r = r0 ∧ L' = clL fb lb n ls b6 b5 rb v' c σ') := by
  refine (DCalls.frame h (L2 := [(5001, .box (fb + 1) 155 [.bp 5003 0, .sv 5002 n]), (5002, .box (lb + 1) 3 (lsC ls))]) ?_ ?_ hx ?_ ?_ ?_).monoP ?_
  · exact perm6 _ _ _ _ _ _
  · simp [cdL, keys]
  · simp [cdL]
  · simp [cdL]
  · rintro r L1' ⟨rfl, rfl⟩
    exact ⟨by simp [cdL, keys], boxes_stay (by simp [cdL])⟩
  · rintro r L1' ⟨L1'', ⟨rfl, rfl⟩, rfl⟩
    exact ⟨_, (perm6 _ _ _ _ _ _).symm, rfl, rfl⟩
def initL (a : List Int) (n i : Nat) : List Int := (a.take i).map wrapM ++ List.replicate (n - i) 0
theorem initL_0 (a : List Int) (n : Nat) : List.replicate n (V.d (.v (.int .i64 0))) = lsC (initL a n 0) := by simp [initL, lsC]
theorem initL_len (a : List Int) (n i : Nat) (hi : i ≤ a.length) (hn : a.length ≤ n) : (initL a n i).length = n := by simp [initL]; omega
theorem initL_set (a : List Int) (n i : Nat) (hi : i < a.length) (hn : a.length ≤ n) : (initL a n i).set i (wrapM a[i]) = initL a n (i + 1) := by
  apply List.ext_getElem
  · simp [initL]; omega
  · intro j h1 h2
    simp only [initL, List.getElem_set, List.getElem_append, List.length_map, List.length_take, List.getElem_map, List.getElem_take, List.getElem_replicate]
    by_cases hj : i = j
    · subst hj
      simp [hi]
      omega
    · rw [if_neg hj]
      by_cases hlt : j < i
      · rw [dif_pos (by omega), dif_pos (by omega)]
      · rw [dif_neg (by omega), dif_neg (by omega)]
def callI (a : List Int) (n : Nat) (r : Int) (b5 b6 fb lb rb : Nat) (c : XC) (σ : XS) (k : Nat) (s : St) : Prop :=
  ∃ i, i ≤ a.length ∧ k = a.length - i ∧ s = ⟨[(1, .d (.v (.int .i64 r))), (3, .bp 5005 0), (6, .bp 5006 0), (7, .bp 5001 0), (40, .d (.sl (encI a))), (41, .d (.v (.int .i64 a.length))), (42, .d (.v (.int .i64 i)))],
    [(5006, .box (b6 + 1) 3 [.d (.v (.int .i64 0))]), (5005, .box (b5 + 1) 81 [.bp 5003 0]), (5001, .box (fb + 1) 155 [.bp 5003 0, .sv 5002 n]), (5002, .box (lb + 1) 3 (lsC (initL a n i))), (5003, .box (rb + 1) 86 (rnC c σ)), (5004, .row 5 1 (rowU σ.Out))]⟩
theorem call_ok {c : XC} {g : Nat} (hb : BlockOK c g) : CallOK c (g + 1) := by
  intro σ r a σ' o hal h rb
  rw [callX] at h
  split at h
  · cases h
  rename_i h0
  refine ACalls.looked [5003, 5004] (by decide) ?_ (by simp [ruL]) (by cases o <;> simp [ocE])
  split at h
  · rename_i h32
    simp only [Option.some.injEq, Prod.mk.injEq] at h
    obtain ⟨rfl, rfl⟩ := h
    unfold ruL
    refine ACalls.of_BWP Tryz.func39 rfl (by simp [Tryz.f39]) ?_
    simp only [Tryz.f39]
    refine BWP.seqA rfl ?_
    refine AWP.ofK ?_
    simp [-cB]
    intro bs
    refine BWP.seqA rfl ?_
    refine AWP.ofK ?_
    simp [-cB, h32]
    refine AOps.effPan [] rfl (mustE_ok (e := 17) (by decide)) (by simp) rfl (by simp) (by kernel_rfl) (by first | rfl | simp) (by simp) (by simp) (by simp) ?_
    simp [ocE]
  rename_i h32
  split at h
  · rename_i hi
    obtain ⟨⟨hr0, hr1⟩, ⟨hq0, hq1⟩, hak, hk1, hsm⟩ := hi
    cases hx : blockX c g { σ with Dp := σ.Dp + 1, Ls := a.map wrapM ++ List.replicate ((getI c.B.Tables.Locals r).toNat - a.length) 0 } (c.B.Routines[r.toNat]?.getD []) with
    | none => rw [hx] at h; cases h
    | some p =>
      obtain ⟨σ1, o1⟩ := p
      rw [hx] at h
      simp only [Option.some.injEq, Prod.mk.injEq] at h
      obtain ⟨rfl, hoo⟩ := h
      have hin : inR .i64 (σ.Dp + 1) := by rw [inR_i64]; omega
      unfold ruL
      refine ACalls.of_BWP Tryz.func39 rfl (by simp [Tryz.f39]) ?_
      simp only [Tryz.f39]
      refine BWP.seqA rfl ?_
      refine AWP.ofK ?_
      simp [-cB]
      intro bs
      refine BWP.seqA rfl ?_
      refine AWP.ofK ?_
      simp [-cB, h32]
      refine BWP.seqA rfl ?_
      refine AWP.ofK ?_
      simp [-cB, hin]
      refine BWP.weaken ((Wk.ren 3 5005 (by simp [keys])).trans (Wk.ren 6 5006 (by simp [keys]))) ?_
      simp [-cB]
      refine BWP.defer (hs := [(5005, bs 0), (5006, bs 1)]) rfl rfl (by decide) rfl rfl rfl rfl rfl rfl ⟨rfl, by simp [labs], rfl, by simp [labs], trivial⟩ (by kernel_rfl) rfl ?_
      refine AWP.weaken (Wk.pick [1, 2, 3, 6] [5006, 5005, 5003, 5004] (by rfl) (by decide) (by simp)) ?_
      simp [-cB]
      refine AWP.seq ?_
      have hge : c.B.Tables.Locals[r.toNat]?.getD 0 = getI c.B.Tables.Locals r := rfl
      refine AWP.regionSt [some (0, 1), some (0, 0), some (0, 0), some (0, 0), some (0, 0), some (0, 0), some (0, 0), some (0, 0), some (0, 0), some (0, 0), some (0, 0), some (0, 0), some (0, 0), none, some (1, 1), none, some (2, 2)] [37] [] Tryz.mixed (by kernel_rfl) ?_
      have hmx : ¬ getI c.B.Tables.Locals r < (a.length : Int) := by omega
      simp [-cB, hge, hmx]
      refine ⟨by omega, ?_⟩
      refine stopS.ret rfl (fun _ => LOp.makeB (s := ⟨_, _⟩) (by_ := 8) (e := 3) (z := .int .i64 0) 5002 rfl rfl (by kernel_rfl) ⟨rfl, rfl⟩ (by simp [keys]) ⟨by omega, by simp only [maxLen]; omega, by omega⟩) ?_
      simp [-cB]
      intro bs2
      rw [initL_0 a]
      refine AWP.weaken ((Wk.ren 39 5001 (by simp [keys])).trans (Wk.pick [1, 2, 3, 6, 7] [5006, 5005, 5001, 5002, 5003, 5004] (by rfl) (by decide) (by simp))) ?_
      simp [-cB]
      refine AWP.ofK ?_
      simp [-cB]
      generalize hK : (getI c.B.Tables.Locals r).toNat = n at *
      have han : a.length ≤ n := by omega
      refine AWP.loopP [1, 3, 6, 7, 40, 41, 42] [5006, 5005, 5001, 5002, 5003, 5004] (callI a n r (bs 0) (bs 1) (bs2 39) (bs2 5002) rb c { σ with Dp := σ.Dp + 1 }) (by rfl) (by decide) ?_ ?_
      · refine ⟨by simp, a.length, 0, by omega, by omega, ?_⟩
        simp
      · rintro k s ⟨i, hi, rfl, rfl⟩
        rcases Nat.lt_or_eq_of_le hi with hlt | rfl
        · have hil := initL_len a n i hi han
          have hp := lsC_put (initL a n i) i (wrapM a[i]) (by omega)
          rw [initL_set a n i hlt han] at hp
          have hw := (wrap_ok a[i]).ok
          have hii : inR .i64 ((i : Int) + 1) := by rw [inR_i64]; omega
          simp [-cB, hlt]
          refine AWP.regionSt [some (0, 0), some (0, 0), some (0, 0), some (0, 0), some (0, 0), some (0, 0), some (0, 0), some (0, 0), none] [] [.d (.v (.int .i64 (wrapM a[i])))] Tryz.mixed (by kernel_rfl) ?_
          simp [-cB, hw, hil, hp, hii, LoopQ]
          exact ⟨by omega, by omega, a.length - (i + 1), by omega, i + 1, by omega, rfl, by simp⟩
        · have hl0 : initL a n a.length = List.map wrapM a ++ List.replicate (n - a.length) 0 := by simp [initL]
          have hl1 := initL_len a n a.length (Nat.le_refl _) han
          have hC := hb _ _ σ1 o1 hsm hx (bs2 39) (bs2 5002) rb
          have hl2 := (len_all c g).block _ _ _ _ hx
          rw [← hl0] at hC hl2
          unfold exL at hC
          simp only at hC hl2
          rw [hl2, hl1] at hC
          simp [-cB]
          refine ⟨by omega, ?_⟩
          have hdp : σ1.Dp = σ.Dp + 1 := (dp_all c g).block _ _ _ _ hx
          have hd : inR .i64 (σ1.Dp - 1) := by rw [inR_i64]; omega
          cases o1 with
          | nrm k =>
            obtain rfl := hoo
            refine AOps.effD [5001, 5002, 5003, 5004] rfl (hC) (by simp) rfl (by simp) rfl (by kernel_rfl) (by first | rfl | simp) (by simp) (by simp) (by simp) (by simp) ?_
            simp [-cB, ocS]
            refine ⟨by simp [labs], (callF_ok rfl (callD0_ok (bs 1) (bs 0) rb 0 c σ1 hd) (bs2 39) (bs2 5002) n σ1.Ls).mono ?_⟩
            rintro r L' ⟨rfl, rfl⟩
            simp [Back, clL, labs, lfr, ocE, FPost, List.filter_cons]
            rfl
          | ret k =>
            obtain rfl := hoo
            refine AOps.effPanK [5001, 5002, 5003, 5004] rfl (hC) (by simp) rfl (by simp) (by kernel_rfl) (by first | rfl | simp) (by simp) (by simp) (by simp) ?_
            simp [-cB, ocS]
            refine ⟨by simp [labs], (callF_ok rfl (callDr_ok (bs 1) (bs 0) rb 0 k c σ1 hd) (bs2 39) (bs2 5002) n σ1.Ls).mono ?_⟩
            rintro r L' ⟨rfl, rfl⟩
            simp [Back, clL, labs, lfr, ocE, FPost]
            rfl
          | thr k =>
            obtain rfl := hoo
            refine AOps.effPan [5001, 5002, 5003, 5004] rfl (hC) (by simp) rfl (by simp) (by kernel_rfl) (by first | rfl | simp) (by simp) (by simp) (by simp) ?_
            simp [-cB, ocS]
            refine ⟨by simp [labs], (callF_ok rfl (callDt_ok (bs 1) (bs 0) rb 0 k c σ1 hd) (bs2 39) (bs2 5002) n σ1.Ls).mono ?_⟩
            rintro r L' ⟨rfl, rfl⟩
            simp [Back, clL, labs, lfr, ocE, FPost]
            rfl
          | over =>
            obtain rfl := hoo
            refine AOps.effPan [5001, 5002, 5003, 5004] rfl (hC) (by simp) rfl (by simp) (by kernel_rfl) (by first | rfl | simp) (by simp) (by simp) (by simp) ?_
            simp [-cB, ocS]
            refine ⟨by simp [labs], (callF_ok rfl (callDo_ok (bs 1) (bs 0) rb 0 c σ1 hd) (bs2 39) (bs2 5002) n σ1.Ls).mono ?_⟩
            rintro r L' ⟨rfl, rfl⟩
            simp [Back, clL, labs, lfr, ocE, FPost]
            rfl
  · cases h
end Go.Ab

namespace Go.Ab
open Go.Proofs
def blkI (c : XC) (n0 : Nat) (l : List GStmt) (fb lb rb g : Nat) (σ' : XS) (o : OC) (k : Nat) (s : St) : Prop :=
  ∃ (pre post : List GStmt) (σ : XS) (g' : Nat), l = pre ++ post ∧ k = post.length ∧ g' ≤ g ∧ blockX c g' σ post = some (σ', o) ∧ σ.Ls.length = n0 ∧
    s = ⟨[(0, .bp 5001 0), (6, .d (.sl (l.map GStmt.enc))), (7, .d (.v (.int .i64 l.length))), (8, .d (.v (.int .i64 pre.length)))], [(5001, .box (fb + 1) 155 [.bp 5003 0, .sv 5002 n0]), (5002, .box (lb + 1) 3 (lsC σ.Ls)), (5003, .box (rb + 1) 86 (rnC c σ)), (5004, .row 5 1 (rowU σ.Out))]⟩
theorem block_ok0 {c : XC} {g : Nat} (ih : ∀ g' < g, StmtOK c g') : BlockOK c g := by
  intro σ l σ' o hl h fb lb rb
  have hlen := (len_all c g).block _ _ _ _ h
  unfold exL
  rw [hlen]
  refine ACalls.runX [] [5001, 5002, 5003, 5004] Tryz.func89 rfl (by simp [Tryz.f89]) ?_; simp [-cB, Tryz.f89]
  refine AWP.loopP [0, 6, 7, 8] [5001, 5002, 5003, 5004] (blkI c σ.Ls.length l fb lb rb g σ' o) (by rfl) (by decide) ?_ ?_
  · exact ⟨by simp, l.length, [], l, σ, g, rfl, rfl, Nat.le_refl _, h, rfl, by simp⟩
  · rintro k s ⟨pre, post, σ1, g1, hsp, rfl, hg, hr, hn, rfl⟩
    cases post with
    | nil =>
      obtain ⟨g2, rfl⟩ : ∃ j, g1 = j + 1 := by cases g1 with | zero => simp [blockX] at hr | succ j => exact ⟨j, rfl⟩
      simp only [blockX, Option.some.injEq, Prod.mk.injEq] at hr
      obtain ⟨rfl, rfl⟩ := hr
      have hlp : pre.length = l.length := by rw [hsp]; simp
      simp [-cB, hlp, ocS]
    | cons x post =>
      obtain ⟨g2, rfl⟩ : ∃ j, g1 = j + 1 := by cases g1 with | zero => simp [blockX] at hr | succ j => exact ⟨j, rfl⟩
      rw [blockX] at hr
      have hi : inR .i64 ((pre.length : Int) + 1) := by rw [inR_i64]; rw [hsp] at hl; simp at hl; omega
      have hlt : pre.length < l.length := by rw [hsp]; simp
      have he : l[pre.length]? = some x := by rw [hsp]; simp
      have he2 : l[pre.length] = x := by simp [hsp]
      revert hsp
      simp [-cB, hi, hlt, he, he2]
      intro hsp bs
      cases hx : stmtX c g2 σ1 x with
      | none => simp [hx] at hr
      | some p =>
        obtain ⟨σ2, oe⟩ := p
        have hC := ih g2 (by omega) σ1 x σ2 oe hx fb lb rb
        have hl2 := (len_all c g2).stmt _ _ _ _ hx
        unfold exL at hC
        rw [hl2, hn] at hC
        rw [hx] at hr
        cases oe with
        | nrm n =>
          simp only at hr
          refine AOps.effD [5001, 5002, 5003, 5004] rfl (hC) (by simp) rfl (by simp) rfl (by kernel_rfl) (by first | rfl | simp) (by simp) (by simp) (by simp) (by simp) ?_
          simp [-cB, hi, ocS, LoopQ]
          exact ⟨post.length, by omega, pre ++ [x], post, σ2, g2, by rw [hsp]; simp, rfl, by omega, hr, by rw [hl2, hn], by simp⟩
        | ret n =>
          simp only [Option.some.injEq, Prod.mk.injEq] at hr
          obtain ⟨rfl, rfl⟩ := hr
          refine AOps.effPan [5001, 5002, 5003, 5004] rfl (hC) (by simp) rfl (by simp) (by kernel_rfl) (by first | rfl | simp) (by simp) (by simp) (by simp) ?_
          simp [ocS]
        | thr n =>
          simp only [Option.some.injEq, Prod.mk.injEq] at hr
          obtain ⟨rfl, rfl⟩ := hr
          refine AOps.effPan [5001, 5002, 5003, 5004] rfl (hC) (by simp) rfl (by simp) (by kernel_rfl) (by first | rfl | simp) (by simp) (by simp) (by simp) ?_
          simp [ocS]
        | over =>
          simp only [Option.some.injEq, Prod.mk.injEq] at hr
          obtain ⟨rfl, rfl⟩ := hr
          refine AOps.effPan [5001, 5002, 5003, 5004] rfl (hC) (by simp) rfl (by simp) (by kernel_rfl) (by first | rfl | simp) (by simp) (by simp) (by simp) ?_
          simp [ocS]
theorem tree0_ok {c : XC} {σ : XS} (hw : okW c σ.W = true) (hf : fitsB c.B.Tables = true) (what x : Int) (he : (treeR σ.W what x).2 = 0) (fb lb rb n : Nat) :
    ACalls Tryz.prog 295 [.bp 5001 0, .d (.v (.int .i64 what)), .d (.v (.int .i64 x))] [(5001, .box (fb + 1) 155 [.bp 5003 0, .sv 5002 n]), (5002, .box (lb + 1) 3 (lsC σ.Ls)), (5003, .box (rb + 1) 86 (rnC c σ)), (5004, .row 5 1 (rowU σ.Out))]
      (fun r L => r = .ret (.d (.v (.int .i64 (treeR σ.W what x).1))) ∧ L = [(5001, .box (fb + 1) 155 [.bp 5003 0, .sv 5002 n]), (5002, .box (lb + 1) 3 (lsC σ.Ls)), (5003, .box (rb + 1) 86 (rnC c σ)), (5004, .row 5 1 (rowU σ.Out))]) := by
  have hO := okW_of hf hw
  have hT := tree_ok σ.W hO.hC hO.hN what x
  unfold pr2 at hT
  rw [he] at hT
  refine ACalls.runX [6] [5001, 5002, 5003, 5004] Tryz.func295 rfl (by simp [Tryz.f295]) ?_; simp [-cB, Tryz.f295]
  refine AOps.pureC rfl (hT) rfl rfl (by simp) rfl ?_
  simp [-cB]
  refine AOps.pureC rfl (must0_ok) rfl rfl (by simp) rfl ?_
  simp [-cB]
theorem treeE_ok {c : XC} {σ : XS} (hw : okW c σ.W = true) (hf : fitsB c.B.Tables = true) (what x : Int) (he : (treeR σ.W what x).2 ≠ 0) (fb lb rb n : Nat) :
    ACalls Tryz.prog 295 [.bp 5001 0, .d (.v (.int .i64 what)), .d (.v (.int .i64 x))] [(5001, .box (fb + 1) 155 [.bp 5003 0, .sv 5002 n]), (5002, .box (lb + 1) 3 (lsC σ.Ls)), (5003, .box (rb + 1) 86 (rnC c σ)), (5004, .row 5 1 (rowU σ.Out))]
      (fun r L => r = .pan (thrownV (treeR σ.W what x).2) ∧ L = [(5001, .box (fb + 1) 155 [.bp 5003 0, .sv 5002 n]), (5002, .box (lb + 1) 3 (lsC σ.Ls)), (5003, .box (rb + 1) 86 (rnC c σ)), (5004, .row 5 1 (rowU σ.Out))]) := by
  have hO := okW_of hf hw
  have hT := tree_ok σ.W hO.hC hO.hN what x
  unfold pr2 at hT
  refine ACalls.runX [6] [5001, 5002, 5003, 5004] Tryz.func295 rfl (by simp [Tryz.f295]) ?_; simp [-cB, Tryz.f295]
  refine AOps.pureC rfl (hT) rfl rfl (by simp) rfl ?_
  simp [-cB]
  refine AOps.effPan [] rfl (mustE_ok he) (by simp) rfl (by simp) (by kernel_rfl) (by first | rfl | simp) (by simp) (by simp) (by simp) ?_
  simp [-cB]
end Go.Ab

namespace Go.Ab
open Go.Proofs
theorem write_ok {c : XC} {σ : XS} (s : ByteArray) (hs : σ.Out.size + s.size ≤ 140737488355328) (rb : Nat) :
    ACalls Tryz.prog 249 [.bp 5003 32, .d (.v (.string s))] (ruL rb c σ) (fun r L => r = .ret (.tup [.d (.v (.int .i64 s.size)), .d (.v .nilIface)]) ∧ L = ruL rb c { σ with Out := σ.Out ++ s, Wr := true }) := by
  have h := writeString_ok (h := 5003) (off := 32) (g := 5004) (b := rb) (ty := 86) (cs := rnC c σ) (bs := σ.Out) s (by decide) (by simp) (by
      cases hw : σ.Wr
      · left; simp [rnC, adV, hw]
      · right; simp [rnC, adV, hw]) (by simp [rnC]) (by
      cases hw : σ.Wr <;> simp only [rnC, hw] <;> rfl) (by simp) (by rw [rnC_len]; kernel_rfl) hs
  exact h
theorem small_eq (n : Int) (h0 : 0 ≤ n) (h1 : n < 100) : Pure Tryz.prog 199 [.d (.v (.int .i64 n))] (.d (.v (.string (smallT n)))) := by
  obtain ⟨k, rfl⟩ := Int.eq_ofNat_of_zero_le h0
  have hk : k < 100 := by omega
  by_cases h : (k : Int) < 10
  · refine Pure.run Tryz.func199 rfl ⟨by simp [Tryz.f199], by kernel_rfl, by simp, by simp⟩ ?_
    simp [-cB, Tryz.f199]
    simp [-cB, h]
    refine ⟨by rw [inR_i64]; omega, ?_⟩
    have hk2 : k < 10 := by omega
    clear h h0 h1 hk
    revert k
    decide +kernel
  · refine Pure.run Tryz.func199 rfl ⟨by simp [Tryz.f199], by kernel_rfl, by simp, by simp⟩ ?_
    simp [-cB, Tryz.f199]
    simp [-cB, h]
    refine ⟨by rw [inR_i64]; omega, by rw [inR_i64]; omega, ?_⟩
    clear h0 h1
    revert h
    revert k
    decide +kernel
theorem itoa_ok {n : Int} {s : ByteArray} (h : numT n = some s) : Pure Tryz.prog 14 [.d (.v (.int .i64 n))] (.d (.v (.string s))) := by
  unfold numT at h
  split at h
  · rename_i hn
    obtain rfl := Option.some.inj h
    have h4 : Pure Tryz.prog 144 [.d (.v (.int .i64 n)), .d (.v (.int .i64 10))] (.d (.v (.string (smallT n)))) := by
      refine Pure.run Tryz.func144 rfl ⟨by simp [Tryz.f144], by kernel_rfl, by simp, by simp⟩ ?_; simp [-cB, Tryz.f144]
      simp [-cB, hn]
      refine AOps.pureC rfl (small_eq n hn.1 hn.2) rfl rfl (by simp) rfl ?_
      simp [-cB]
    have h3 : Pure Tryz.prog 92 [.d (.v (.int .i64 n))] (.d (.v (.string (smallT n)))) := by
      refine Pure.run Tryz.func92 rfl ⟨by simp [Tryz.f92], by kernel_rfl, by simp, by simp⟩ ?_; simp [-cB, Tryz.f92]
      refine AOps.pureC rfl (h4) rfl rfl (by simp) rfl ?_
      simp [-cB]
    have h2 : Pure Tryz.prog 42 [.d (.v (.int .i64 n))] (.d (.v (.string (smallT n)))) := by
      refine Pure.run Tryz.func42 rfl ⟨by simp [Tryz.f42], by kernel_rfl, by simp, by simp⟩ ?_; simp [-cB, Tryz.f42]
      refine AOps.pureC rfl (h3) rfl rfl (by simp) rfl ?_
      simp [-cB]
    refine Pure.run Tryz.func14 rfl (by simp [Tryz.f14]) ?_; simp [-cB, Tryz.f14]
    refine AOps.pureC rfl (h2) rfl rfl (by simp) rfl ?_
    simp [-cB]
  · cases h
theorem smallT_size (n : Int) : (smallT n).size ≤ 2 := by
  unfold smallT
  split <;> simp [ByteArray.size]
theorem textP_ok (t : GTables) (i : Int) : Pure Tryz.prog 108 [.agg (t.enc.map .d), .d (.v (.int .i64 i))] (.d (.v (.string (textM t i)))) := by
  unfold textM
  by_cases h : i < 0 ∨ (t.Texts.length : Int) ≤ i
  · rw [if_pos h]
    have hb : (decide (i < 0) || decide ((t.Texts.length : Int) ≤ i)) = true := by simpa using h
    refine Pure.run Tryz.func108 rfl (by simp [Tryz.f108]) ?_; simp [-cB, Tryz.f108]
    intro bs
    simp [-cB, hb]
  · rw [if_neg h]
    have hb : (decide (i < 0) || decide ((t.Texts.length : Int) ≤ i)) = false := by simpa using h
    refine Pure.run Tryz.func108 rfl (by simp [Tryz.f108]) ?_; simp [-cB, Tryz.f108]
    intro bs
    simp [-cB, hb]
    omega
end Go.Ab

namespace Go.Ab
open Go.Proofs
theorem say_ok0 {c : XC} {g : Nat} (ih : ExprOK c g) : SayOK c (g + 1) := by
  intro σ e σ' o h fb lb rb
  have hlen := (len_all c (g + 1)).say _ _ _ _ h
  rw [sayX] at h
  unfold exL
  rw [hlen]
  split at h
  · rename_i hk
    unfold outX at h
    split at h
    · rename_i hs
      simp only [Option.some.injEq, Prod.mk.injEq] at h
      obtain ⟨rfl, rfl⟩ := h
      have hW := write_ok (c := c) (σ := σ) (textM c.B.Tables e.Num) hs rb
      have hT := (textP_ok c.B.Tables e.Num).ok
      unfold ruL at hW
      refine ACalls.runX [] [5001, 5002, 5003, 5004] Tryz.func196 rfl (by simp [Tryz.f196]) ?_; simp [-cB, Tryz.f196]
      simp [-cB, hk]
      intro bs bs2
      refine AWP.regionSt [some (0, 0), some (0, 0), some (0, 0), some (0, 0), some (0, 0), some (0, 0), some (0, 0), some (0, 0), some (0, 0), some (0, 0), none] [] [.d (.v (.string (textM c.B.Tables e.Num)))] Tryz.mixed (by kernel_rfl) ?_
      simp [-cB, hT]
      refine stopS.ret rfl (fun _ => LOp.call (s := ⟨_, _⟩) 5004 [5003, 5004] rfl (hW) (by simp) rfl (by kernel_rfl) (by first | rfl | simp) (by simp) (boxes_stay (by simp)) (by simp) (by simp)) ?_
      simp [-cB, ocS]
    · cases h
  · rename_i hk
    split at h
    · cases h
    · rename_i hk2
      cases hx : askX c g σ e with
      | none => simp [hx] at h
      | some p =>
        obtain ⟨σ1, oe⟩ := p
        have hC := ih σ e σ1 oe hx fb lb rb
        have hl := (len_all c g).ask _ _ _ _ hx
        unfold exL at hC
        rw [hl] at hC
        rw [hx] at h
        cases oe with
        | nrm n =>
          simp only at h
          split at h
          · rename_i s hn
            unfold outX at h
            split at h
            · rename_i hs
              simp only [Option.some.injEq, Prod.mk.injEq] at h
              obtain ⟨rfl, rfl⟩ := h
              have hW := write_ok (c := c) (σ := σ1) s hs rb
              have hT := (itoa_ok hn).ok
              unfold ruL at hW
              refine ACalls.runX [] [5001, 5002, 5003, 5004] Tryz.func196 rfl (by simp [Tryz.f196]) ?_; simp [-cB, Tryz.f196]
              simp [-cB, hk, hk2]
              intro bs bs2
              refine AWP.regionSt [some (0, 1), some (0, 1), some (0, 1), some (0, 1), some (0, 1), some (0, 1), some (0, 0), some (0, 0), none, some (1, 1), none] [] [.d (.v (.string s))] Tryz.mixed (by kernel_rfl) ?_
              simp [-cB]
              refine stopS.ret rfl (fun _ => LOp.call (s := ⟨_, _⟩) 5004 [5001, 5002, 5003, 5004] rfl (hC) (by simp) rfl (by kernel_rfl) (by first | rfl | simp) (by simp) (boxes_stay (by simp)) (by simp) (by simp)) ?_
              simp [-cB, ocE, hT]
              refine stopS.ret rfl (fun _ => LOp.call (s := ⟨_, _⟩) 5004 [5003, 5004] rfl (hW) (by simp) rfl (by kernel_rfl) (by first | rfl | simp) (by simp) (boxes_stay (by simp)) (by simp) (by simp)) ?_
              simp [-cB, ocS]
            · cases h
          · cases h
        | ret n =>
          simp only [Option.some.injEq, Prod.mk.injEq] at h
          obtain ⟨rfl, rfl⟩ := h
          refine ACalls.runX [] [5001, 5002, 5003, 5004] Tryz.func196 rfl (by simp [Tryz.f196]) ?_; simp [-cB, Tryz.f196]
          simp [-cB, hk, hk2]
          intro bs bs2
          refine AWP.regionSt [some (0, 1), some (0, 1), some (0, 1), some (0, 1), some (0, 1), some (0, 1), some (0, 0), some (0, 0), none, some (1, 1), none] [] [] Tryz.mixed (by kernel_rfl) ?_
          simp [-cB]
          refine stopS.pan rfl (fun _ => LOpP.call (s := ⟨_, _⟩) [5001, 5002, 5003, 5004] rfl (hC) (by simp) rfl (by kernel_rfl) (by first | rfl | simp) (by simp) (boxes_stay (by simp)) (by simp) (by simp)) ?_
          simp [-cB, ocS]
        | thr n =>
          simp only [Option.some.injEq, Prod.mk.injEq] at h
          obtain ⟨rfl, rfl⟩ := h
          refine ACalls.runX [] [5001, 5002, 5003, 5004] Tryz.func196 rfl (by simp [Tryz.f196]) ?_; simp [-cB, Tryz.f196]
          simp [-cB, hk, hk2]
          intro bs bs2
          refine AWP.regionSt [some (0, 1), some (0, 1), some (0, 1), some (0, 1), some (0, 1), some (0, 1), some (0, 0), some (0, 0), none, some (1, 1), none] [] [] Tryz.mixed (by kernel_rfl) ?_
          simp [-cB]
          refine stopS.pan rfl (fun _ => LOpP.call (s := ⟨_, _⟩) [5001, 5002, 5003, 5004] rfl (hC) (by simp) rfl (by kernel_rfl) (by first | rfl | simp) (by simp) (boxes_stay (by simp)) (by simp) (by simp)) ?_
          simp [-cB, ocS]
        | over =>
          simp only [Option.some.injEq, Prod.mk.injEq] at h
          obtain ⟨rfl, rfl⟩ := h
          refine ACalls.runX [] [5001, 5002, 5003, 5004] Tryz.func196 rfl (by simp [Tryz.f196]) ?_; simp [-cB, Tryz.f196]
          simp [-cB, hk, hk2]
          intro bs bs2
          refine AWP.regionSt [some (0, 1), some (0, 1), some (0, 1), some (0, 1), some (0, 1), some (0, 1), some (0, 0), some (0, 0), none, some (1, 1), none] [] [] Tryz.mixed (by kernel_rfl) ?_
          simp [-cB]
          refine stopS.pan rfl (fun _ => LOpP.call (s := ⟨_, _⟩) [5001, 5002, 5003, 5004] rfl (hC) (by simp) rfl (by kernel_rfl) (by first | rfl | simp) (by simp) (boxes_stay (by simp)) (by simp) (by simp)) ?_
          simp [-cB, ocS]
end Go.Ab

namespace Go.Ab
open Go.Proofs
theorem stmtW_ok {c : XC} {g : Nat} (ihW : WhileOK c g) {σ σ' : XS} {x : GStmt} {o : OC} (hk : x.Kind = 10) (hb : sml x.Body) (h : whileX c g σ x = some (σ', o)) (fb lb rb : Nat) :
    ACalls Tryz.prog 143 [.bp 5001 0, .agg (x.enc.map V.d)] (exL fb lb rb c σ) (fun r L => r = ocS o ∧ L = exL fb lb rb c σ') := by
  have hC := ihW σ x σ' o hb h fb lb rb
  have hl := (len_all c g).whil _ _ _ _ h
  unfold exL at hC ⊢
  rw [hl] at hC ⊢
  refine ACalls.runX [] [5001, 5002, 5003, 5004] Tryz.func143 rfl (by simp [Tryz.f143]) ?_; simp [-cB, Tryz.f143]
  simp [-cB, hk]
  intro bs
  cases o with
  | nrm n =>
    refine AOps.effD [5001, 5002, 5003, 5004] rfl (hC) (by simp) rfl (by simp) rfl (by kernel_rfl) (by first | rfl | simp) (by simp) (by simp) (by simp) (by simp) ?_
    simp [-cB, ocS]
  | ret n =>
    refine AOps.effPan [5001, 5002, 5003, 5004] rfl (hC) (by simp) rfl (by simp) (by kernel_rfl) (by first | rfl | simp) (by simp) (by simp) (by simp) ?_
    simp [-cB, ocS]
  | thr n =>
    refine AOps.effPan [5001, 5002, 5003, 5004] rfl (hC) (by simp) rfl (by simp) (by kernel_rfl) (by first | rfl | simp) (by simp) (by simp) (by simp) ?_
    simp [-cB, ocS]
  | over =>
    refine AOps.effPan [5001, 5002, 5003, 5004] rfl (hC) (by simp) rfl (by simp) (by kernel_rfl) (by first | rfl | simp) (by simp) (by simp) (by simp) ?_
    simp [-cB, ocS]
theorem stmtC_ok {c : XC} {σ σ' : XS} {x : GStmt} {o : OC} (hk : x.Kind ≠ 10) (ho : ∀ n, o ≠ .nrm n) (h : costX c σ = some (σ', o)) (fb lb rb : Nat) :
    ACalls Tryz.prog 143 [.bp 5001 0, .agg (x.enc.map V.d)] (exL fb lb rb c σ) (fun r L => r = ocS o ∧ L = exL fb lb rb c σ') := by
  have hC := cost_ok h rb
  have hl := cost_ls h
  unfold ruL at hC
  unfold exL
  rw [hl]
  refine ACalls.runX [] [5001, 5002, 5003, 5004] Tryz.func143 rfl (by simp [Tryz.f143]) ?_; simp [-cB, Tryz.f143]
  simp [-cB, hk]
  intro bs
  cases o with
  | nrm n => exact (ho n rfl).elim
  | ret n =>
    refine AOps.effPan [5003, 5004] rfl (hC) (by simp) rfl (by simp) (by kernel_rfl) (by first | rfl | simp) (by simp) (by simp) (by simp) ?_
    simp [-cB, ocS]
  | thr n =>
    refine AOps.effPan [5003, 5004] rfl (hC) (by simp) rfl (by simp) (by kernel_rfl) (by first | rfl | simp) (by simp) (by simp) (by simp) ?_
    simp [-cB, ocS]
  | over =>
    refine AOps.effPan [5003, 5004] rfl (hC) (by simp) rfl (by simp) (by kernel_rfl) (by first | rfl | simp) (by simp) (by simp) (by simp) ?_
    simp [-cB, ocS]
def sayI (c : XC) (n0 : Nat) (l : List GExpr) (b3 : Nat) (x : GStmt) (fb lb rb g : Nat) (σ' : XS) (o : OC) (k : Nat) (s : St) : Prop :=
  ∃ (pre post : List GExpr) (σ : XS) (g' : Nat), l = pre ++ post ∧ k = post.length ∧ g' ≤ g ∧ saysX c g' σ post = some (σ', o) ∧ σ.Ls.length = n0 ∧
    s = ⟨[(0, .bp 5001 0), (21, .d (.sl (l.map GExpr.enc))), (22, .d (.v (.int .i64 l.length))), (23, .d (.v (.int .i64 pre.length)))], [(5001, .box (fb + 1) 155 [.bp 5003 0, .sv 5002 n0]), (5002, .box (lb + 1) 3 (lsC σ.Ls)), (5003, .box (rb + 1) 86 (rnC c σ)), (5004, .row 5 1 (rowU σ.Out))]⟩
theorem stmtS_ok {c : XC} {g : Nat} (ih : ∀ g' < g, SayOK c g') {σ σ0 σ' : XS} {x : GStmt} {o : OC} {u : Int} (hk : x.Kind = 1) (hs : sml x.Args) (hc : costX c σ = some (σ0, .nrm u)) (h : saysX c g σ0 x.Args = some (σ', o)) (fb lb rb : Nat) :
    ACalls Tryz.prog 143 [.bp 5001 0, .agg (x.enc.map V.d)] (exL fb lb rb c σ) (fun r L => r = ocS o ∧ L = exL fb lb rb c σ') := by
  have hC := cost_ok hc rb
  have hl0 := cost_ls hc
  have hl := (len_all c g).says _ _ _ _ h
  have hl' : σ'.Ls.length = σ.Ls.length := by rw [hl, hl0]
  unfold ruL at hC
  unfold exL
  rw [hl']
  refine ACalls.runX [] [5001, 5002, 5003, 5004] Tryz.func143 rfl (by simp [Tryz.f143]) ?_; simp [-cB, Tryz.f143]
  simp [-cB, hk]
  intro bs
  refine AOps.effD [5003, 5004] rfl (hC) (by simp) rfl (by simp) rfl (by kernel_rfl) (by first | rfl | simp) (by simp) (by simp) (by simp) (by simp) ?_
  simp [-cB, hk, ocS]
  refine AWP.loopP [0, 21, 22, 23] [5001, 5002, 5003, 5004] (sayI c σ.Ls.length x.Args (bs 0) x fb lb rb g σ' o) (by rfl) (by decide) ?_ ?_
  · refine ⟨by simp, x.Args.length, [], x.Args, σ0, g, rfl, rfl, Nat.le_refl _, h, by rw [hl0], ?_⟩
    simp [hl0]
  · generalize x.Args = l at *
    rintro k s ⟨pre, post, σ1, g1, hsp, rfl, hg, hr, hn, rfl⟩
    cases post with
    | nil =>
      obtain ⟨g2, rfl⟩ : ∃ j, g1 = j + 1 := by cases g1 with | zero => simp [saysX] at hr | succ j => exact ⟨j, rfl⟩
      simp only [saysX, Option.some.injEq, Prod.mk.injEq] at hr
      obtain ⟨rfl, rfl⟩ := hr
      have hlp : pre.length = l.length := by rw [hsp]; simp
      simp [-cB, hlp, ocS]
    | cons e post =>
      obtain ⟨g2, rfl⟩ : ∃ j, g1 = j + 1 := by cases g1 with | zero => simp [saysX] at hr | succ j => exact ⟨j, rfl⟩
      rw [saysX] at hr
      have hi : inR .i64 ((pre.length : Int) + 1) := by rw [inR_i64]; rw [hsp] at hs; simp at hs; omega
      have hlt : pre.length < l.length := by rw [hsp]; simp
      have he : l[pre.length]? = some e := by rw [hsp]; simp
      have he2 : l[pre.length] = e := by simp [hsp]
      revert hsp
      simp [-cB, hi, hlt, he, he2]
      intro hsp bs
      cases hx : sayX c g2 σ1 e with
      | none => simp [hx] at hr
      | some p =>
        obtain ⟨σ2, oe⟩ := p
        have hD := ih g2 (by omega) σ1 e σ2 oe hx fb lb rb
        have hl2 := (len_all c g2).say _ _ _ _ hx
        unfold exL at hD
        rw [hl2, hn] at hD
        rw [hx] at hr
        cases oe with
        | nrm n =>
          simp only at hr
          refine AOps.effD [5001, 5002, 5003, 5004] rfl (hD) (by simp) rfl (by simp) rfl (by kernel_rfl) (by first | rfl | simp) (by simp) (by simp) (by simp) (by simp) ?_
          simp [-cB, hi, ocS, LoopQ]
          exact ⟨post.length, by omega, pre ++ [e], post, σ2, g2, by rw [hsp]; simp, rfl, by omega, hr, by rw [hl2, hn], by simp⟩
        | ret n =>
          simp only [Option.some.injEq, Prod.mk.injEq] at hr
          obtain ⟨rfl, rfl⟩ := hr
          refine AOps.effPan [5001, 5002, 5003, 5004] rfl (hD) (by simp) rfl (by simp) (by kernel_rfl) (by first | rfl | simp) (by simp) (by simp) (by simp) ?_
          simp [ocS]
        | thr n =>
          simp only [Option.some.injEq, Prod.mk.injEq] at hr
          obtain ⟨rfl, rfl⟩ := hr
          refine AOps.effPan [5001, 5002, 5003, 5004] rfl (hD) (by simp) rfl (by simp) (by kernel_rfl) (by first | rfl | simp) (by simp) (by simp) (by simp) ?_
          simp [ocS]
        | over =>
          simp only [Option.some.injEq, Prod.mk.injEq] at hr
          obtain ⟨rfl, rfl⟩ := hr
          refine AOps.effPan [5001, 5002, 5003, 5004] rfl (hD) (by simp) rfl (by simp) (by kernel_rfl) (by first | rfl | simp) (by simp) (by simp) (by simp) ?_
          simp [ocS]
theorem stmtD_ok {c : XC} {g : Nat} (ihV : ValuesOK c g) (ihD : DoesOK c g) {σ σ0 σ1 σ' : XS} {x : GStmt} {o : OC} {u : Int} {a : List Int} (hk : x.Kind ≠ 10) (hk1 : x.Kind ≠ 1) (hs : sml x.Args) (hc : costX c σ = some (σ0, .nrm u)) (ha : asksX c g σ0 x.Args = some (σ1, .inl a))
    (h : doesX c g σ1 x a = some (σ', o)) (fb lb rb : Nat) :
    ACalls Tryz.prog 143 [.bp 5001 0, .agg (x.enc.map V.d)] (exL fb lb rb c σ) (fun r L => r = ocS o ∧ L = exL fb lb rb c σ') := by
  have hC := cost_ok hc rb
  have hl0 := cost_ls hc
  have hl1 := (len_all c g).asks _ _ _ _ ha
  have hl := (len_all c g).does _ _ _ _ _ h
  have hA := ihV σ0 x.Args σ1 (.inl a) hs ha fb lb rb
  have hD := ihD σ1 x a σ' o h fb lb rb
  have hl' : σ'.Ls.length = σ.Ls.length := by rw [hl, hl1, hl0]
  have hl1' : σ1.Ls.length = σ.Ls.length := by rw [hl1, hl0]
  unfold ruL at hC
  unfold exL at hA hD ⊢
  rw [hl1', hl0] at hA
  rw [hl', hl1'] at hD
  rw [hl']
  refine ACalls.runX [] [5001, 5002, 5003, 5004] Tryz.func143 rfl (by simp [Tryz.f143]) ?_; simp [-cB, Tryz.f143]
  simp [-cB, hk]
  intro bs
  refine AOps.effD [5003, 5004] rfl (hC) (by simp) rfl (by simp) rfl (by kernel_rfl) (by first | rfl | simp) (by simp) (by simp) (by simp) (by simp) ?_
  simp [-cB, hk1, ocS]
  refine AWP.weaken (Wk.pick [0, 3] [3, 5001, 5002, 5003, 5004] (by rfl) (by decide) (by simp)) ?_
  simp [-cB]
  refine AWP.regionSt [some (0, 1), some (0, 1), some (0, 0), some (0, 0), some (0, 0), none, none] [] [] Tryz.mixed (by kernel_rfl) ?_
  simp [-cB]
  refine stopS.ret rfl (fun _ => LOp.call (s := ⟨_, _⟩) 5004 [5001, 5002, 5003, 5004] rfl (hA) (by simp) rfl (by kernel_rfl) (by first | rfl | simp) (by simp) (boxes_stay (by simp)) (by simp) (by simp)) ?_
  simp [-cB, ocV]
  cases o with
  | nrm n =>
    refine stopS.ret rfl (fun _ => LOp.call (s := ⟨_, _⟩) 5004 [5001, 5002, 5003, 5004] rfl (hD) (by simp) rfl (by kernel_rfl) (by first | rfl | simp) (by simp) (boxes_stay (by simp)) (by simp) (by simp)) ?_
    simp [-cB, ocS]
  | ret n =>
    refine stopS.pan rfl (fun _ => LOpP.call (s := ⟨_, _⟩) [5001, 5002, 5003, 5004] rfl (hD) (by simp) rfl (by kernel_rfl) (by first | rfl | simp) (by simp) (boxes_stay (by simp)) (by simp) (by simp)) ?_
    simp [-cB, ocS]
  | thr n =>
    refine stopS.pan rfl (fun _ => LOpP.call (s := ⟨_, _⟩) [5001, 5002, 5003, 5004] rfl (hD) (by simp) rfl (by kernel_rfl) (by first | rfl | simp) (by simp) (boxes_stay (by simp)) (by simp) (by simp)) ?_
    simp [-cB, ocS]
  | over =>
    refine stopS.pan rfl (fun _ => LOpP.call (s := ⟨_, _⟩) [5001, 5002, 5003, 5004] rfl (hD) (by simp) rfl (by kernel_rfl) (by first | rfl | simp) (by simp) (boxes_stay (by simp)) (by simp) (by simp)) ?_
    simp [-cB, ocS]
theorem stmtV_ok {c : XC} {g : Nat} (ihV : ValuesOK c g) {σ σ0 σ1 : XS} {x : GStmt} {o : OC} {u : Int} (ho : ∀ n, o ≠ .nrm n) (hk : x.Kind ≠ 10) (hk1 : x.Kind ≠ 1) (hs : sml x.Args) (hc : costX c σ = some (σ0, .nrm u)) (ha : asksX c g σ0 x.Args = some (σ1, .inr o))
    (fb lb rb : Nat) :
    ACalls Tryz.prog 143 [.bp 5001 0, .agg (x.enc.map V.d)] (exL fb lb rb c σ) (fun r L => r = ocS o ∧ L = exL fb lb rb c σ1) := by
  have hC := cost_ok hc rb
  have hl0 := cost_ls hc
  have hl1 := (len_all c g).asks _ _ _ _ ha
  have hA := ihV σ0 x.Args σ1 (.inr o) hs ha fb lb rb
  have hl1' : σ1.Ls.length = σ.Ls.length := by rw [hl1, hl0]
  unfold ruL at hC
  unfold exL at hA ⊢
  rw [hl1', hl0] at hA
  rw [hl1']
  refine ACalls.runX [] [5001, 5002, 5003, 5004] Tryz.func143 rfl (by simp [Tryz.f143]) ?_; simp [-cB, Tryz.f143]
  simp [-cB, hk]
  intro bs
  refine AOps.effD [5003, 5004] rfl (hC) (by simp) rfl (by simp) rfl (by kernel_rfl) (by first | rfl | simp) (by simp) (by simp) (by simp) (by simp) ?_
  simp [-cB, hk1, ocS]
  refine AWP.weaken (Wk.pick [0, 3] [3, 5001, 5002, 5003, 5004] (by rfl) (by decide) (by simp)) ?_
  simp [-cB]
  refine AWP.regionSt [some (0, 1), some (0, 1), some (0, 0), some (0, 0), some (0, 0), none, none] [] [] Tryz.mixed (by kernel_rfl) ?_
  simp [-cB]
  cases o with
  | nrm n => exact (ho n rfl).elim
  | ret n =>
    refine stopS.pan rfl (fun _ => LOpP.call (s := ⟨_, _⟩) [5001, 5002, 5003, 5004] rfl (hA) (by simp) rfl (by kernel_rfl) (by first | rfl | simp) (by simp) (boxes_stay (by simp)) (by simp) (by simp)) ?_
    simp [-cB, ocS, ocV, ocE]
  | thr n =>
    refine stopS.pan rfl (fun _ => LOpP.call (s := ⟨_, _⟩) [5001, 5002, 5003, 5004] rfl (hA) (by simp) rfl (by kernel_rfl) (by first | rfl | simp) (by simp) (boxes_stay (by simp)) (by simp) (by simp)) ?_
    simp [-cB, ocS, ocV, ocE]
  | over =>
    refine stopS.pan rfl (fun _ => LOpP.call (s := ⟨_, _⟩) [5001, 5002, 5003, 5004] rfl (hA) (by simp) rfl (by kernel_rfl) (by first | rfl | simp) (by simp) (boxes_stay (by simp)) (by simp) (by simp)) ?_
    simp [-cB, ocS, ocV, ocE]
theorem cost_stop {c : XC} {σ σ' : XS} {o : OC} (h : costX c σ = some (σ', o)) : o = .nrm 0 ∨ ∀ n, o ≠ .nrm n := by
  unfold costX at h
  repeat' split at h
  all_goals (try grind)
theorem stmt_okX {c : XC} {g : Nat} (ihW : WhileOK c g) (ihS : ∀ g' < g, SayOK c g') (ihV : ValuesOK c g) (ihD : DoesOK c g) : StmtOK c (g + 1) := by
  intro σ x σ' o h fb lb rb
  rw [stmtX] at h
  split at h
  · rename_i hk
    split at h
    · rename_i hb
      exact stmtW_ok ihW hk hb h fb lb rb
    · cases h
  · rename_i hk
    split at h
    · rename_i σ0 u hc
      split at h
      · cases h
      · rename_i hs
        have hs : sml x.Args := by simpa using hs
        split at h
        · rename_i hk1
          exact stmtS_ok ihS hk1 hs hc h fb lb rb
        · rename_i hk1
          split at h
          · rename_i σ1 a ha
            exact stmtD_ok ihV ihD hk hk1 hs hc ha h fb lb rb
          · rename_i σ1 o1 ha
            simp only [Option.some.injEq, Prod.mk.injEq] at h
            obtain ⟨rfl, rfl⟩ := h
            exact stmtV_ok ihV (asks_stop ha) hk hk1 hs hc ha fb lb rb
          · cases h
    · rename_i hn
      exact stmtC_ok hk (fun n e => hn σ' n (by rw [h, e])) h fb lb rb
end Go.Ab

namespace Go.Ab
open Go.Proofs
theorem cost_W {c : XC} {σ σ' : XS} {o : OC} (h : costX c σ = some (σ', o)) : σ'.W = σ.W := by
  unfold costX at h
  repeat' split at h
  all_goals (try grind)
def whlI (c : XC) (n0 b3 : Nat) (x : GStmt) (fb lb rb g : Nat) (σ' : XS) (o : OC) (k : Nat) (s : St) : Prop :=
  ∃ σ : XS, k ≤ g ∧ whileX c k σ x = some (σ', o) ∧ σ.Ls.length = n0 ∧ s = ⟨[(0, .bp 5001 0), (3, .bp 3 0)], (3, .box (b3 + 1) 43 (x.enc.map V.d)) :: [(5001, .box (fb + 1) 155 [.bp 5003 0, .sv 5002 n0]), (5002, .box (lb + 1) 3 (lsC σ.Ls)), (5003, .box (rb + 1) 86 (rnC c σ)), (5004, .row 5 1 (rowU σ.Out))]⟩
theorem while_okX {c : XC} {g : Nat} (ihE : ∀ g' < g, ExprOK c g') (ihB : ∀ g' < g, BlockOK c g') : WhileOK c g := by
  intro σ x σ' o hb h fb lb rb
  have hlen := (len_all c g).whil _ _ _ _ h
  unfold exL
  rw [hlen]
  refine ACalls.runX [] [5001, 5002, 5003, 5004] Tryz.func194 rfl (by simp [Tryz.f194]) ?_; simp [-cB, Tryz.f194]
  intro bs
  refine AWP.loopP [0, 3] [3, 5001, 5002, 5003, 5004] (whlI c σ.Ls.length (bs 0) x fb lb rb g σ' o) (by rfl) (by decide) ?_ ?_
  · exact ⟨by simp, g, σ, Nat.le_refl _, h, rfl, by simp⟩
  · rintro k s ⟨σ1, hg, hr, hn, rfl⟩
    obtain ⟨g2, rfl⟩ : ∃ j, k = j + 1 := by cases k with | zero => simp [whileX] at hr | succ j => exact ⟨j, rfl⟩
    rw [whileX] at hr
    simp [-cB]
    cases hc : costX c σ1 with
    | none => simp [hc] at hr
    | some p =>
      obtain ⟨σ2, oc⟩ := p
      have hC := cost_ok hc rb
      have hl2 := cost_ls hc
      unfold ruL at hC
      rw [hc] at hr
      rcases cost_stop hc with rfl | hno
      · simp only at hr
        cases hA : x.Args with
        | nil => rw [hA] at hr; cases hr
        | cons e l =>
          rw [hA] at hr
          simp only at hr
          refine AOps.effD [5003, 5004] rfl (hC) (by simp) rfl (by simp) rfl (by kernel_rfl) (by first | rfl | simp) (by simp) (by simp) (by simp) (by simp) ?_
          simp [-cB, ocS, hA]
          refine AOps.weaken (Wk.pick [9, 13, 0, 3] [3, 5001, 5002, 5003, 5004] (by rfl) (by decide) (by simp)) ?_
          simp [-cB]
          cases hx : askX c g2 σ2 e with
          | none => simp [hx] at hr
          | some q =>
            obtain ⟨σ3, oe⟩ := q
            have hE := ihE g2 (by omega) σ2 e σ3 oe hx fb lb rb
            have hl3 := (len_all c g2).ask _ _ _ _ hx
            unfold exL at hE
            rw [hl3, hl2, hn] at hE
            rw [hx] at hr
            cases oe with
            | nrm n =>
              simp only at hr
              refine AOps.effD [5001, 5002, 5003, 5004] rfl (hE) (by simp) rfl (by simp) rfl (by kernel_rfl) (by first | rfl | simp) (by simp) (by simp) (by simp) (by simp) ?_
              simp [-cB, ocE]
              by_cases hz : n = 0
              · rw [if_pos hz] at hr
                simp only [Option.some.injEq, Prod.mk.injEq] at hr
                obtain ⟨rfl, rfl⟩ := hr
                simp [-cB, hz, ocS, hl3, hl2, hn]
              · rw [if_neg hz] at hr
                simp [-cB, hz]
                cases hy : blockX c g2 σ3 x.Body with
                | none => simp [hy] at hr
                | some q =>
                  obtain ⟨σ4, ob⟩ := q
                  have hB := ihB g2 (by omega) σ3 x.Body σ4 ob hb hy fb lb rb
                  have hl4 := (len_all c g2).block _ _ _ _ hy
                  unfold exL at hB
                  rw [hl4, hl3, hl2, hn] at hB
                  rw [hy] at hr
                  cases ob with
                  | nrm n =>
                    simp only at hr
                    refine AOps.effD [5001, 5002, 5003, 5004] rfl (hB) (by simp) rfl (by simp) rfl (by kernel_rfl) (by first | rfl | simp) (by simp) (by simp) (by simp) (by simp) ?_
                    simp [-cB, ocS, LoopQ]
                    exact ⟨g2, by omega, σ4, by omega, hr, by rw [hl4, hl3, hl2, hn], by simp⟩
                  | ret n =>
                    simp only [Option.some.injEq, Prod.mk.injEq] at hr
                    obtain ⟨rfl, rfl⟩ := hr
                    refine AOps.effPan [5001, 5002, 5003, 5004] rfl (hB) (by simp) rfl (by simp) (by kernel_rfl) (by first | rfl | simp) (by simp) (by simp) (by simp) ?_
                    simp [ocS]
                  | thr n =>
                    simp only [Option.some.injEq, Prod.mk.injEq] at hr
                    obtain ⟨rfl, rfl⟩ := hr
                    refine AOps.effPan [5001, 5002, 5003, 5004] rfl (hB) (by simp) rfl (by simp) (by kernel_rfl) (by first | rfl | simp) (by simp) (by simp) (by simp) ?_
                    simp [ocS]
                  | over =>
                    simp only [Option.some.injEq, Prod.mk.injEq] at hr
                    obtain ⟨rfl, rfl⟩ := hr
                    refine AOps.effPan [5001, 5002, 5003, 5004] rfl (hB) (by simp) rfl (by simp) (by kernel_rfl) (by first | rfl | simp) (by simp) (by simp) (by simp) ?_
                    simp [ocS]
            | ret n =>
              simp only [Option.some.injEq, Prod.mk.injEq] at hr
              obtain ⟨rfl, rfl⟩ := hr
              refine AOps.effPan [5001, 5002, 5003, 5004] rfl (hE) (by simp) rfl (by simp) (by kernel_rfl) (by first | rfl | simp) (by simp) (by simp) (by simp) ?_
              simp [ocS]
            | thr n =>
              simp only [Option.some.injEq, Prod.mk.injEq] at hr
              obtain ⟨rfl, rfl⟩ := hr
              refine AOps.effPan [5001, 5002, 5003, 5004] rfl (hE) (by simp) rfl (by simp) (by kernel_rfl) (by first | rfl | simp) (by simp) (by simp) (by simp) ?_
              simp [ocS]
            | over =>
              simp only [Option.some.injEq, Prod.mk.injEq] at hr
              obtain ⟨rfl, rfl⟩ := hr
              refine AOps.effPan [5001, 5002, 5003, 5004] rfl (hE) (by simp) rfl (by simp) (by kernel_rfl) (by first | rfl | simp) (by simp) (by simp) (by simp) ?_
              simp [ocS]
      · have hr' : some (σ2, oc) = some (σ', o) := by
          cases oc with
          | nrm n => exact (hno n rfl).elim
          | _ => exact hr
        simp only [Option.some.injEq, Prod.mk.injEq] at hr'
        obtain ⟨rfl, rfl⟩ := hr'
        cases oc with
        | nrm n => exact (hno n rfl).elim
        | ret n =>
          refine AOps.effPan [5003, 5004] rfl (hC) (by simp) rfl (by simp) (by kernel_rfl) (by first | rfl | simp) (by simp) (by simp) (by simp) ?_
          simp [-cB, ocS, hl2]
        | thr n =>
          refine AOps.effPan [5003, 5004] rfl (hC) (by simp) rfl (by simp) (by kernel_rfl) (by first | rfl | simp) (by simp) (by simp) (by simp) ?_
          simp [-cB, ocS, hl2]
        | over =>
          refine AOps.effPan [5003, 5004] rfl (hC) (by simp) rfl (by simp) (by kernel_rfl) (by first | rfl | simp) (by simp) (by simp) (by simp) ?_
          simp [-cB, ocS, hl2]
def eacI (c : XC) (n0 b4 : Nat) (x : GStmt) (fb lb rb g : Nat) (σ' : XS) (o : OC) (k : Nat) (s : St) : Prop :=
  ∃ σ : XS, k ≤ g ∧ eachX c k σ x = some (σ', o) ∧ σ.Ls.length = n0 ∧ s = ⟨[(0, .bp 5001 0), (4, .bp 4 0)], (4, .box (b4 + 1) 43 (x.enc.map V.d)) :: [(5001, .box (fb + 1) 155 [.bp 5003 0, .sv 5002 n0]), (5002, .box (lb + 1) 3 (lsC σ.Ls)), (5003, .box (rb + 1) 86 (rnC c σ)), (5004, .row 5 1 (rowU σ.Out))]⟩
theorem each_okX {c : XC} (hf : fitsB c.B.Tables = true) {g : Nat} (ihB : ∀ g' < g, BlockOK c g') {σ σ' : XS} {x : GStmt} {o : OC} {n : Int} (hb : sml x.Body) (hi : inL σ.Ls x.Num) (hw : okW c σ.W = true)
    (h : (if (treeR σ.W 2 n).2 ≠ 0 then some (σ, .thr (treeR σ.W 2 n).2) else eachX c g { σ with Ls := σ.Ls.set x.Num.toNat (treeR σ.W 2 n).1 } x) = some (σ', o)) (fb lb rb : Nat) :
    ACalls Tryz.prog 255 [.bp 5001 0, .agg (x.enc.map V.d), .d (.v (.int .i64 n))] (exL fb lb rb c σ) (fun r L => r = ocS o ∧ L = exL fb lb rb c σ') := by
  by_cases he : (treeR σ.W 2 n).2 = 0
  · rw [if_neg (by simpa using he)] at h
    have hlen := (len_all c g).each _ _ _ _ h
    simp only [List.length_set] at hlen
    have hT := tree0_ok hw hf 2 n he fb lb rb σ.Ls.length
    have hp := lsC_put σ.Ls x.Num.toNat (treeR σ.W 2 n).1 (by omega)
    unfold exL
    rw [hlen]
    refine ACalls.runX [] [5001, 5002, 5003, 5004] Tryz.func255 rfl (by simp [Tryz.f255]) ?_; simp [-cB, Tryz.f255]
    intro bs
    refine AWP.regionSt [some (0, 1), some (0, 1), some (0, 1), some (0, 1), some (0, 1), some (0, 1), some (0, 0), some (0, 0), none, some (1, 1), none] [] [] Tryz.mixed (by kernel_rfl) ?_
    simp [-cB]
    refine stopS.ret rfl (fun _ => LOp.call (s := ⟨_, _⟩) 5004 [5001, 5002, 5003, 5004] rfl (hT) (by simp) rfl (by kernel_rfl) (by first | rfl | simp) (by simp) (boxes_stay (by simp)) (by simp) (by simp)) ?_
    simp [-cB, -lsC_get, hp]
    refine ⟨by omega, by omega, ?_⟩
    refine AWP.loopP [0, 4] [4, 5001, 5002, 5003, 5004] (eacI c σ.Ls.length (bs 0) x fb lb rb g σ' o) (by rfl) (by decide) ?_ ?_
    · exact ⟨by simp, g, _, Nat.le_refl _, h, by simp, by simp; rfl⟩
    · rintro k s ⟨σ1, hg, hr, hn, rfl⟩
      obtain ⟨g2, rfl⟩ : ∃ j, k = j + 1 := by cases k with | zero => simp [eachX] at hr | succ j => exact ⟨j, rfl⟩
      rw [eachX] at hr
      split at hr
      · rename_i hi1
        obtain ⟨⟨a1, a2⟩, ⟨a3, a4⟩, a5, hw1⟩ := hi1
        have hg0 := lsC_ld σ1.Ls x.Num.toNat (by omega)
        rw [show σ1.Ls[x.Num.toNat]?.getD 0 = getI σ1.Ls x.Num from rfl] at hg0
        simp [-cB]
        refine AWP.regionD [] Tryz.mixed (by kernel_rfl) (by rfl) ?_
        simp [-cB, -lsC_get, hg0]
        refine ⟨⟨by omega, by omega⟩, by omega, ?_⟩
        by_cases hz : getI σ1.Ls x.Num = 0
        · rw [if_pos hz] at hr
          simp only [Option.some.injEq, Prod.mk.injEq] at hr
          obtain ⟨rfl, rfl⟩ := hr
          simp [-cB, hz, ocS]
        · rw [if_neg hz] at hr
          have hzb : (getI σ1.Ls x.Num != 0) = true := by simpa using hz
          simp [-cB, hzb]
          cases hc : costX c σ1 with
          | none => simp [hc] at hr
          | some p =>
            obtain ⟨σ2, oc⟩ := p
            have hC := cost_ok hc rb
            have hl2 := cost_ls hc
            have hwW : σ2.W = σ1.W := cost_W hc
            have hw2 : okW c σ2.W = true := by rw [hwW]; exact hw1
            unfold ruL at hC
            rw [hc] at hr
            rcases cost_stop hc with rfl | hno
            · simp only [hl2] at hr
              refine AOps.effD [5003, 5004] rfl (hC) (by simp) rfl (by simp) rfl (by kernel_rfl) (by first | rfl | simp) (by simp) (by simp) (by simp) (by simp) ?_
              simp [-cB, ocS]
              refine AWP.weaken (Wk.pick [0, 4] [4, 5001, 5002, 5003, 5004] (by rfl) (by decide) (by simp)) ?_
              have hi1 : inR .i64 (x.Num + 1) := by rw [inR_i64]; omega
              by_cases he : (treeR σ2.W 3 (getI σ1.Ls x.Num)).2 = 0
              · rw [if_neg (by simpa using he)] at hr
                have hT := tree0_ok hw2 hf 3 (getI σ1.Ls x.Num) he fb lb rb σ.Ls.length
                have hp1 := lsC_put σ1.Ls (x.Num + 1).toNat (treeR σ2.W 3 (getI σ1.Ls x.Num)).1 (by omega)
                rw [hl2] at hT
                simp [-cB]
                refine AWP.regionSt [some (0, 1), some (0, 1), some (0, 1), some (0, 1), some (0, 1), some (0, 1), some (0, 1), some (0, 0), some (0, 0), some (0, 0), some (0, 0), some (0, 0), some (0, 0), some (0, 0), some (0, 0), some (0, 0), none, some (1, 1), none] [] [] Tryz.mixed (by kernel_rfl) ?_
                simp [-cB, -lsC_get, hg0, hi1]
                refine ⟨⟨by omega, by omega⟩, by omega, ?_⟩
                refine stopS.ret rfl (fun _ => LOp.call (s := ⟨_, _⟩) 5004 [5001, 5002, 5003, 5004] rfl (hT) (by simp) rfl (by kernel_rfl) (by first | rfl | simp) (by simp) (boxes_stay (by simp)) (by simp) (by simp)) ?_
                simp [-cB, -lsC_get, hp1, hi1]
                refine ⟨by omega, by omega, ?_⟩
                cases hy : blockX c g2 { σ2 with Ls := σ1.Ls.set (x.Num + 1).toNat (treeR σ2.W 3 (getI σ1.Ls x.Num)).1 } x.Body with
                | none => simp [hy] at hr
                | some q =>
                  obtain ⟨σ4, ob⟩ := q
                  have hB := ihB g2 (by omega) _ x.Body σ4 ob hb hy fb lb rb
                  have hl4 := (len_all c g2).block _ _ _ _ hy
                  unfold exL at hB
                  simp only [List.length_set] at hl4 hB
                  rw [hl4, hn] at hB
                  rw [hy] at hr
                  cases ob with
                  | nrm n =>
                    simp only at hr
                    refine AOps.effD [5001, 5002, 5003, 5004] rfl (hB) (by simp) rfl (by simp) rfl (by kernel_rfl) (by first | rfl | simp) (by simp) (by simp) (by simp) (by simp) ?_
                    simp [-cB, ocS]
                    have hg4 := lsC_ld σ4.Ls (x.Num + 1).toNat (by omega)
                    have hp4 := lsC_put σ4.Ls x.Num.toNat (getI σ4.Ls (x.Num + 1)) (by omega)
                    rw [show σ4.Ls[(x.Num + 1).toNat]?.getD 0 = getI σ4.Ls (x.Num + 1) from rfl] at hg4
                    refine AWP.regionSt [some (0, 0), some (0, 0), some (0, 0), some (0, 0), some (0, 0), some (0, 0), some (0, 0), some (0, 0), some (0, 0), some (0, 0), some (0, 0), some (0, 0), some (0, 0), some (0, 0), some (0, 0), some (0, 0), none] [] [] Tryz.mixed (by kernel_rfl) ?_
                    simp [-cB, -lsC_get, hg4, hp4, hi1, LoopQ]
                    exact ⟨⟨by omega, by omega⟩, by omega, ⟨by omega, by omega⟩, by omega, g2, by omega, { σ4 with Ls := σ4.Ls.set x.Num.toNat (getI σ4.Ls (x.Num + 1)) }, by omega, hr, by simp; omega, rfl⟩
                  | ret n =>
                    simp only [Option.some.injEq, Prod.mk.injEq] at hr
                    obtain ⟨rfl, rfl⟩ := hr
                    refine AOps.effPan [5001, 5002, 5003, 5004] rfl (hB) (by simp) rfl (by simp) (by kernel_rfl) (by first | rfl | simp) (by simp) (by simp) (by simp) ?_
                    simp [ocS]
                  | thr n =>
                    simp only [Option.some.injEq, Prod.mk.injEq] at hr
                    obtain ⟨rfl, rfl⟩ := hr
                    refine AOps.effPan [5001, 5002, 5003, 5004] rfl (hB) (by simp) rfl (by simp) (by kernel_rfl) (by first | rfl | simp) (by simp) (by simp) (by simp) ?_
                    simp [ocS]
                  | over =>
                    simp only [Option.some.injEq, Prod.mk.injEq] at hr
                    obtain ⟨rfl, rfl⟩ := hr
                    refine AOps.effPan [5001, 5002, 5003, 5004] rfl (hB) (by simp) rfl (by simp) (by kernel_rfl) (by first | rfl | simp) (by simp) (by simp) (by simp) ?_
                    simp [ocS]
              · rw [if_pos (by simpa using he)] at hr
                simp only [Option.some.injEq, Prod.mk.injEq] at hr
                obtain ⟨rfl, rfl⟩ := hr
                have hT := treeE_ok hw2 hf 3 (getI σ1.Ls x.Num) he fb lb rb σ.Ls.length
                rw [hl2] at hT
                simp [-cB]
                refine AWP.regionSt [some (0, 1), some (0, 1), some (0, 1), some (0, 1), some (0, 1), some (0, 1), some (0, 1), some (0, 0), some (0, 0), some (0, 0), some (0, 0), some (0, 0), some (0, 0), some (0, 0), some (0, 0), some (0, 0), none, some (1, 1), none] [] [] Tryz.mixed (by kernel_rfl) ?_
                simp [-cB, -lsC_get, hg0, hi1]
                refine ⟨⟨by omega, by omega⟩, by omega, ?_⟩
                refine stopS.pan rfl (fun _ => LOpP.call (s := ⟨_, _⟩) [5001, 5002, 5003, 5004] rfl (hT) (by simp) rfl (by kernel_rfl) (by first | rfl | simp) (by simp) (boxes_stay (by simp)) (by simp) (by simp)) ?_
                simp [-cB, ocS, hl2]
            · have hr' : some (σ2, oc) = some (σ', o) := by
                cases oc with
                | nrm n => exact (hno n rfl).elim
                | _ => exact hr
              simp only [Option.some.injEq, Prod.mk.injEq] at hr'
              obtain ⟨rfl, rfl⟩ := hr'
              cases oc with
              | nrm n => exact (hno n rfl).elim
              | ret n =>
                refine AOps.effPan [5003, 5004] rfl (hC) (by simp) rfl (by simp) (by kernel_rfl) (by first | rfl | simp) (by simp) (by simp) (by simp) ?_
                simp [-cB, ocS, hl2]
              | thr n =>
                refine AOps.effPan [5003, 5004] rfl (hC) (by simp) rfl (by simp) (by kernel_rfl) (by first | rfl | simp) (by simp) (by simp) (by simp) ?_
                simp [-cB, ocS, hl2]
              | over =>
                refine AOps.effPan [5003, 5004] rfl (hC) (by simp) rfl (by simp) (by kernel_rfl) (by first | rfl | simp) (by simp) (by simp) (by simp) ?_
                simp [-cB, ocS, hl2]
      · cases hr
  · rw [if_pos (by simpa using he)] at h
    simp only [Option.some.injEq, Prod.mk.injEq] at h
    obtain ⟨rfl, rfl⟩ := h
    have hT := treeE_ok hw hf 2 n he fb lb rb σ.Ls.length
    unfold exL
    refine ACalls.runX [] [5001, 5002, 5003, 5004] Tryz.func255 rfl (by simp [Tryz.f255]) ?_; simp [-cB, Tryz.f255]
    intro bs
    refine AWP.regionSt [some (0, 1), some (0, 1), some (0, 1), some (0, 1), some (0, 1), some (0, 1), some (0, 0), some (0, 0), none, some (1, 1), none] [] [] Tryz.mixed (by kernel_rfl) ?_
    simp [-cB]
    refine stopS.pan rfl (fun _ => LOpP.call (s := ⟨_, _⟩) [5001, 5002, 5003, 5004] rfl (hT) (by simp) rfl (by kernel_rfl) (by first | rfl | simp) (by simp) (boxes_stay (by simp)) (by simp) (by simp)) ?_
    simp [-cB, ocS]
set_option maxRecDepth 4000 in
theorem does_okX {c : XC} (hf : fitsB c.B.Tables = true) {g : Nat} (ihB : ∀ g' ≤ g, BlockOK c g') : DoesOK c (g + 1) := by
  intro σ x a σ' o h fb lb rb
  have hlen := (len_all c (g + 1)).does _ _ _ _ _ h
  rw [doesX] at h
  split at h
  · rename_i hk
    split at h
    · rename_i hi
      cases a with
      | nil => simp at hi
      | cons n a =>
        have hp := lsC_put σ.Ls x.Num.toNat n (by omega)
        simp only [Option.some.injEq, Prod.mk.injEq] at h
        obtain ⟨rfl, rfl⟩ := h
        have hg : getI (n :: a) 0 = n := rfl
        unfold exL
        simp only [hg, List.length_set]
        rcases hk with hk | hk
        · refine ACalls.runX [] [5001, 5002, 5003, 5004] Tryz.func197 rfl (by simp [Tryz.f197]) ?_; simp [-cB, Tryz.f197]
          simp [-cB, hk]
          intro bs bs2
          refine AWP.regionSt [some (0, 0), some (0, 0), some (0, 0), some (0, 0), some (0, 0), some (0, 0), some (0, 0), some (0, 0), some (0, 0), some (0, 0), none] [] [] Tryz.mixed (by kernel_rfl) ?_
          simp [-cB, hp, ocS]
          exact ⟨by omega, by omega, rfl⟩
        · refine ACalls.runX [] [5001, 5002, 5003, 5004] Tryz.func197 rfl (by simp [Tryz.f197]) ?_; simp [-cB, Tryz.f197]
          simp [-cB, hk]
          intro bs bs2
          refine AWP.regionSt [some (0, 0), some (0, 0), some (0, 0), some (0, 0), some (0, 0), some (0, 0), some (0, 0), some (0, 0), some (0, 0), some (0, 0), none] [] [] Tryz.mixed (by kernel_rfl) ?_
          simp [-cB, hp, ocS]
          exact ⟨by omega, by omega, rfl⟩
    · cases h
  split at h
  · rename_i hk
    split at h
    · rename_i hi
      cases a with
      | nil => simp at hi
      | cons n a =>
        have hg : getI (n :: a) 0 = n := rfl
        rw [hg] at h
        have hB := ihB g (Nat.le_refl _) σ (if n ≠ 0 then x.Body else x.Else) σ' o (by split; exact hi.2.1; exact hi.2.2) h fb lb rb
        unfold exL at hB ⊢
        rw [hlen] at hB ⊢
        by_cases hz : n = 0
        · rw [if_neg (by simpa using hz)] at hB
          refine ACalls.runX [] [5001, 5002, 5003, 5004] Tryz.func197 rfl (by simp [Tryz.f197]) ?_; simp [-cB, Tryz.f197]
          simp [-cB, hk, hz]
          intro bs bs2
          cases o with
          | nrm k =>
            refine AOps.effD [5001, 5002, 5003, 5004] rfl (hB) (by simp) rfl (by simp) rfl (by kernel_rfl) (by first | rfl | simp) (by simp) (by simp) (by simp) (by simp) ?_
            simp [-cB, ocS]
          | ret k =>
            refine AOps.effPan [5001, 5002, 5003, 5004] rfl (hB) (by simp) rfl (by simp) (by kernel_rfl) (by first | rfl | simp) (by simp) (by simp) (by simp) ?_
            simp [-cB, ocS]
          | thr k =>
            refine AOps.effPan [5001, 5002, 5003, 5004] rfl (hB) (by simp) rfl (by simp) (by kernel_rfl) (by first | rfl | simp) (by simp) (by simp) (by simp) ?_
            simp [-cB, ocS]
          | over =>
            refine AOps.effPan [5001, 5002, 5003, 5004] rfl (hB) (by simp) rfl (by simp) (by kernel_rfl) (by first | rfl | simp) (by simp) (by simp) (by simp) ?_
            simp [-cB, ocS]
        · rw [if_pos hz] at hB
          have hzb : (n != 0) = true := by simpa using hz
          refine ACalls.runX [] [5001, 5002, 5003, 5004] Tryz.func197 rfl (by simp [Tryz.f197]) ?_; simp [-cB, Tryz.f197]
          simp [-cB, hk, hzb]
          intro bs bs2
          cases o with
          | nrm k =>
            refine AOps.effD [5001, 5002, 5003, 5004] rfl (hB) (by simp) rfl (by simp) rfl (by kernel_rfl) (by first | rfl | simp) (by simp) (by simp) (by simp) (by simp) ?_
            simp [-cB, ocS]
          | ret k =>
            refine AOps.effPan [5001, 5002, 5003, 5004] rfl (hB) (by simp) rfl (by simp) (by kernel_rfl) (by first | rfl | simp) (by simp) (by simp) (by simp) ?_
            simp [-cB, ocS]
          | thr k =>
            refine AOps.effPan [5001, 5002, 5003, 5004] rfl (hB) (by simp) rfl (by simp) (by kernel_rfl) (by first | rfl | simp) (by simp) (by simp) (by simp) ?_
            simp [-cB, ocS]
          | over =>
            refine AOps.effPan [5001, 5002, 5003, 5004] rfl (hB) (by simp) rfl (by simp) (by kernel_rfl) (by first | rfl | simp) (by simp) (by simp) (by simp) ?_
            simp [-cB, ocS]
    · cases h
  split at h
  · rename_i hk
    split at h
    · rename_i hi
      cases a with
      | nil => simp at hi
      | cons n a =>
        have hg : getI (n :: a) 0 = n := rfl
        rw [hg] at h
        have hE := each_okX hf (fun g' hg' => ihB g' (by omega)) hi.2.2.2 hi.2.2.1 hi.2.1 h fb lb rb
        unfold exL at hE ⊢
        rw [hlen] at hE ⊢
        refine ACalls.runX [] [5001, 5002, 5003, 5004] Tryz.func197 rfl (by simp [Tryz.f197]) ?_; simp [-cB, Tryz.f197]
        simp [-cB, hk]
        intro bs bs2
        refine AWP.regionSt [some (0, 0), some (0, 0), some (0, 0), some (0, 0), some (0, 0), none] [] [] Tryz.mixed (by kernel_rfl) ?_
        simp [-cB]
        cases o with
        | nrm k =>
          refine stopS.ret rfl (fun _ => LOp.call (s := ⟨_, _⟩) 5004 [5001, 5002, 5003, 5004] rfl (hE) (by simp) rfl (by kernel_rfl) (by first | rfl | simp) (by simp) (boxes_stay (by simp)) (by simp) (by simp)) ?_
          simp [-cB, ocS]
        | ret k =>
          refine stopS.pan rfl (fun _ => LOpP.call (s := ⟨_, _⟩) [5001, 5002, 5003, 5004] rfl (hE) (by simp) rfl (by kernel_rfl) (by first | rfl | simp) (by simp) (boxes_stay (by simp)) (by simp) (by simp)) ?_
          simp [-cB, ocS]
        | thr k =>
          refine stopS.pan rfl (fun _ => LOpP.call (s := ⟨_, _⟩) [5001, 5002, 5003, 5004] rfl (hE) (by simp) rfl (by kernel_rfl) (by first | rfl | simp) (by simp) (boxes_stay (by simp)) (by simp) (by simp)) ?_
          simp [-cB, ocS]
        | over =>
          refine stopS.pan rfl (fun _ => LOpP.call (s := ⟨_, _⟩) [5001, 5002, 5003, 5004] rfl (hE) (by simp) rfl (by kernel_rfl) (by first | rfl | simp) (by simp) (boxes_stay (by simp)) (by simp) (by simp)) ?_
          simp [-cB, ocS]
    · cases h
  split at h
  · rename_i hk
    split at h
    · rename_i hi
      cases a with
      | nil => simp at hi
      | cons n a =>
        have hg : getI (n :: a) 0 = n := rfl
        simp only [Option.some.injEq, Prod.mk.injEq] at h
        obtain ⟨rfl, rfl⟩ := h
        rw [hg]
        unfold exL
        refine ACalls.runX [] [5001, 5002, 5003, 5004] Tryz.func197 rfl (by simp [Tryz.f197]) ?_; simp [-cB, Tryz.f197]
        simp [-cB, hk]
        intro bs bs2
        refine AOps.panic rfl rfl rfl ?_
        simp [-cB, ocS, retdV]
    · cases h
  · cases h
end Go.Ab

namespace Go.Ab
open Go.Proofs
structure AllOK (c : XC) (g : Nat) : Prop where
  e : ExprOK c g
  v : ValuesOK c g
  k : CallOK c g
  b : BlockOK c g
  s : StmtOK c g
  y : SayOK c g
  w : WhileOK c g
  d : DoesOK c g
theorem all_ok (c : XC) (hf : fitsB c.B.Tables = true) : ∀ g, AllOK c g := by
  intro g
  induction g using Nat.strongRecOn with
  | _ g ih =>
    have hv : ValuesOK c g := values_ok fun g' h => (ih g' h).e
    have hb : BlockOK c g := block_ok0 fun g' h => (ih g' h).s
    have hw : WhileOK c g := while_okX (fun g' h => (ih g' h).e) (fun g' h => (ih g' h).b)
    cases g with
    | zero =>
      refine ⟨?_, hv, ?_, hb, ?_, ?_, hw, ?_⟩
      · intro σ e σ' o h; simp [askX] at h
      · intro σ r a σ' o _ h; simp [callX] at h
      · intro σ x σ' o h; simp [stmtX] at h
      · intro σ e σ' o h; simp [sayX] at h
      · intro σ x a σ' o h; simp [doesX] at h
    | succ j =>
      have i := ih j (Nat.lt_succ_self j)
      exact ⟨expr_ok hf i.e i.v i.k, hv, call_ok i.b, hb, stmt_okX i.w (fun g' h => (ih g' (by omega)).y) i.v i.d, say_ok0 i.e, hw, does_okX hf fun g' h => (ih g' (by omega)).b⟩
theorem kills_app (h : Nat) (a b : List V) : V.kills h (a ++ b) = V.kills h a ++ V.kills h b := by simp [kills_eq]
def rnD (c : XC) (σ : XS) : List V := c.B.enc.map V.d ++ (σ.W.enc.map V.d ++ (c.E.enc.map V.d ++ [adV σ.Wr, .any, .d (.v (.int .i64 c.M)), .d (.v (.int .i64 σ.Fuel)), .d (.v (.int .i64 σ.Dp))]))
theorem rnC_give (c : XC) (σ : XS) : V.kills 5004 (rnC c σ) = rnD c σ := by
  simp only [rnC, kills_app, kills_d]
  cases hw : σ.Wr <;> simp [V.kills, V.kill, adV, rnD, hw]
@[simp] theorem rnD_len (c : XC) (σ : XS) : (rnD c σ).length = 37 := rfl
@[simp] theorem rnD_g35 (c : XC) (σ : XS) (h : 35 < (rnD c σ).length) : (rnD c σ)[35] = .d (.v (.int .i64 σ.Fuel)) := rfl
@[simp] theorem rnD_35 (c : XC) (σ : XS) : (rnD c σ)[35]? = some (.d (.v (.int .i64 σ.Fuel))) := rfl
@[simp] theorem rnD_W (c : XC) (σ : XS) : List.take 13 (List.drop 16 (rnD c σ)) = σ.W.enc.map V.d := rfl
@[simp] theorem rnD_on (ks : List Nat) (c : XC) (σ : XS) : V.ons ks (rnD c σ) = (!σ.Wr || ks.contains 5003) := by
  simp only [rnD, ons_app, ons_d]
  cases σ.Wr <;> simp [V.ons, V.on, adV]
@[simp] theorem rnD_kill (h : Nat) (c : XC) (σ : XS) (h1 : h ≠ 5003) : V.kills h (rnD c σ) = rnD c σ := by
  simp only [rnD, kills_app, kills_d]
  cases σ.Wr <;> simp [V.kills, V.kill, adV, Ne.symm h1]
theorem give_ok {c : XC} {σ : XS} (hs : σ.Out.size ≤ 140737488355328) (rb : Nat) :
    ACalls Tryz.prog 85 [.bp 5003 32] (ruL rb c σ) (fun r L => r = .ret (.d (.v (.string σ.Out))) ∧ L = [(5003, .box (rb + 1) 86 (rnD c σ))]) := by
  have h := string_ok (h := 5003) (off := 32) (g := 5004) (b := rb + 1) (ty := 86) (cs := rnC c σ) (bs := σ.Out) (by decide) (by simp) (by simp [rnC]) hs
  rw [rnC_give] at h
  exact h
def toldX (w0 : GWorld) (σ : XS) : OC → GTold
  | .nrm n => ⟨0, σ.W, σ.Out, n, false, σ.Fuel⟩
  | .over => ⟨0, σ.W, σ.Out, 0, true, σ.Fuel⟩
  | .thr e => ⟨e, w0, σ.Out, 0, false, σ.Fuel⟩
  | .ret n => ⟨0, σ.W, σ.Out, n, false, σ.Fuel⟩
def tL (b3 b4 b6 rb : Nat) (c : XC) (σ : XS) (w : GWorld) (t : List V) : Heap := [(5003, .box (rb + 1) 86 (rnC c σ)), (5004, .row 5 1 (rowU σ.Out)), (5026, .box (b6 + 1) 46 t), (5024, .box (b4 + 1) 31 (w.enc.map V.d)), (5023, .box (b3 + 1) 81 [.bp 5003 0])]
def tL' (b3 b4 b6 rb : Nat) (c : XC) (σ : XS) (w : GWorld) (t : List V) : Heap := [(5003, .box (rb + 1) 86 (rnD c σ)), (5026, .box (b6 + 1) 46 t), (5024, .box (b4 + 1) 31 (w.enc.map V.d)), (5023, .box (b3 + 1) 81 [.bp 5003 0])]
def zW : List V := [.d (.v (.slice none 0 0)), .d (.v (.slice none 0 0)), .d (.v (.slice none 0 0)), .d (.v (.slice none 0 0)), .d (.v (.slice none 0 0)), .d (.v (.slice none 0 0)), .d (.v (.slice none 0 0)), .d (.v (.int .u64 0)), .d (.v (.int .i64 0)), .d (.v (.int .i64 0)), .d (.v (.int .i64 0)), .d (.v (.int .i64 0)), .d (.v (.int .i64 0))]
def zT (n : Int) : List V := .d (.v (.int .i64 0)) :: zW ++ [.d (.v (.string ⟨#[]⟩)), .d (.v (.int .i64 n)), .d (.v (.bool false)), .d (.v (.int .i64 0))]
theorem toldD0_ok (b3 b4 b6 rb : Nat) (c : XC) (σ : XS) (w : GWorld) (n : Int) (hs : σ.Out.size ≤ 140737488355328) :
    DCalls Tryz.prog 84 [.bp 5023 0, .bp 5026 0, .bp 5024 0] (tL b3 b4 b6 rb c σ w (zT n)) none (fun r L' => r = none ∧ L' = tL' b3 b4 b6 rb c σ w ((toldX w σ (.nrm n)).enc.map V.d)) := by
  have hG := give_ok (c := c) (σ := σ) hs rb
  unfold ruL at hG
  unfold tL tL' zT zW
  refine DCalls.run Tryz.func84 rfl (by simp [Tryz.f84]) (by simp [Tryz.f84]) ?_
  simp only [Tryz.f84]
  refine SWP.rec (d := 8) ?_ rfl (by decide) rfl (l := [_]) rfl rfl (by rfl) ?_
  · intro ρ w
    simp [execOp, resolve, invoke]
    rfl
  refine AWP.edq (hs := [5003, 5026, 5024, 5023]) (by decide) ?_
  refine AWP.seq ?_
  refine AWP.regionSt [some (0, 0), some (0, 0), some (0, 0), none, some (0, 1), some (0, 1), some (0, 1), some (0, 1), some (1, 1), none, some (2, 2), none] [] [] Tryz.mixed (by kernel_rfl) ?_
  simp [-cB, recV]
  refine stopS.ret rfl (fun _ => LOp.call (s := ⟨_, _⟩) 5004 [5003, 5004] rfl (hG) (by simp) rfl (by kernel_rfl) (by first | rfl | simp) (by simp) (boxes_stay (by simp)) (by simp) (by simp)) ?_
  simp [-cB]
  refine AWP.ofK ?_
  simp [-cB]
  simp [GWorld.enc, toldX, GTold.enc]
theorem toldDo_ok (b3 b4 b6 rb : Nat) (c : XC) (σ : XS) (w : GWorld) (hs : σ.Out.size ≤ 140737488355328) :
    DCalls Tryz.prog 84 [.bp 5023 0, .bp 5026 0, .bp 5024 0] (tL b3 b4 b6 rb c σ w (zT 0)) (some overV) (fun r L' => r = none ∧ L' = tL' b3 b4 b6 rb c σ w ((toldX w σ (.over)).enc.map V.d)) := by
  have hG := give_ok (c := c) (σ := σ) hs rb
  unfold ruL at hG
  unfold tL tL' zT zW
  refine DCalls.run Tryz.func84 rfl (by simp [Tryz.f84]) (by simp [Tryz.f84]) ?_
  simp only [Tryz.f84]
  refine SWP.rec (d := 8) ?_ rfl (by decide) rfl (l := [_]) rfl rfl (by rfl) ?_
  · intro ρ w
    simp [execOp, resolve, invoke]
    rfl
  refine AWP.edq (hs := [5003, 5026, 5024, 5023]) (by decide) ?_
  refine AWP.seq ?_
  refine AWP.regionSt [some (0, 0), some (0, 0), some (0, 0), none, some (0, 1), some (0, 1), some (0, 1), some (0, 1), some (1, 1), none, some (2, 2), none] [] [] Tryz.mixed (by kernel_rfl) ?_
  simp [-cB, recV]
  refine stopS.ret rfl (fun _ => LOp.call (s := ⟨_, _⟩) 5004 [5003, 5004] rfl (hG) (by simp) rfl (by kernel_rfl) (by first | rfl | simp) (by simp) (boxes_stay (by simp)) (by simp) (by simp)) ?_
  simp [-cB]
  refine AWP.ofK ?_
  simp [-cB, overV]
  simp [GWorld.enc, toldX, GTold.enc]
theorem toldDt_ok (b3 b4 b6 rb : Nat) (c : XC) (σ : XS) (w : GWorld) (n : Int) (hs : σ.Out.size ≤ 140737488355328) :
    DCalls Tryz.prog 84 [.bp 5023 0, .bp 5026 0, .bp 5024 0] (tL b3 b4 b6 rb c σ w (zT 0)) (some (thrownV n)) (fun r L' => r = none ∧ L' = tL' b3 b4 b6 rb c σ w ((toldX w σ (.thr n)).enc.map V.d)) := by
  have hG := give_ok (c := c) (σ := σ) hs rb
  unfold ruL at hG
  unfold tL tL' zT zW
  refine DCalls.run Tryz.func84 rfl (by simp [Tryz.f84]) (by simp [Tryz.f84]) ?_
  simp only [Tryz.f84]
  refine SWP.rec (d := 8) ?_ rfl (by decide) rfl (l := [_]) rfl rfl (by rfl) ?_
  · intro ρ w
    simp [execOp, resolve, invoke]
    rfl
  refine AWP.edq (hs := [5003, 5026, 5024, 5023]) (by decide) ?_
  refine AWP.seq ?_
  refine AWP.regionSt [some (0, 0), some (0, 0), some (0, 0), none, some (0, 1), some (0, 1), some (0, 1), some (0, 1), some (1, 1), none, some (2, 2), none] [] [] Tryz.mixed (by kernel_rfl) ?_
  simp [-cB, recV]
  refine stopS.ret rfl (fun _ => LOp.call (s := ⟨_, _⟩) 5004 [5003, 5004] rfl (hG) (by simp) rfl (by kernel_rfl) (by first | rfl | simp) (by simp) (boxes_stay (by simp)) (by simp) (by simp)) ?_
  simp [-cB]
  refine AWP.ofK ?_
  simp [-cB, thrownV]
  intro bs
  refine AWP.regionSt [some (0, 0), some (0, 1), some (0, 1), some (0, 0), none, some (1, 1), none] [] [] Tryz.mixed (by kernel_rfl) ?_
  simp [-cB]
  simp [GWorld.enc, toldX, GTold.enc]
def cA (b13 b8 b9 : Nat) (r : Int) (a : List Int) : Heap := [(5013, .box (b13 + 1) 81 [.bp 5003 0]), (5008, .box (b8 + 1) 3 [.d (.v (.int .i64 r))]), (5009, .box (b9 + 1) 23 [.d (.sl (encI a))])]
theorem run1_ok {c : XC} {g : Nat} (hC : CallOK c g) {σ σ' : XS} {r : Int} {a : List Int} {o : OC} (ha : a.length ≤ 1000000) (h : callX c g σ r a = some (σ', o)) (b13 b8 b9 rb : Nat) :
    ACalls Tryz.prog 38 [.bp 5013 0, .bp 5008 0, .bp 5009 0] (cA b13 b8 b9 r a ++ ruL rb c σ) (fun q L => q = ocE o ∧ L = cA b13 b8 b9 r a ++ ruL rb c σ') := by
  have h1 := hC σ r a σ' o ha h rb
  unfold ruL at h1
  unfold cA ruL
  refine ACalls.runX [3] [5013, 5008, 5009, 5003, 5004] Tryz.func38 rfl (by simp [Tryz.f38]) ?_; simp [-cB, Tryz.f38]
  cases o with
  | nrm n =>
    refine AOps.effD [5003, 5004] rfl (h1) (by simp) rfl (by simp) rfl (by kernel_rfl) (by first | rfl | simp) (by simp) (by simp) (by simp) (by simp) ?_
    simp [-cB, ocE]
  | ret n =>
    refine AOps.effPan [5003, 5004] rfl (h1) (by simp) rfl (by simp) (by kernel_rfl) (by first | rfl | simp) (by simp) (by simp) (by simp) ?_
    simp [-cB, ocE]
  | thr n =>
    refine AOps.effPan [5003, 5004] rfl (h1) (by simp) rfl (by simp) (by kernel_rfl) (by first | rfl | simp) (by simp) (by simp) (by simp) ?_
    simp [-cB, ocE]
  | over =>
    refine AOps.effPan [5003, 5004] rfl (h1) (by simp) rfl (by simp) (by kernel_rfl) (by first | rfl | simp) (by simp) (by simp) (by simp) ?_
    simp [-cB, ocE]
theorem toldF_ok {b3 b4 b6 rb : Nat} {c : XC} {σ : XS} {w : GWorld} {t t' : List V} {px : Option V} (hx : pxOn px = true) (ht0 : ∀ ks, V.ons ks t = true)
    (h : DCalls Tryz.prog 84 [.bp 5023 0, .bp 5026 0, .bp 5024 0] (tL b3 b4 b6 rb c σ w t) px (fun r L' => r = none ∧ L' = tL' b3 b4 b6 rb c σ w t')) (b13 b8 b9 : Nat) (r : Int) (a : List Int) :
    DCalls Tryz.prog 84 [.bp 5023 0, .bp 5026 0, .bp 5024 0] (cA b13 b8 b9 r a ++ tL b3 b4 b6 rb c σ w t) px (fun q L' => q = none ∧ L' = cA b13 b8 b9 r a ++ tL' b3 b4 b6 rb c σ w t') := by
  refine (DCalls.frame h (L2 := cA b13 b8 b9 r a) List.perm_append_comm ?_ hx ?_ ?_ ?_).monoP ?_
  · simp [tL, keys]
  · simp [tL, keys, ht0]
  · simp [cA, tL]
  · rintro r L1' ⟨rfl, rfl⟩
    exact ⟨by simp [tL', cA, keys], boxes_stay (by simp [tL, tL'])⟩
  · rintro q L1' ⟨L1'', ⟨rfl, rfl⟩, rfl⟩
    exact ⟨_, List.perm_append_comm, rfl, rfl⟩
theorem zT_on (n : Int) (ks : List Nat) : V.ons ks (zT n) = true := by simp [zT, zW]
theorem told_ok {c : XC} {g : Nat} (hC : CallOK c g) {σ σ' : XS} {r : Int} {a : List Int} {o : OC} (ho : ∀ n, o ≠ .ret n) (ha : a.length ≤ 1000000) (h : callX c g σ r a = some (σ', o)) (hs : σ'.Out.size ≤ 140737488355328) (w : GWorld) (b13 b8 b9 rb : Nat) :
    ACalls Tryz.prog 37 [.bp 5003 0, .agg (w.enc.map V.d), .clo (.func 38) [] [.bp 5013 0, .bp 5008 0, .bp 5009 0]] (cA b13 b8 b9 r a ++ ruL rb c σ)
      (fun q L => q = .ret (.agg ((toldX w σ' o).enc.map V.d)) ∧ L = cA b13 b8 b9 r a ++ [(5003, .box (rb + 1) 86 (rnD c σ'))]) := by
  have h1 := run1_ok hC ha h b13 b8 b9 rb
  refine ACalls.looked [5013, 5008, 5009, 5003] (by decide) ?_ (by simp [cA]) (by simp)
  unfold cA ruL at h1 ⊢
  refine ACalls.of_BWP Tryz.func37 rfl (by simp [Tryz.f37]) ?_
  simp only [Tryz.f37]
  refine BWP.seqA rfl ?_
  refine AWP.ofK ?_
  simp [-cB]
  intro bs
  refine BWP.weaken ((Wk.ren 3 5023 (by simp [keys])).trans ((Wk.ren 4 5024 (by simp [keys])).trans (Wk.ren 6 5026 (by simp [keys])))) ?_
  simp [-cB]
  refine BWP.defer (hs := [(5023, bs 0), (5026, bs 2), (5024, bs 1)]) rfl rfl (by decide) rfl rfl rfl rfl rfl rfl ⟨rfl, by simp [labs], rfl, by simp [labs], rfl, by simp [labs], trivial⟩ (by kernel_rfl) rfl ?_
  simp [-cB]
  refine AWP.ofK ?_
  simp [-cB]
  simp only [List.cons_append, List.nil_append] at h1
  cases o with
  | nrm n =>
    refine AOps.effD [5013, 5008, 5009, 5003, 5004] rfl (h1) (by simp) rfl (by simp) rfl (by kernel_rfl) (by first | rfl | simp) (by simp) (by simp) (by simp) (by simp) ?_
    simp [-cB, ocE]
    refine ⟨by simp [labs], (toldF_ok rfl (zT_on n) (toldD0_ok (bs 0) (bs 1) (bs 2) rb c σ' w n hs) b13 b8 b9 r a).mono ?_⟩
    rintro q L' ⟨rfl, rfl⟩
    simp [Back, cA, tL, tL', labs, lfr, FPost, List.filter_cons]
  | ret n => exact (ho n rfl).elim
  | thr n =>
    refine AOps.effPanK [5013, 5008, 5009, 5003, 5004] rfl (h1) (by simp) rfl (by simp) (by kernel_rfl) (by first | rfl | simp) (by simp) (by simp) (by simp) ?_
    simp [-cB, ocE]
    refine ⟨by simp [labs], (toldF_ok rfl (zT_on 0) (toldDt_ok (bs 0) (bs 1) (bs 2) rb c σ' w n hs) b13 b8 b9 r a).mono ?_⟩
    rintro q L' ⟨rfl, rfl⟩
    simp [Back, cA, tL, tL', labs, lfr, FPost, List.filter_cons]
  | over =>
    refine AOps.effPanK [5013, 5008, 5009, 5003, 5004] rfl (h1) (by simp) rfl (by simp) (by kernel_rfl) (by first | rfl | simp) (by simp) (by simp) (by simp) ?_
    simp [-cB, ocE]
    refine ⟨by simp [labs], (toldF_ok rfl (zT_on 0) (toldDo_ok (bs 0) (bs 1) (bs 2) rb c σ' w hs) b13 b8 b9 r a).mono ?_⟩
    rintro q L' ⟨rfl, rfl⟩
    simp [Back, cA, tL, tL', labs, lfr, FPost, List.filter_cons]
end Go.Ab

namespace Go.Ab
open Go.Proofs
def run0 (W : GWorld) : XS := ⟨W, ⟨#[]⟩, false, 0, 0, []⟩
def rn0 (c : XC) (W : GWorld) : List V := c.B.enc.map V.d ++ (W.enc.map V.d ++ (c.E.enc.map V.d ++ [.d (.v (.pointer none)), .d (.v (.slice none 0 0)), .d (.v (.int .i64 c.M)), .d (.v (.int .i64 0)), .d (.v (.int .i64 0))]))
theorem rn0_set (c : XC) (W : GWorld) : (rn0 c W).set 33 (.rv 5004) = rnC c (run0 W) := rfl
theorem rn0_33 (c : XC) (W : GWorld) : (rn0 c W)[33]? = some (.d (.v (.slice none 0 0))) := rfl
theorem Run_ok {B : GBook} {W : GWorld} {r : Int} {a : List Int} {E : GEnv} {fuel : Int} {g : Nat} {σ' : XS} {o : OC} (hf : fitsB B.Tables = true) (hr : 0 ≤ r ∧ r < B.Routines.length) (hp : 0 ≤ r ∧ r < B.Tables.Params.length ∧ (a.length : Int) = getI B.Tables.Params r) (ha : a.length ≤ 1000000)
    (h : callX ⟨B, E, (if fuel < 0 then 0 else fuel)⟩ g (run0 W) r a = some (σ', o)) (ho : ∀ n, o ≠ .ret n) (hs : σ'.Out.size ≤ 140737488355328) :
    Pure Tryz.prog 11 [.agg (B.enc.map .d), .agg (W.enc.map .d), .d (.v (.int .i64 r)), .d (.sl (encI a)), .agg (E.enc.map .d), .d (.v (.int .i64 fuel))] (.agg ((toldX W σ' o).enc.map .d)) := by
  have hC := (all_ok ⟨B, E, (if fuel < 0 then 0 else fuel)⟩ hf g).k
  refine Pure.run Tryz.func11 rfl ⟨by simp [Tryz.f11], by kernel_rfl, by simp, by simp⟩ ?_
  simp [-cB, Tryz.f11]
  intro bs
  have h1 : (decide (r < 0) || decide ((B.Routines.length : Int) ≤ r)) = false := by
    simp only [Bool.or_eq_false_iff, decide_eq_false_iff_not]; omega
  have hp1 : B.Tables.Params[r.toNat]?.getD 0 = (a.length : Int) := hp.2.2.symm
  simp [-cB, h1]
  refine AWP.regionD [] Tryz.mixed (by kernel_rfl) (by rfl) ?_
  simp [-cB, hp1]
  refine ⟨by omega, ?_⟩
  intro bs2
  refine AOps.weaken (s' := ⟨[(47, .clo (.func 38) [] [.bp 13 0, .bp 8 0, .bp 9 0]), (46, .agg (W.enc.map V.d)), (45, .bp 44 0), (12, .bp 12 0)], [(13, .box (bs2 1 + 1) 81 [.bp 44 0]), (8, .box (bs 2 + 1) 3 [.d (.v (.int .i64 r))]), (9, .box (bs 3 + 1) 23 [.d (.sl (encI a))]), (44, .box (bs2 0 + 1) 86 (rn0 ⟨B, E, if fuel < 0 then 0 else fuel⟩ W)), (12, .box (bs 5 + 1) 46 (zT 0))]⟩) (Wk.pick [47, 46, 45, 12] [13, 8, 9, 44, 12] (by rfl) (by decide) (by rfl)) ?_
  generalize hc : (⟨B, E, if fuel < 0 then 0 else fuel⟩ : XC) = c at *
  refine AOps.weaken (Wk.ownBox 44 33 5004 (e := 5) (k := 1) (bk := bs2 0 + 1) (bt := 86) (cs := rn0 c W) (by rfl) (rn0_33 c W) (by simp [keys])) ?_
  rw [rn0_set]
  refine AOps.weaken ((Wk.ren 44 5003 (by simp [keys])).trans ((Wk.ren 13 5013 (by simp [keys])).trans ((Wk.ren 8 5008 (by simp [keys])).trans (Wk.ren 9 5009 (by simp [keys]))))) ?_
  simp [-cB]
  refine AOps.weaken (s' := ⟨[(47, .clo (.func 38) [] [.bp 5013 0, .bp 5008 0, .bp 5009 0]), (46, .agg (W.enc.map V.d)), (45, .bp 5003 0), (12, .bp 12 0)], cA (bs2 1) (bs 2) (bs 3) r a ++ ruL (bs2 0) c (run0 W) ++ [(12, .box (bs 5 + 1) 46 (zT 0))]⟩) (Wk.pick [47, 46, 45, 12] [5013, 5008, 5009, 5003, 5004, 12] (by rfl) (by decide) (by rfl)) ?_
  unfold cA ruL
  have ht := told_ok hC ho ha h hs W (bs2 1) (bs 2) (bs 3) (bs2 0)
  unfold cA ruL at ht
  simp only [List.cons_append, List.nil_append] at ht ⊢
  have hz : ∀ ks, V.ons ks (zT 0) = true := zT_on 0
  have hzl : (zT 0).length = 18 := rfl
  refine AOps.effD [5013, 5008, 5009, 5003, 5004] rfl ht (by simp) rfl (by simp) rfl (by kernel_rfl) (by first | rfl | simp) (by simp [hz]) (by simp [hz]) (by simp [hz]) (by simp [hz]) ?_
  simp [-cB, hzl]
end Go.Ab

namespace Go.Ab
def clrW (x : GThing) : GThing := { x with Ways := [] }
def eachT (t : GTables) : GTables := { t with Things := t.Things.map clrW, Deeds := [], Funcs := [], Daemons := [], Params := [0], Locals := [2] }
def eachW (w : GWorld) : GWorld := { w with Timers := [] }
theorem each_len (t : GTables) : (eachT t).Things.length = t.Things.length := by simp [eachT]
theorem each_at (t : GTables) (n : Int) : thingAt (eachT t) n = clrW (thingAt t n) := by
  simp only [thingAt, eachT, List.getElem?_map]
  cases t.Things[n.toNat]? <;> rfl
theorem each_room (t : GTables) (n : Int) : roomB (eachT t) n = roomB t n := by
  have h := each_at t n
  simp only [thingAt] at h
  simp only [roomB, h, clrW]
theorem each_thing (t : GTables) (n : Int) : thingB (eachT t) n = thingB t n := by simp only [thingB, each_len]
theorem each_ends (t : GTables) : ∀ (k : Nat) (x : Int), endsM (eachT t) k x = endsM t k x
  | 0, _ => rfl
  | k + 1, x => by rw [endsM, endsM, each_at, each_ends t k]; rfl
theorem each_rooms (t : GTables) : ∀ (k : Nat) (x : Int), roomM (eachT t) k x = roomM t k x
  | 0, _ => rfl
  | k + 1, x => by rw [roomM, roomM, each_at, each_rooms t k, each_room, each_thing]; rfl
theorem each_text (t : GTables) (n : Int) (b : Bool) : textB (eachT t) n b = textB t n b := rfl
theorem each_ok {t : GTables} {x : GThing} (h : thingOk t x = true) : thingOk (eachT t) (clrW x) = true := by
  unfold thingOk at h ⊢
  simp only [each_thing, each_text, clrW, waysB, waysM, Bool.and_eq_true] at h ⊢
  obtain ⟨⟨⟨⟨h1, h2⟩, h3⟩, h4⟩, h5⟩ := h
  exact ⟨⟨⟨⟨h1, h2⟩, h3⟩, by simp⟩, trivial⟩
theorem fits_each {t : GTables} (h : fitsB t = true) : fitsB (eachT t) = true := by
  unfold fitsB at h ⊢
  simp only [Bool.and_eq_true] at h ⊢
  obtain ⟨⟨h1, h2⟩, h3⟩ := h
  refine ⟨⟨?_, ?_⟩, ?_⟩
  · unfold headB at h1 ⊢
    simp only [Bool.and_eq_true, decide_eq_true_eq] at h1 ⊢
    obtain ⟨⟨⟨a, b⟩, c⟩, d⟩ := h1
    refine ⟨⟨⟨a, ?_⟩, c⟩, by simp [eachT, allB, paramB, fromB]⟩
    exact ⟨⟨⟨⟨⟨b.1.1.1.1.1, b.1.1.1.1.2⟩, b.1.1.1.2⟩, b.1.1.2⟩, rfl⟩, by simp [eachT]⟩
  · unfold thingsB at h2 ⊢
    simp only [Bool.and_eq_true, each_len, each_at, endsB, inRoomB, each_ends, each_rooms] at h2 ⊢
    obtain ⟨⟨⟨⟨⟨a, b⟩, c⟩, d⟩, e⟩, f⟩ := h2
    refine ⟨⟨⟨⟨⟨a, ?_⟩, c⟩, ?_⟩, e⟩, f⟩
    · unfold nothingB at b ⊢
      simp only [Bool.and_eq_true] at b ⊢
      obtain ⟨⟨b1, b2⟩, b3⟩ := b
      refine ⟨⟨b1, ?_⟩, b3⟩
      have b4 := of_decide_eq_true b2
      refine decide_eq_true ?_
      simp only [clrW, List.length_nil]
      omega
    · rw [allB_iff] at d ⊢
      intro x hx
      rw [show (eachT t).Things.drop 1 = (t.Things.drop 1).map clrW by simp [eachT]] at hx
      obtain ⟨y, hy, rfl⟩ := List.mem_map.1 hx
      exact each_ok (d y hy)
  · unfold rulesB at h3 ⊢
    simp only [Bool.and_eq_true, decide_eq_true_eq] at h3 ⊢
    exact ⟨⟨⟨⟨h3.1.1.1.1, by simp [eachT]⟩, by simp [eachT]⟩, by simp [eachT]⟩, h3.2.1, rfl, rfl, rfl⟩
theorem right_each {t : GTables} {w : GWorld} (h : rightB t w = true) : rightB (eachT t) (eachW w) = true := by
  unfold rightB at h ⊢
  simp only [Bool.and_eq_true, decide_eq_true_eq, each_len] at h ⊢
  obtain ⟨⟨⟨⟨⟨⟨⟨h1, h2⟩, h3⟩, h4⟩, h5⟩, h6⟩, ⟨⟨⟨⟨⟨h7, h8⟩, h9⟩, h10⟩, h11⟩, h12⟩⟩, ⟨⟨⟨h13, h14⟩, h15⟩, h16⟩⟩ := h
  refine ⟨⟨⟨⟨⟨⟨⟨h1, h2⟩, h3⟩, h4⟩, rfl⟩, h6⟩, ⟨⟨⟨⟨⟨h7, h8⟩, h9⟩, rfl⟩, h11⟩, h12⟩⟩, ⟨⟨⟨h13, h14⟩, h15⟩, ?_⟩⟩
  unfold placedM at h16 ⊢
  simp only [each_len, each_at]
  exact h16
def sayE : GStmt := .mk 1 0 ⟨#[]⟩ [.mk 15 0 0 ⟨#[]⟩ [], .mk 19 0 0 ⟨#[]⟩ []] [] []
def eachE (x : Int) : GStmt := .mk 11 0 ⟨#[]⟩ [.mk 1 0 x ⟨#[]⟩ []] [sayE] []
def bookE (t : GTables) (x : Int) : GBook := ⟨eachT t, [[eachE x]]⟩
def saidE (T : ByteArray) (l : List Int) (s : ByteArray) : ByteArray := l.foldl (fun s y => s ++ (smallT y ++ T)) s
theorem ba_size (a b : ByteArray) : (a ++ b).size = a.size + b.size := ByteArray.size_append
theorem say_one {c : XC} {g : Nat} {σ : XS} {T : ByteArray} (hl : σ.Ls.length = 2) (hc : 0 ≤ getI σ.Ls 0 ∧ getI σ.Ls 0 < 100) (hf : 0 ≤ σ.Fuel ∧ σ.Fuel + 1 ≤ c.M ∧ c.M ≤ 100000) (ho : σ.Out.size + 2 + T.size ≤ 100000000) (hT : textM c.B.Tables 0 = T) :
    blockX c (g + 7) σ [sayE] = some ({ σ with Out := σ.Out ++ (smallT (getI σ.Ls 0) ++ T), Wr := true, Fuel := σ.Fuel + 1 }, .nrm 0) := by
  have hw : wrapM (getI σ.Ls 0) = getI σ.Ls 0 := wrapM_id (by omega)
  have hs := smallT_size (getI σ.Ls 0)
  have h1 : costX c σ = some ({ σ with Fuel := σ.Fuel + 1 }, .nrm 0) := by
    unfold costX; rw [if_pos (by omega), if_neg (by omega)]
  have hask : ∀ (k : Nat) (σ' : XS), σ'.Ls = σ.Ls → askX c (k + 2) σ' (.mk 15 0 0 ⟨#[]⟩ []) = some (σ', .nrm (getI σ.Ls 0)) := by
    intro k σ' he
    rw [askX]
    simp [GExpr.Kind, GExpr.Op, GExpr.Args, GExpr.Num, asksX, valX, inL, he, hl, wrapO, hw]
  rw [blockX, stmtX, h1]
  simp only [sayE, GStmt.Kind, GStmt.Args]
  rw [if_neg (by decide), if_neg (by simp), if_pos trivial]
  rw [saysX, sayX, if_neg (by simp [GExpr.Kind]), if_neg (by simp [GExpr.Kind]), (hask (g + 1) _ rfl : askX c (g + 3) { σ with Fuel := σ.Fuel + 1 } _ = _)]
  simp only [numT, hc, and_self, if_true]
  rw [outX, if_pos (by show σ.Out.size + _ ≤ _; omega)]
  simp only []
  rw [saysX, sayX, if_pos (by simp [GExpr.Kind])]
  simp only [GExpr.Num, hT]
  rw [outX, if_pos (by show (σ.Out ++ _).size + _ ≤ _; rw [ba_size]; omega)]
  simp only [saysX, blockX, ByteArray.append_assoc]
theorem each_all {c : XC} {W : GWorld} {x : Int} {T : ByteArray} (hW : okW c W = true) (hM : c.M ≤ 100000) (hT : textM c.B.Tables 0 = T) {ch : Int} {l : List Int} (hch : Ch W.Next W.Parent.length ch l) (hN : W.Parent.length ≤ 100) :
    ∀ (g : Nat) (σ : XS), σ.W = W → l.length + 8 ≤ g → (∃ b, σ.Ls = [ch, b]) → 0 ≤ σ.Fuel → σ.Fuel + 2 * l.length ≤ c.M → σ.Out.size + l.length * (2 + T.size) ≤ 100000000 →
      ∃ σ', eachX c g σ (eachE x) = some (σ', .nrm 0) ∧ σ'.W = W ∧ σ'.Out = saidE T l σ.Out ∧ σ'.Fuel = σ.Fuel + 2 * l.length ∧ σ'.Dp = σ.Dp := by
  induction hch with
  | nil =>
    rintro g σ hw hg ⟨b, hb⟩ hf hf2 ho
    obtain ⟨g, rfl⟩ : ∃ k, g = k + 1 := ⟨g - 1, by simp at hg; omega⟩
    refine ⟨σ, ?_, hw, rfl, by simp, rfl⟩
    rw [eachX]
    simp [eachE, GStmt.Num, inL, hb, hw, hW, getI]
  | @cons ch l h t ih =>
    rintro g σ hw hg ⟨b, hb⟩ hf hf2 ho
    simp only [List.length_cons] at hg hf2 ho
    obtain ⟨g, rfl⟩ : ∃ k, g = k + 8 := ⟨g - 8, by omega⟩
    have hnx : treeR W 3 ch = (atI W.Next ch, 0) := by
      have hwr : wrapM ch = ch := wrapM_id (by omega)
      unfold treeR
      rw [if_pos (by decide), hwr, if_pos (isT_iff.2 h), if_neg (by decide), if_neg (by decide)]
    have h1 : costX c σ = some ({ σ with Fuel := σ.Fuel + 1 }, .nrm 0) := by
      unfold costX; rw [if_pos (by omega), if_neg (by omega)]
    have hmul : (l.length + 1) * (2 + T.size) = l.length * (2 + T.size) + (2 + T.size) := by rw [Nat.add_mul, Nat.one_mul]
    rw [hmul] at ho
    have hs := smallT_size ch
    have hone := @say_one c g { σ with Fuel := σ.Fuel + 1, Ls := [ch, atI W.Next ch] } T (by rfl) (by show 0 ≤ ch ∧ ch < 100; omega) (by show 0 ≤ σ.Fuel + 1 ∧ σ.Fuel + 1 + 1 ≤ c.M ∧ c.M ≤ 100000; omega) (by show σ.Out.size + 2 + T.size ≤ _; omega) hT
    obtain ⟨σ', e1, e2, e3, e4, e5⟩ := ih (g + 7) { σ with Out := σ.Out ++ (smallT ch ++ T), Wr := true, Fuel := σ.Fuel + 1 + 1, Ls := [atI W.Next ch, atI W.Next ch] } hw (by omega) ⟨_, rfl⟩ (by show 0 ≤ σ.Fuel + 1 + 1; omega) (by show σ.Fuel + 1 + 1 + _ ≤ _; omega) (by show (σ.Out ++ (smallT ch ++ T)).size + _ ≤ _; rw [ba_size, ba_size]; omega)
    refine ⟨σ', ?_, e2, e3, by rw [e4]; simp only [List.length_cons]; omega, e5⟩
    rw [eachX, if_pos ⟨by simp [eachE, GStmt.Num, inL, hb], by simp [eachE, GStmt.Num, inL, hb], by simp [eachE, GStmt.Num], by rw [hw]; exact hW⟩]
    have hg0 : getI σ.Ls (eachE x).Num = ch := by rw [hb]; rfl
    rw [hg0, if_neg (by omega), h1]
    simp only [hw, hg0, hnx]
    rw [if_neg (by simp)]
    have hls : List.set σ.Ls ((eachE x).Num + 1).toNat (atI W.Next ch) = [ch, atI W.Next ch] := by rw [hb]; rfl
    have hbd : (eachE x).Body = [sayE] := rfl
    rw [hls, hbd]
    rw [hw] at hone
    rw [hone]
    rw [hw] at e1
    exact e1
@[simp] theorem eachE_Kind (x : Int) : (eachE x).Kind = 11 := rfl
@[simp] theorem eachE_Num (x : Int) : (eachE x).Num = 0 := rfl
@[simp] theorem eachE_Body (x : Int) : (eachE x).Body = [sayE] := rfl
@[simp] theorem eachE_len (x : Int) : (eachE x).Args.length = 1 := rfl
@[simp] theorem bookE_L (t : GTables) (x : Int) : (bookE t x).Tables.Locals = [2] := rfl
@[simp] theorem bookE_R (t : GTables) (x : Int) : (bookE t x).Routines = [[eachE x]] := rfl
theorem each_run {t : GTables} {w : GWorld} {x : Int} {T : ByteArray} (hf : fitsB t = true) (hr : rightB t w = true) (hs : 0 ≤ w.Seed ∧ w.Seed < 18446744073709551616) (hn : t.Things.length ≤ 60) (hx : 0 ≤ x ∧ x ≤ 100) (hT : t.Texts[0]? = some T) (hTs : T.size ≤ 1024) :
    ∃ σ', callX ⟨bookE t x, ⟨0, 0, 0⟩, 400⟩ 80 (run0 (eachW w)) 0 [] = some (σ', if isT w.Parent.length x then .nrm 0 else .thr 11) ∧ σ'.W = eachW w ∧ σ'.Out = saidE T (kidsM w.tree x) ⟨#[]⟩ ∧ σ'.Fuel = 1 + 2 * (kidsM w.tree x).length := by
  have hk := OkW.of hf hr hs
  have hfd := fits_dims hf
  have hok : okW ⟨bookE t x, ⟨0, 0, 0⟩, 400⟩ (eachW w) = true := by
    unfold okW
    rw [Bool.and_eq_true]
    exact ⟨right_each hr, decide_eq_true hs⟩
  have hpl : (eachW w).Parent.length = w.Parent.length := rfl
  have hTm : textM (bookE t x).Tables 0 = T := by
    have : 0 < t.Texts.length := by
      rcases Nat.eq_zero_or_pos t.Texts.length with h | h
      · rw [List.length_eq_zero_iff.1 h] at hT; simp at hT
      · exact h
    unfold textM
    rw [if_neg (by show ¬ (_ ∨ (t.Texts.length : Int) ≤ 0); omega)]
    show t.Texts[0]?.getD _ = T
    rw [hT]; rfl
  have hwr : wrapM x = x := wrapM_id (by omega)
  have htree : treeR (eachW w) 2 x = if isT w.Parent.length x then (atI w.Child x, 0) else (0, 11) := by
    unfold treeR
    rw [if_pos (by decide), hwr, hpl]
    split
    · rw [if_neg (by decide), if_pos rfl]; rfl
    · rfl
  have hask : ∀ (k : Nat) (σ' : XS), asksX ⟨bookE t x, ⟨0, 0, 0⟩, 400⟩ (k + 3) σ' (eachE x).Args = some (σ', .inl [x]) := by
    intro k σ'
    show asksX _ (k + 3) σ' [.mk 1 0 x ⟨#[]⟩ []] = _
    rw [asksX, askX]
    simp [GExpr.Kind, GExpr.Op, GExpr.Args, GExpr.Num, asksX, valX, wrapO, hwr]
  let σ1 : XS := ⟨eachW w, ⟨#[]⟩, false, 1, 1, [0, 0]⟩
  have hdoes : ∃ σ', doesX ⟨bookE t x, ⟨0, 0, 0⟩, 400⟩ 77 σ1 (eachE x) [x] = some (σ', if isT w.Parent.length x then .nrm 0 else .thr 11) ∧ σ'.W = eachW w ∧ σ'.Out = saidE T (kidsM w.tree x) ⟨#[]⟩ ∧ σ'.Fuel = 1 + 2 * (kidsM w.tree x).length ∧ σ'.Dp = 1 := by
    rw [doesX, if_neg (by simp), if_neg (by simp), if_pos (eachE_Kind x), if_pos ⟨by simp, hok, by simp [σ1, inL], by simp⟩]
    have h0 : getI [x] 0 = x := rfl
    rw [h0, show σ1.W = eachW w from rfl, htree]
    cases hi : isT w.Parent.length x with
    | false =>
      have hk0 : kidsM w.tree x = [] := by unfold kidsM; rw [if_neg (by rw [show w.tree.Par = w.Parent from rfl, hi]; decide)]
      simp only [hk0]
      refine ⟨σ1, ?_, rfl, rfl, rfl, rfl⟩
      simp
    | true =>
      have hch := hk.nest.ch x (isT_iff.1 hi).1 (isT_iff.1 hi).2
      have hlen := hch.len
      simp only [if_true]
      rw [if_neg (by decide)]
      obtain ⟨σ', e1, e2, e3, e4, e5⟩ := each_all (c := ⟨bookE t x, ⟨0, 0, 0⟩, 400⟩) (x := x) hok (by show (400 : Int) ≤ _; decide) hTm hch (by have := hk.hT; show w.Parent.length ≤ 100; omega) 76 { σ1 with Ls := [atI w.Child x, 0] } rfl (by have := hk.hT; omega) ⟨_, rfl⟩ (by show (0 : Int) ≤ 1; decide) (by have := hk.hT; show (1 : Int) + _ ≤ 400; omega)
        (by
          have := hk.hT
          have hm : (kidsM w.tree x).length * (2 + T.size) ≤ 60 * 1026 := Nat.mul_le_mul (by omega) (by omega)
          show 0 + _ ≤ 100000000; omega)
      exact ⟨σ', e1, e2, e3, e4, e5⟩
  obtain ⟨σ', e1, e2, e3, e4, e5⟩ := hdoes
  have hst : stmtX ⟨bookE t x, ⟨0, 0, 0⟩, 400⟩ 78 { σ1 with Fuel := 0 } (eachE x) = some (σ', if isT w.Parent.length x then .nrm 0 else .thr 11) := by
    rw [stmtX, if_neg (by simp), show costX ⟨bookE t x, ⟨0, 0, 0⟩, 400⟩ { σ1 with Fuel := 0 } = some (σ1, .nrm 0) from rfl]
    simp only []
    rw [if_neg (by simp), if_neg (by simp), hask 74 σ1]
    exact e1
  have hbl : blockX ⟨bookE t x, ⟨0, 0, 0⟩, 400⟩ 79 { σ1 with Fuel := 0 } [eachE x] = some (σ', if isT w.Parent.length x then .nrm 0 else .thr 11) := by
    rw [blockX, hst]
    cases isT w.Parent.length x <;> rfl
  refine ⟨{ σ' with Dp := σ'.Dp - 1, Ls := [] }, ?_, e2, e3, e4⟩
  rw [callX, if_neg (by simp [run0]), if_neg (by simp [run0]), if_pos ⟨by simp [inL], by simp [inL], by simp [getI], by simp [getI], by simp⟩]
  refine Eq.trans (congrArg (fun b : Option (XS × OC) => match b with | some (σ1, o) => some ({ σ1 with Dp := σ1.Dp - 1, Ls := (run0 (eachW w)).Ls }, match o with | .nrm _ => OC.nrm 0 | .ret n => .nrm n | o => o) | none => none) hbl) ?_
  cases isT w.Parent.length x <;> rfl
end Go.Ab

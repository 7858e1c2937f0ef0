/-
  The texts Bfits Bfits2 Bfits3 Bfits4 Bfits5 Crooms Ctell Cone Cdraw Cbfs Cbfs2 Csteps Bbld Cdraw2 Creach Cfar Cpath Cawake Claw, one behind the other.
-/
import Derived.Test.YticchnalleplcaaMg4
set_option linter.unusedSimpArgs false
set_option linter.unusedVariables false
namespace Go.Ab
open Go.Proofs

theorem Try.mixed : Try.prog.follows .mixedOrders = true := by kernel_rfl
def fromB (n lo hi : Int) : Bool := decide (lo ≤ n) && decide (n ≤ hi)
theorem fromB_iff {n lo hi : Int} : fromB n lo hi = true ↔ lo ≤ n ∧ n ≤ hi := by simp [fromB]
def int16 (n : Int) : Bool := fromB n (-32768) 32767

theorem refFrom_ok (n lo hi : Int) : Pure Try.prog 72 [.d (.v (.int .i64 n)), .d (.v (.int .i64 lo)), .d (.v (.int .i64 hi))] (.d (.v (.bool (fromB n lo hi)))) := by
  unfold fromB
  refine Pure.run Try.func72 rfl (by simp [Try.f72]) ?_; simp [Try.f72]

theorem refIs_ok (n : Int) : Pure Try.prog 90 [.d (.v (.int .i64 n))] (.d (.v (.bool (int16 n)))) := by
  unfold int16 fromB
  refine Pure.run Try.func90 rfl (by simp [Try.f90]) ?_; simp [Try.f90]

def allB {α : Type} (p : α → Bool) (l : List α) : Bool := l.all p
theorem allB_nil {α : Type} (p : α → Bool) : allB p [] = true := rfl
theorem allB_snoc {α : Type} (p : α → Bool) (pre : List α) (x : α) : allB p (pre ++ [x]) = (allB p pre && p x) := by simp [allB]
theorem allB_split {α : Type} {p : α → Bool} {l pre post : List α} {x : α} (h : l = pre ++ x :: post) (hH : allB p pre = true) : allB p l = (p x && allB p post) := by
  unfold allB at *
  rw [h, List.all_append, hH]; simp
theorem allB_iff {α : Type} {p : α → Bool} {l : List α} : allB p l = true ↔ ∀ x ∈ l, p x = true := by simp [allB]

theorem refValues_ok (l : List Int) (hl : l.length ≤ 1000000000000000) : Pure Try.prog 73 [.d (.sl (encI l))] (.d (.v (.bool (allB int16 l)))) := by
  refine Pure.run Try.func73 rfl (by simp [Try.f73]) ?_; simp [Try.f73]
  refine AWP.loopL [0, 3] l (fun pre => [(3, .d (.v (.int .i64 pre.length)))]) (fun _ => []) (fun pre => allB int16 pre = true) (by rfl) (by omega) (by simp [allB_nil]) ?_ ?_
  · rintro pre x post hsp hH hlt hge a4
    have hall := allB_split hsp hH
    clear hsp
    simp [*]
    refine AOps.pureC rfl (refIs_ok x) (by simp) rfl (by simp) rfl ?_
    simp
    simp_all [allB_snoc]
  · intro hH
    simp [*]

/-! ### Letters -/
def smallB (c : Int) : Bool := fromB c 97 122
def greatB (c : Int) : Bool := fromB c 65 90
def digitB (c : Int) : Bool := fromB c 48 57
def rowB (c : Int) : Bool := smallB c || greatB c || digitB c || c == 45 || c == 39
def txtB (c : UInt8) : Bool := !((decide ((c.toNat : Int) < 32) || decide ((c.toNat : Int) > 126)) && (c.toNat : Int) != 10)
def wrdB (c : UInt8) : Bool := rowB c.toNat && !greatB c.toNat
def isTextB (s : ByteArray) : Bool := allB txtB s.data.toList && decide (s.size ≤ 1024)
def isWordB (s : ByteArray) : Bool := decide (1 ≤ s.size) && decide (s.size ≤ 9) && (smallB (s.data.toList[0]?.getD 0).toNat || digitB (s.data.toList[0]?.getD 0).toNat) && allB wrdB s.data.toList

theorem refSmall_ok (c : Int) : Pure Try.prog 119 [.d (.v (.int .u8 c))] (.d (.v (.bool (smallB c)))) := by
  unfold smallB fromB
  refine Pure.run Try.func119 rfl (by simp [Try.f119]) ?_; simp [Try.f119]
theorem refGreat_ok (c : Int) : Pure Try.prog 122 [.d (.v (.int .u8 c))] (.d (.v (.bool (greatB c)))) := by
  unfold greatB fromB
  refine Pure.run Try.func122 rfl (by simp [Try.f122]) ?_; simp [Try.f122]
theorem refDigit_ok (c : Int) : Pure Try.prog 120 [.d (.v (.int .u8 c))] (.d (.v (.bool (digitB c)))) := by
  unfold digitB fromB
  refine Pure.run Try.func120 rfl (by simp [Try.f120]) ?_; simp [Try.f120]
theorem refRow_ok (c : Int) : Pure Try.prog 121 [.d (.v (.int .u8 c))] (.d (.v (.bool (rowB c)))) := by
  unfold rowB
  refine Pure.run Try.func121 rfl (by simp [Try.f121]) ?_; simp [-condC_bool, Try.f121]
  repeat' (first
    | (with_reducible refine And.intro ?_ ?_)
    | (refine condC_split (fun h => ?_) (fun h => ?_) <;> (try simp at h) <;> (try simp [-condC_bool, *]))
    | (refine AOps.pureC rfl (refSmall_ok _) rfl rfl (by simp) rfl ?_ <;> (try simp [-condC_bool, *]))
    | (refine AOps.pureC rfl (refGreat_ok _) rfl rfl (by simp) rfl ?_ <;> (try simp [-condC_bool, *]))
    | (refine AOps.pureC rfl (refDigit_ok _) rfl rfl (by simp) rfl ?_ <;> (try simp [-condC_bool, *]))
    | (refine AOps.lendC rfl (refSmall_ok _) rfl (by simp) rfl rfl (by simp) rfl ?_ <;> (try simp [-condC_bool, *]))
    | (refine AOps.lendC rfl (refGreat_ok _) rfl (by simp) rfl rfl (by simp) rfl ?_ <;> (try simp [-condC_bool, *]))
    | (refine AOps.lendC rfl (refDigit_ok _) rfl (by simp) rfl rfl (by simp) rfl ?_ <;> (try simp [-condC_bool, *]))
    | (refine AOps.pureG rfl (fun h => refSmall_ok _) rfl (by first | rfl | (simp; rfl)) (by simp) (by simp) rfl ?_ <;> (try simp [-condC_bool, *]))
    | (refine AOps.pureG rfl (fun h => refGreat_ok _) rfl (by first | rfl | (simp; rfl)) (by simp) (by simp) rfl ?_ <;> (try simp [-condC_bool, *]))
    | (refine AOps.pureG rfl (fun h => refDigit_ok _) rfl (by first | rfl | (simp; rfl)) (by simp) (by simp) rfl ?_ <;> (try simp [-condC_bool, *]))
    | (with_reducible intro _))
theorem refIsText_ok (s : ByteArray) (hs : s.size ≤ 1000000000000000) : Pure Try.prog 74 [.d (.v (.string s))] (.d (.v (.bool (isTextB s)))) := by
  have hsz : s.data.toList.length = s.size := rfl
  unfold isTextB
  refine Pure.run Try.func74 rfl (by simp [Try.f74]) ?_; simp [Try.f74]
  refine AWP.loopL [0, 3] s.data.toList (fun pre => [(3, .d (.v (.int .i64 pre.length)))]) (fun _ => []) (fun pre => allB txtB pre = true) (by rfl) (by omega) (by simp [allB_nil]) ?_ ?_
  · rintro pre x post hsp hH hlt hge a4
    have hall := allB_split hsp hH
    have hge2 : s.data[pre.length]'hlt = x := by simpa using hge
    rw [hsz] at hlt
    clear hsp hge
    simp [*]
    have : txtB x = true ↔ ((x.toNat : Int) < 32 ∨ 126 < (x.toNat : Int) → (x.toNat : Int) = 10) := by simp [txtB]; omega
    refine ⟨fun h1 h2 h3 => (h2 ((this.1 h3) h1)).elim, fun h => ?_⟩
    simp [allB_snoc, hH, this.2 h]
  · intro hH
    simp [*]
    omega

theorem refIsWord_ok (s : ByteArray) (hs : s.size ≤ 1000000000000000) : Pure Try.prog 105 [.d (.v (.string s))] (.d (.v (.bool (isWordB s)))) := by
  have hsz : s.data.toList.length = s.size := rfl
  unfold isWordB
  refine Pure.run Try.func105 rfl (by simp [Try.f105]) ?_; simp [-condC_bool, Try.f105]
  repeat' (first
    | (with_reducible refine And.intro ?_ ?_)
    | (refine condC_split (fun h => ?_) (fun h => ?_) <;> (try simp at h) <;> (try simp [-condC_bool, *]))
    | (refine AOps.pureC rfl (refSmall_ok _) rfl rfl (by simp) rfl ?_ <;> (try simp [-condC_bool, *]))
    | (refine AOps.pureC rfl (refDigit_ok _) rfl rfl (by simp) rfl ?_ <;> (try simp [-condC_bool, *]))
    | (refine AOps.lendC rfl (refSmall_ok _) rfl (by simp) rfl rfl (by simp) rfl ?_ <;> (try simp [-condC_bool, *]))
    | (refine AOps.lendC rfl (refDigit_ok _) rfl (by simp) rfl rfl (by simp) rfl ?_ <;> (try simp [-condC_bool, *]))
    | (refine AOps.pureG rfl (fun h => refSmall_ok _) rfl (by first | rfl | (simp; rfl)) (by simp) (by simp) rfl ?_ <;> (try simp [-condC_bool, *]))
    | (refine AOps.pureG rfl (fun h => refDigit_ok _) rfl (by first | rfl | (simp; rfl)) (by simp) (by simp) rfl ?_ <;> (try simp [-condC_bool, *]))
    | (with_reducible intro _))
  all_goals first | omega | assumption | skip
  · generalize smallB ↑(s.data[0]?.getD 0).toNat = p at *
    generalize digitB ↑(s.data[0]?.getD 0).toNat = q at *
    rename_i h1 h2 h3
    rcases h with (h | h) | ⟨h, h'⟩
    · omega
    · omega
    · simp [h, h'] at h3
  · refine AWP.loopL [0, 3] s.data.toList (fun pre => [(3, .d (.v (.int .i64 pre.length)))]) (fun _ => []) (fun pre => allB wrdB pre = true) (by rfl) (by omega) (by simp [allB_nil]) ?_ ?_
    · rintro pre x post hsp hH hlt hge a4
      have hall := allB_split hsp hH
      have hge2 : s.data[pre.length]'hlt = x := by simpa using hge
      rw [hsz] at hlt
      clear hsp hge
      have hsn : allB wrdB (pre ++ [x]) = wrdB x := by simp [allB_snoc, hH]
      have hx : wrdB x = (rowB x.toNat && !greatB x.toNat) := rfl
      simp [-condC_bool, *]
      repeat' (first
        | (with_reducible refine And.intro ?_ ?_)
        | (refine condC_split (fun h => ?_) (fun h => ?_) <;> (try simp at h) <;> (try simp [-condC_bool, *]))
        | (refine AOps.pureC rfl (refRow_ok _) rfl rfl (by simp) rfl ?_ <;> (try simp [-condC_bool, *]))
        | (refine AOps.pureC rfl (refGreat_ok _) rfl rfl (by simp) rfl ?_ <;> (try simp [-condC_bool, *]))
        | (refine AOps.lendC rfl (refRow_ok _) rfl (by simp) rfl rfl (by simp) rfl ?_ <;> (try simp [-condC_bool, *]))
        | (refine AOps.lendC rfl (refGreat_ok _) rfl (by simp) rfl rfl (by simp) rfl ?_ <;> (try simp [-condC_bool, *]))
        | (refine AOps.pureG rfl (fun h => refRow_ok _) rfl (by first | rfl | (simp; rfl)) (by simp) (by simp) rfl ?_ <;> (try simp [-condC_bool, *]))
        | (refine AOps.pureG rfl (fun h => refGreat_ok _) rfl (by first | rfl | (simp; rfl)) (by simp) (by simp) rfl ?_ <;> (try simp [-condC_bool, *]))
        | (with_reducible intro _))
      all_goals (first | assumption | omega | (rw [inR_i64]; omega) | (simp_all; done) | grind | skip)
    · intro hH
      simp [*]
      all_goals (first | assumption | omega | (rw [inR_i64]; omega) | (simp_all; done) | grind | skip)

/-! ### Tables -/
def textB (t : GTables) (n : Int) (none : Bool) : Bool := fromB n 0 (t.Texts.length - 1) || (none && decide (n = -1))
def routB (t : GTables) (n : Int) (none : Bool) : Bool := (none && decide (n = -1)) || (fromB n 0 (t.Params.length - 1) && decide (t.Params[n.toNat]?.getD 0 = 0))
def thingB (t : GTables) (n : Int) : Bool := fromB n 1 (t.Things.length - 1)

theorem refText_ok (t : GTables) (ht : t.wf) (n : Int) (none : Bool) : Pure Try.prog 71 [.agg (t.enc.map .d), .d (.v (.int .i64 n)), .d (.v (.bool none))] (.d (.v (.bool (textB t n none)))) := by
  have hlen : t.Texts.length ≤ 1000000000000000 := by have := ht; simp [GTables.wf] at this; omega
  unfold textB
  refine Pure.run Try.func71 rfl (by simp [Try.f71]) ?_; simp [-condC_bool, Try.f71]
  repeat' (first
    | (with_reducible refine And.intro ?_ ?_)
    | (refine condC_split (fun h => ?_) (fun h => ?_) <;> (try simp at h) <;> (try simp [-condC_bool, *]))
    | (refine AOps.pureC rfl (refFrom_ok _ _ _) rfl rfl (by simp) rfl ?_ <;> (try simp [-condC_bool, *]))
    | (refine AOps.lendC rfl (refFrom_ok _ _ _) rfl (by simp) rfl rfl (by simp) rfl ?_ <;> (try simp [-condC_bool, *]))
    | (refine AOps.pureG rfl (fun h => refFrom_ok _ _ _) rfl (by first | rfl | (simp; rfl)) (by simp) (by simp) rfl ?_ <;> (try simp [-condC_bool, *]))
    | (with_reducible intro _))
  all_goals (first | assumption | omega | (rw [inR_i64]; omega) | (simp_all [fromB]; done) | grind [fromB] | skip)
theorem refThing_ok (t : GTables) (ht : t.wf) (n : Int) : Pure Try.prog 78 [.agg (t.enc.map .d), .d (.v (.int .i64 n))] (.d (.v (.bool (thingB t n)))) := by
  have hlen : t.Things.length ≤ 1000000000000000 := by have := ht; simp [GTables.wf] at this; omega
  unfold thingB
  refine Pure.run Try.func78 rfl (by simp [Try.f78]) ?_; simp [-condC_bool, Try.f78]
  repeat' (first
    | (with_reducible refine And.intro ?_ ?_)
    | (refine condC_split (fun h => ?_) (fun h => ?_) <;> (try simp at h) <;> (try simp [-condC_bool, *]))
    | (refine AOps.pureC rfl (refFrom_ok _ _ _) rfl rfl (by simp) rfl ?_ <;> (try simp [-condC_bool, *]))
    | (refine AOps.lendC rfl (refFrom_ok _ _ _) rfl (by simp) rfl rfl (by simp) rfl ?_ <;> (try simp [-condC_bool, *]))
    | (refine AOps.pureG rfl (fun h => refFrom_ok _ _ _) rfl (by first | rfl | (simp; rfl)) (by simp) (by simp) rfl ?_ <;> (try simp [-condC_bool, *]))
    | (with_reducible intro _))
  all_goals (first | assumption | omega | (rw [inR_i64]; omega) | (simp_all [fromB]; done) | grind [fromB] | skip)
theorem refRoutine_ok (t : GTables) (ht : t.wf) (n : Int) (none : Bool) : Pure Try.prog 83 [.agg (t.enc.map .d), .d (.v (.int .i64 n)), .d (.v (.bool none))] (.d (.v (.bool (routB t n none)))) := by
  have hlen : t.Params.length ≤ 1000000000000000 := by have := ht; simp [GTables.wf] at this; omega
  unfold routB
  refine Pure.run Try.func83 rfl (by simp [Try.f83]) ?_; simp [-condC_bool, Try.f83]
  repeat' (first
    | (with_reducible refine And.intro ?_ ?_)
    | (refine condC_split (fun h => ?_) (fun h => ?_) <;> (try simp at h) <;> (try simp [-condC_bool, *]))
    | (refine AOps.pureC rfl (refFrom_ok _ _ _) rfl rfl (by simp) rfl ?_ <;> (try simp [-condC_bool, *]))
    | (refine AOps.lendC rfl (refFrom_ok _ _ _) rfl (by simp) rfl rfl (by simp) rfl ?_ <;> (try simp [-condC_bool, *]))
    | (refine AOps.pureG rfl (fun h => refFrom_ok _ _ _) rfl (by first | rfl | (simp; rfl)) (by simp) (by simp) rfl ?_ <;> (try simp [-condC_bool, *]))
    | (with_reducible intro _))
  all_goals (first | assumption | omega | (rw [inR_i64]; omega) | (simp_all [fromB]; done) | grind [fromB] | skip)

def wordsB (l : List ByteArray) (most : Int) : Bool := allB isWordB l && decide ((l.length : Int) ≤ most)
theorem refWords_ok (l : List ByteArray) (hl : l.length ≤ 1000000000000000) (hs : ∀ x ∈ l, x.size ≤ 1000000000000000) (most : Int) : Pure Try.prog 77 [.d (.sl (encS l)), .d (.v (.int .i64 most))] (.d (.v (.bool (wordsB l most)))) := by
  unfold wordsB
  refine Pure.run Try.func77 rfl (by simp [Try.f77]) ?_; simp [Try.f77]
  refine AWP.loopL [0, 1, 5] l (fun pre => [(5, .d (.v (.int .i64 pre.length)))]) (fun _ => []) (fun pre => allB isWordB pre = true) (by rfl) (by omega) (by simp [allB_nil]) ?_ ?_
  · rintro pre x post hsp hH hlt hge a4
    have hall := allB_split hsp hH
    have hx := refIsWord_ok x (hs x (by rw [hsp]; simp))
    have hsn : allB isWordB (pre ++ [x]) = isWordB x := by simp [allB_snoc, hH]
    clear hsp
    simp [-condC_bool, *]
    repeat' (first
      | (with_reducible refine And.intro ?_ ?_)
      | (refine condC_split (fun h => ?_) (fun h => ?_) <;> (try simp at h) <;> (try simp [-condC_bool, *]))
      | (refine AOps.pureC rfl (hx) rfl rfl (by simp) rfl ?_ <;> (try simp [-condC_bool, *]))
      | (refine AOps.lendC rfl (hx) rfl (by simp) rfl rfl (by simp) rfl ?_ <;> (try simp [-condC_bool, *]))
      | (refine AOps.pureG rfl (fun h => hx) rfl (by first | rfl | (simp; rfl)) (by simp) (by simp) rfl ?_ <;> (try simp [-condC_bool, *]))
      | (with_reducible intro _))
    all_goals (first | assumption | omega | (rw [inR_i64]; omega) | (simp_all; done) | grind | skip)
  · intro hH
    simp [*]

def nothingB (t : GTables) (x : GThing) : Bool :=
  decide (x.Title = 0) && decide (x.Text = -1) && decide (x.Parent = 0) && decide (x.Flags = 0) && !x.Room && decide (x.Props.length = t.Props.length) && decide (x.Words.length + x.Adjs.length + x.Ways.length = 0) && allB (fun n => decide (n = 0)) x.Props
set_option maxRecDepth 20000 in
theorem refNothing_ok (t : GTables) (ht : t.wf) (x : GThing) (hx : x.wf) : Pure Try.prog 75 [.agg (t.enc.map .d), .agg (x.enc.map .d)] (.d (.v (.bool (nothingB t x)))) := by
  have hx' := hx
  simp [GThing.wf] at hx'
  unfold nothingB
  refine Pure.run Try.func75 rfl (by simp [Try.f75]) ?_; simp [-condC_bool, Try.f75]
  repeat' (first
    | (with_reducible refine And.intro ?_ ?_)
    | (refine condC_split (fun h => ?_) (fun h => ?_) <;> (try simp at h) <;> (try simp [-condC_bool, *]))
    | (refine AOps.pureC rfl (refFrom_ok _ _ _) rfl rfl (by simp) rfl ?_ <;> (try simp [-condC_bool, *]))
    | (refine AOps.lendC rfl (refFrom_ok _ _ _) rfl (by simp) rfl rfl (by simp) rfl ?_ <;> (try simp [-condC_bool, *]))
    | (refine AOps.pureG rfl (fun h => refFrom_ok _ _ _) rfl (by first | rfl | (simp; rfl)) (by simp) (by simp) rfl ?_ <;> (try simp [-condC_bool, *]))
    | (with_reducible intro _))
  obtain ⟨-, -, -, -, hq1, -, hq2, -, hq3, -, hq4, -⟩ := hx'
  all_goals (first | assumption | omega | (rw [inR_i64]; omega) | (simp_all; done) | grind | skip)
  have hz : decide (x.Words = []) = true ∧ decide (x.Adjs = []) = true ∧ decide (x.Ways = []) = true := by
    have h1 : x.Words.length = 0 := by omega
    have h2 : x.Adjs.length = 0 := by omega
    have h3 : x.Ways.length = 0 := by omega
    simp [List.length_eq_zero_iff] at h1 h2 h3
    simp [h1, h2, h3]
  have hp : decide (x.Props.length = t.Props.length) = true := by simp; omega
  refine AWP.loopL [3, 5] x.Props (fun pre => [(5, .d (.v (.int .i64 pre.length)))]) (fun _ => []) (fun pre => allB (fun n => decide (n = 0)) pre = true) (by rfl) (by omega) (by simp [allB_nil]) ?_ ?_
  · rintro pre x1 post hsp hH hlt hge a4
    have hall := allB_split hsp hH
    have hsn : allB (fun n => decide (n = 0)) (pre ++ [x1]) = decide (x1 = 0) := by simp [allB_snoc, hH]
    clear hsp h
    simp [-condC_bool, *]
    repeat' (first
      | (with_reducible refine And.intro ?_ ?_)
      | (refine condC_split (fun h => ?_) (fun h => ?_) <;> (try simp at h) <;> (try simp [-condC_bool, *]))
      | (refine AOps.pureC rfl (refRow_ok _) rfl rfl (by simp) rfl ?_ <;> (try simp [-condC_bool, *]))
      | (refine AOps.lendC rfl (refRow_ok _) rfl (by simp) rfl rfl (by simp) rfl ?_ <;> (try simp [-condC_bool, *]))
      | (refine AOps.pureG rfl (fun h => refRow_ok _) rfl (by first | rfl | (simp; rfl)) (by simp) (by simp) rfl ?_ <;> (try simp [-condC_bool, *]))
      | (with_reducible intro _))
    all_goals (first | assumption | omega | (rw [inR_i64]; omega) | (simp_all; done) | grind | skip)
  · intro hH
    clear h
    simp [*]

def bitsM (n : Int) : Int := 2 ^ (min n.toNat 16)
theorem refBits_ok (n : Int) : Pure Try.prog 76 [.d (.v (.int .i64 n))] (.d (.v (.int .i64 (bitsM n)))) := by
  refine Pure.run Try.func76 rfl (by simp [Try.f76]) ?_; simp [Try.f76]
  refine AWP.loopS [0, 3, 4] (min n.toNat 16) (fun i => [(3, .d (.v (.int .i64 (2 ^ i)))), (4, .d (.v (.int .i64 i)))]) (fun _ => []) (fun _ => True) (by rfl) (by simp) ?_
  intro i hi _
  have h16 : i ≤ 16 := by omega
  have hp : (2 : Int) ^ i ≤ 65536 ∧ (0 : Int) < 2 ^ i := by
    have e : (2 : Int) ^ i = ((2 ^ i : Nat) : Int) := by simp
    have := Nat.pow_le_pow_right (n := 2) (by decide) h16
    have := Nat.pow_pos (a := 2) (n := i) (by decide)
    rw [e]; omega
  have hs : (2 : Int) ^ (i + 1) = 2 * 2 ^ i := by rw [Int.pow_succ]; omega
  simp
  refine ⟨fun h1 h2 => ⟨by rw [inR_i64]; omega, by rw [inR_i64]; omega, by omega, by omega⟩, fun h => ?_⟩
  unfold bitsM
  rw [show min n.toNat 16 = i by omega]

end Go.Ab

set_option linter.unusedSimpArgs false
set_option linter.unusedVariables false
namespace Go.Ab
open Go.Proofs

/-! ### Things -/
def prevB : Option GWay → GWay → Bool
  | none, _ => true
  | some p, w => decide (p.Dir < w.Dir)
def roomB (t : GTables) (n : Int) : Bool := (t.Things[n.toNat]?.getD GThing.zero).Room
def wayB (t : GTables) (prev : Option GWay) (w : GWay) : Bool :=
  fromB w.Dir 1 12 && prevB prev w && thingB t w.To && roomB t w.To && routB t w.When true && textB t w.Else true
def waysM (t : GTables) : Option GWay → List GWay → Bool
  | _, [] => true
  | p, w :: l => wayB t p w && waysM t (some w) l
def waysB (t : GTables) (l : List GWay) : Bool := waysM t none l
theorem waysM_app (t : GTables) (l r : List GWay) (p : Option GWay) : waysM t p (l ++ r) = (waysM t p l && waysM t (l.getLast?.or p) r) := by
  induction l generalizing p with
  | nil => simp [waysM]
  | cons w l ih =>
    rw [List.cons_append, waysM, waysM, ih, Bool.and_assoc]
    cases hl : l.getLast? with
    | none => have : l = [] := by simpa using hl
              subst this; simp
    | some q => simp [List.getLast?_cons, hl]

set_option maxRecDepth 20000 in
theorem refWays_ok (t : GTables) (ht : t.wf) (l : List GWay) (hl : l.length ≤ 1000000000000000) (hw : ∀ x ∈ l, x.wf) : Pure Try.prog 79 [.agg (t.enc.map .d), .d (.sl (l.map GWay.enc))] (.d (.v (.bool (waysB t l)))) := by
  have hlen : t.Things.length ≤ 2000000000000 := by have := ht; simp [GTables.wf] at this; omega
  unfold waysB
  refine Pure.run Try.func79 rfl (by simp [Try.f79]) ?_; simp [Try.f79]
  try intro (_ : Nat → Nat)
  refine AWP.loopL [1, 2, 5] l (fun pre => [(5, .d (.v (.int .i64 pre.length)))]) (fun _ => []) (fun pre => waysM t none pre = true) (by rfl) (by omega) (by simp [waysM]) ?_ ?_
  · rintro pre x post hsp hH hlt hge a4
    have hall : waysM t none l = (wayB t pre.getLast? x && waysM t (some x) post) := by
      rw [hsp, waysM_app, hH, waysM]; simp
    have hsn : waysM t none (pre ++ [x]) = wayB t pre.getLast? x := by rw [waysM_app, hH, waysM, waysM]; simp
    have hx := hw x (by rw [hsp]; simp)
    have hprev : ∀ i : Nat, i + 1 = pre.length → l[i]? = pre.getLast? := by
      intro i hi
      rw [hsp, List.getElem?_append_left (by omega), List.getLast?_eq_getElem?]
      congr 1; omega
    have hT : thingB t x.To = true → (1 ≤ x.To ∧ x.To.toNat < t.Things.length) := by
      intro h
      unfold thingB at h
      rw [fromB_iff] at h
      omega
    have hw1 : wayB t pre.getLast? x = (fromB x.Dir 1 12 && prevB pre.getLast? x && thingB t x.To && roomB t x.To && routB t x.When true && textB t x.Else true) := rfl
    rw [hw1] at hall hsn
    clear hw hsp
    simp [-condC_bool, *, -hprev, -hT, -hall, -hsn]
    refine AWP.regionD [.d (.v (.bool (fromB x.Dir 1 12))), .d (.v (.bool (thingB t x.To))), .d (.v (.bool (routB t x.When true))), .d (.v (.bool (textB t x.Else true)))] Try.mixed (by kernel_rfl) (by rfl) ?_
    simp [-condC_bool, *, -hprev, -hT, (refFrom_ok _ _ _).ok, (refThing_ok t ht _).ok, (refRoutine_ok t ht _ _).ok, (refText_ok t ht _ _).ok]
    have hP : (0 < pre.length → (l[pre.length - 1]?.getD GWay.zero).Dir < x.Dir) ↔ prevB pre.getLast? x = true := by
      cases hg : pre.getLast? with
      | none => have : pre = [] := by simpa using hg
                subst this; simp [prevB]
      | some p =>
        have hne : 0 < pre.length := by
          cases pre with
          | nil => simp at hg
          | cons _ _ => simp
        rw [hprev (pre.length - 1) (by omega), hg]
        simp [hne, prevB]
    have hR : (t.Things[x.To.toNat]?.getD GThing.zero).Room = roomB t x.To := rfl
    have hnl : pre = [] ↔ ¬ 0 < pre.length := by cases pre <;> simp
    rw [hR, hnl]
    generalize fromB x.Dir 1 12 = b1 at *
    generalize thingB t x.To = b2 at *
    generalize routB t x.When true = b3 at *
    generalize textB t x.Else true = b4 at *
    generalize waysM t (some x) post = b5 at *
    generalize roomB t x.To = b6 at *
    generalize prevB pre.getLast? x = b7 at *
    generalize (l[pre.length - 1]?.getD GWay.zero).Dir = d at *
    have hi : 0 < pre.length → inR IntKind.i64 ((pre.length : Int) - 1) := fun h => by rw [inR_i64]; omega
    rcases Nat.eq_zero_or_pos pre.length with hz | hz
    · have hb7 : b7 = true := hP.1 (fun h => by omega)
      clear hP hprev hnl
      cases b1 <;> simp [hz, hsn, hall, hb7, a4]
      cases b2 <;> simp
      obtain ⟨k1, k2⟩ := hT rfl
      cases b6 <;> simp [k2, show 0 ≤ x.To by omega]
      cases b3 <;> simp
      cases b4 <;> simp [a4, hsn, hall, hb7]
      rw [inR_i64]; omega
    · have hP' : d < x.Dir ↔ b7 = true := ⟨fun h => hP.1 (fun _ => h), fun h => hP.2 h hz⟩
      have hi' := hi hz
      clear hP hprev hnl hi
      have hle : 1 ≤ (pre.length : Int) ∧ pre.length - 1 < l.length := by omega
      cases b1 <;> simp [hz, hsn, hall, a4, hi', hle, hP']
      cases b7 <;> simp
      cases b2 <;> simp
      obtain ⟨k1, k2⟩ := hT rfl
      cases b6 <;> simp [k2, show 0 ≤ x.To by omega]
      cases b3 <;> simp
      cases b4 <;> simp [a4, hsn, hall]
      intro h
      have := hP'.2 rfl
      omega
  · intro hH
    simp [*]

/-- A thing, by its number. -/
def thingAt (t : GTables) (n : Int) : GThing := t.Things[n.toNat]?.getD GThing.zero
/-- All parents are things, or nothing. -/
def parentsB (t : GTables) : Prop := ∀ x ∈ t.Things, 0 ≤ x.Parent ∧ x.Parent < t.Things.length

def endsM (t : GTables) : Nat → Int → Bool
  | 0, _ => false
  | k + 1, x => if x = 0 then true else endsM t k (thingAt t x).Parent
def endsB (t : GTables) (x : Int) : Bool := endsM t t.Things.length x
theorem thingAt_get {t : GTables} {n : Int} (h : 0 ≤ n ∧ n < t.Things.length) : t.Things[n.toNat]? = some (thingAt t n) := by
  unfold thingAt
  rw [List.getElem?_eq_getElem (by omega)]; simp
theorem thingAt_elem {t : GTables} {n : Int} (h : 0 ≤ n ∧ n < t.Things.length) : t.Things[n.toNat]'(by omega) = thingAt t n := by
  have := thingAt_get h
  rwa [List.getElem?_eq_getElem (by omega), Option.some.injEq] at this
theorem thingAt_mem {t : GTables} {n : Int} (h : 0 ≤ n ∧ n < t.Things.length) : thingAt t n ∈ t.Things := List.mem_of_getElem? (thingAt_get h)

/-- The parent of a thing, that one's, and so on: n steps. -/
def upN (t : GTables) : Nat → Int → Int
  | 0, x => x
  | k + 1, x => upN t k (thingAt t x).Parent
theorem upN_succ (t : GTables) (k : Nat) (x : Int) : upN t (k + 1) x = (thingAt t (upN t k x)).Parent := by
  induction k generalizing x with
  | zero => rfl
  | succ k ih => rw [upN, ih]; rfl
theorem upN_in {t : GTables} (hp : parentsB t) (k : Nat) (x : Int) (hx : 0 ≤ x ∧ x < t.Things.length) : 0 ≤ upN t k x ∧ upN t k x < t.Things.length := by
  induction k generalizing x with
  | zero => exact hx
  | succ k ih => exact ih _ (hp _ (thingAt_mem hx))
theorem endsM_up (t : GTables) : ∀ (i k : Nat) (x : Int), (∀ j < i, upN t j x ≠ 0) → endsM t (i + k) x = endsM t k (upN t i x)
  | 0, k, x, _ => by rw [Nat.zero_add]; rfl
  | i + 1, k, x, h => by
    rw [show i + 1 + k = (i + k) + 1 by omega, endsM, if_neg (show x ≠ 0 from h 0 (by omega)), upN, ← endsM_up t i k]
    exact fun j hj => h (j + 1) (by omega)

theorem refEnds_ok (t : GTables) (ht : t.wf) (hp : parentsB t) (x : Int) (hx : 0 ≤ x ∧ x < t.Things.length) : Pure Try.prog 80 [.agg (t.enc.map .d), .d (.v (.int .i64 x))] (.d (.v (.bool (endsB t x)))) := by
  have hlen : t.Things.length ≤ 2000000000000 := by have := ht; simp [GTables.wf] at this; omega
  refine Pure.run Try.func80 rfl (by simp [Try.f80]) ?_; simp [Try.f80]
  try intro (_ : Nat → Nat)
  refine AWP.loopS [1, 2, 5] t.Things.length (fun i => [(1, .d (.v (.int .i64 (upN t i x)))), (5, .d (.v (.int .i64 i)))]) (fun _ => []) (fun i => ∀ j < i, upN t j x ≠ 0) (by rfl) (by simp [upN]) ?_
  intro i hi hH
  have hu := upN_in hp i x hx
  have hs := upN_succ t i x
  have he := endsM_up t i (t.Things.length - i) x hH
  rw [show i + (t.Things.length - i) = t.Things.length by omega] at he
  have hget := thingAt_elem hu
  have hs' := hs.symm
  rcases Nat.lt_or_eq_of_le hi with hlt | rfl
  · have a4 : inR .i64 ((i : Int) + 1) := by rw [inR_i64]; omega
    unfold endsB
    rw [show t.Things.length - i = (t.Things.length - (i + 1)) + 1 by omega, endsM, ← hs] at he
    clear hs
    simp [-condC_bool, *]
    repeat' (first
      | (with_reducible refine And.intro ?_ ?_)
      | (refine condC_split (fun h => ?_) (fun h => ?_) <;> (try simp at h) <;> (try simp [-condC_bool, *]))
      | (refine AOps.pureC rfl (refRow_ok _) rfl rfl (by simp) rfl ?_ <;> (try simp [-condC_bool, *]))
      | (refine AOps.lendC rfl (refRow_ok _) rfl (by simp) rfl rfl (by simp) rfl ?_ <;> (try simp [-condC_bool, *]))
      | (refine AOps.pureG rfl (fun h => refRow_ok _) rfl (by first | rfl | (simp; rfl)) (by simp) (by simp) rfl ?_ <;> (try simp [-condC_bool, *]))
      | (with_reducible intro _))
    all_goals (first | assumption | omega | (rw [inR_i64]; omega) | (simp_all; done) | grind | skip)
  · rw [Nat.sub_self] at he
    unfold endsB
    simp [he, endsM]

def roomM (t : GTables) : Nat → Int → Bool
  | 0, _ => false
  | k + 1, x => if thingB t x then (if roomB t x then true else roomM t k (thingAt t x).Parent) else false
def inRoomB (t : GTables) (x : Int) : Bool := roomM t t.Things.length x
theorem roomM_up (t : GTables) : ∀ (i k : Nat) (x : Int), (∀ j < i, thingB t (upN t j x) = true ∧ roomB t (upN t j x) = false) → roomM t (i + k) x = roomM t k (upN t i x)
  | 0, k, x, _ => by rw [Nat.zero_add]; rfl
  | i + 1, k, x, h => by
    have h0 : thingB t x = true ∧ roomB t x = false := h 0 (by omega)
    rw [show i + 1 + k = (i + k) + 1 by omega, roomM, if_pos h0.1, h0.2, if_neg (by simp), upN, ← roomM_up t i k]
    exact fun j hj => h (j + 1) (by omega)

theorem refRoom_ok (t : GTables) (ht : t.wf) (x : Int) : Pure Try.prog 81 [.agg (t.enc.map .d), .d (.v (.int .i64 x))] (.d (.v (.bool (inRoomB t x)))) := by
  have hlen : t.Things.length ≤ 2000000000000 := by have := ht; simp [GTables.wf] at this; omega
  refine Pure.run Try.func81 rfl (by simp [Try.f81]) ?_; simp [Try.f81]
  try intro (_ : Nat → Nat)
  refine AWP.loopS [1, 2, 5] t.Things.length (fun i => [(1, .d (.v (.int .i64 (upN t i x)))), (5, .d (.v (.int .i64 i)))]) (fun _ => []) (fun i => ∀ j < i, thingB t (upN t j x) = true ∧ roomB t (upN t j x) = false) (by rfl) (by simp [upN]) ?_
  intro i hi hH
  have hs' := (upN_succ t i x).symm
  have he := roomM_up t i (t.Things.length - i) x hH
  rw [show i + (t.Things.length - i) = t.Things.length by omega] at he
  unfold inRoomB
  have hT : thingB t (upN t i x) = true → 0 ≤ upN t i x ∧ upN t i x < t.Things.length := by
    unfold thingB; rw [fromB_iff]; omega
  have hR : (thingAt t (upN t i x)).Room = roomB t (upN t i x) := rfl
  rcases Nat.lt_or_eq_of_le hi with hlt | rfl
  · have a4 : inR .i64 ((i : Int) + 1) := by rw [inR_i64]; omega
    rw [show t.Things.length - i = (t.Things.length - (i + 1)) + 1 by omega, roomM, hs'] at he
    simp [-condC_bool, *, -hT]
    refine AOps.pureG rfl (fun h => refThing_ok t ht _) rfl (by first | rfl | (simp; rfl)) (by simp) (by simp) rfl ?_
    generalize hb : thingB t (upN t i x) = b at *
    cases b with
    | false =>
      simp [-condC_bool, he]
    | true =>
      have hu := hT rfl
      have hget := thingAt_elem hu
      simp [-condC_bool, *]
      repeat' (first
        | (with_reducible refine And.intro ?_ ?_)
        | (refine condC_split (fun h => ?_) (fun h => ?_) <;> (try simp at h) <;> (try simp [-condC_bool, *]))
        | (refine AOps.pureC rfl (refRow_ok _) rfl rfl (by simp) rfl ?_ <;> (try simp [-condC_bool, *]))
        | (refine AOps.lendC rfl (refRow_ok _) rfl (by simp) rfl rfl (by simp) rfl ?_ <;> (try simp [-condC_bool, *]))
        | (refine AOps.pureG rfl (fun h => refRow_ok _) rfl (by first | rfl | (simp; rfl)) (by simp) (by simp) rfl ?_ <;> (try simp [-condC_bool, *]))
        | (with_reducible intro _))
      all_goals (first | assumption | omega | (rw [inR_i64]; omega) | (simp_all; done) | grind | skip)
  · rw [Nat.sub_self] at he
    simp [-condC_bool, he, roomM]
    refine AOps.pureG rfl (fun h => refThing_ok t ht _) rfl (by first | rfl | (simp; rfl)) (by simp) (by simp) rfl ?_
    simp
end Go.Ab

set_option linter.unusedSimpArgs false
set_option linter.unusedVariables false
namespace Go.Ab
open Go.Proofs

def thingOk (t : GTables) (x : GThing) : Bool :=
  textB t x.Title false && textB t x.Text true && fromB x.Flags 0 (bitsM t.Flags - 1) && decide (x.Props.length = t.Props.length) && allB int16 x.Props && wordsB x.Words 8 && wordsB x.Adjs 8 &&
  (decide (x.Parent = 0) || thingB t x.Parent) && (!x.Room || decide (x.Parent = 0)) && (x.Room || decide (x.Ways.length = 0)) && waysB t x.Ways
def thingsB (t : GTables) : Bool :=
  fromB t.Things.length 3 128 && nothingB t (thingAt t 0) && !(thingAt t 1).Room && allB (thingOk t) (t.Things.drop 1) && allB (fun (i : Nat) => endsB t ((i : Int) + 1)) (List.range (t.Things.length - 1)) && inRoomB t 1

theorem bitsM_le (n : Int) : 1 ≤ bitsM n ∧ bitsM n ≤ 65536 := by
  unfold bitsM
  generalize hm : min n.toNat 16 = i
  have h16 : i ≤ 16 := by omega
  have e : (2 : Int) ^ i = ((2 ^ i : Nat) : Int) := by simp
  have := Nat.pow_le_pow_right (n := 2) (by decide) h16
  have := Nat.pow_pos (a := 2) (n := i) (by decide)
  rw [e]; omega

set_option maxRecDepth 20000 in
theorem refThings_ok (t : GTables) (ht : t.wf) : Pure Try.prog 42 [.agg (t.enc.map .d)] (.d (.v (.bool (thingsB t)))) := by
  have hlen : t.Things.length ≤ 2000000000000 := by have := ht; simp [GTables.wf] at this; omega
  have hwf := GTables.wf_Things ht
  unfold thingsB
  refine Pure.run Try.func42 rfl (by simp [Try.f42]) ?_; simp [Try.f42]
  try intro (_ : Nat → Nat)
  refine AWP.regionD [.d (.v (.bool (fromB t.Things.length 3 128))), .d (.v (.bool (nothingB t (thingAt t 0))))] Try.mixed (by kernel_rfl) (by rfl) ?_
  have h0 : thingAt t 0 = t.Things[0]?.getD GThing.zero := rfl
  have hz : (thingAt t 0).wf := by
    rw [h0]
    cases h : t.Things[0]? with
    | none => simp [GThing.wf, GThing.zero, inR_i64]
    | some x => exact hwf x (List.mem_of_getElem? h)
  simp [-condC_bool, (refFrom_ok _ _ _).ok, ← h0, (refNothing_ok t ht _ hz).ok]
  have hN : fromB t.Things.length 3 128 = true → 3 ≤ t.Things.length ∧ t.Things.length ≤ 128 := by rw [fromB_iff]; omega
  generalize fromB t.Things.length 3 128 = p1 at *
  cases p1 <;> simp [-condC_bool, hN]
  obtain ⟨hN1, hN2⟩ := hN rfl
  clear hN
  have hR1 : nothingB t (thingAt t 0) = true → (thingAt t 0).Parent = 0 := by
    intro h; simp [nothingB] at h; exact h.1.1.1.1.1.2
  generalize nothingB t (thingAt t 0) = p2 at *
  cases p2 <;> simp [-condC_bool, show 0 < t.Things.length by omega, show 1 < t.Things.length by omega]
  have h1 : thingAt t 1 = t.Things[1]?.getD GThing.zero := rfl
  have h1' : t.Things[1]'(by omega) = thingAt t 1 := by rw [h1, List.getElem?_eq_getElem (by omega)]; simp
  rw [h1']
  generalize (thingAt t 1).Room = p3 at *
  cases p3 <;> simp [-condC_bool]
  generalize hl : t.Things.tail = l at *
  have hll : l.length + 1 = t.Things.length := by rw [← hl]; simp; omega
  have hlg : ∀ (k : Nat) (h : k < l.length), t.Things[k + 1]'(by omega) = l[k] := by intro k h; subst hl; simp
  refine AWP.loopL [1, 3] l (fun pre => [(3, .d (.v (.int .i64 ((pre.length : Int) + 1))))]) (fun _ => []) (fun pre => allB (thingOk t) pre = true) (by rfl) (by omega) (by simp [allB_nil]) ?_ ?_
  · rintro pre x post hsp hH hlt hge a4
    have hall := allB_split hsp hH
    have hsn : allB (thingOk t) (pre ++ [x]) = thingOk t x := by simp [allB_snoc, hH]
    have hge' := hlg _ hlt
    rw [hge] at hge'
    have hxw : x.wf := hwf x (by rw [← hge']; exact List.getElem_mem _)
    have c1 : (pre.length : Int) + 1 < t.Things.length := by omega
    have c2 : pre.length + 1 < t.Things.length := by omega
    have hbl := bitsM_le t.Flags
    have hok : thingOk t x = (textB t x.Title false && textB t x.Text true && fromB x.Flags 0 (bitsM t.Flags - 1) && decide (x.Props.length = t.Props.length) && allB int16 x.Props && wordsB x.Words 8 && wordsB x.Adjs 8 &&
      (decide (x.Parent = 0) || thingB t x.Parent) && (!x.Room || decide (x.Parent = 0)) && (x.Room || decide (x.Ways.length = 0)) && waysB t x.Ways) := rfl
    clear hwf hsp hlg hge hN1 hN2 h0 h1 h1' hz
    have c0 : 0 ≤ (pre.length : Int) + 1 := by omega
    simp [-condC_bool, c0, c1, c2, hge', hall]
    try intro (_ : Nat → Nat)
    refine AWP.regionD [.d (.v (.bool (textB t x.Title false))), .d (.v (.bool (textB t x.Text true))), .d (.v (.int .i64 (bitsM t.Flags))), .d (.v (.bool (fromB x.Flags 0 (bitsM t.Flags - 1)))), .d (.v (.bool (allB int16 x.Props))), .d (.v (.bool (wordsB x.Words 8))), .d (.v (.bool (wordsB x.Adjs 8)))] Try.mixed (by kernel_rfl) (by rfl) ?_
    simp [-condC_bool, (refText_ok t ht _ _).ok, (refBits_ok _).ok, (refFrom_ok _ _ _).ok, (refValues_ok x.Props (by have := GThing.wl_Props hxw; omega)).ok, (refWords_ok x.Words (by have := GThing.wl_Words hxw; omega) (fun y hy => by have := GThing.wf_Words hxw y hy; omega) _).ok, (refWords_ok x.Adjs (by have := GThing.wl_Adjs hxw; omega) (fun y hy => by have := GThing.wf_Adjs hxw y hy; omega) _).ok]
    refine ⟨fun h h' => ⟨by rw [inR_i64]; omega, h, h'⟩, ?_⟩
    refine condC_split (fun h => ?_) (fun h => ?_)
    · simp [-condC_bool]
      simp at h
      all_goals (first | assumption | omega | (rw [inR_i64]; omega) | (simp_all; done) | grind | skip)
    · simp [-condC_bool]
      simp at h
      repeat' (first
        | (with_reducible refine And.intro ?_ ?_)
        | (refine condC_split (fun h => ?_) (fun h => ?_) <;> (try simp at h) <;> (try simp [-condC_bool, *]))
        | (refine AOps.pureC rfl (refThing_ok t ht _) rfl rfl (by simp) rfl ?_ <;> (try simp [-condC_bool, *]))
        | (refine AOps.pureC rfl (refWays_ok t ht x.Ways (by have := GThing.wl_Ways hxw; omega) (GThing.wf_Ways hxw)) rfl rfl (by simp) rfl ?_ <;> (try simp [-condC_bool, *]))
        | (refine AOps.lendC rfl (refThing_ok t ht _) rfl (by simp) rfl rfl (by simp) rfl ?_ <;> (try simp [-condC_bool, *]))
        | (refine AOps.lendC rfl (refWays_ok t ht x.Ways (by have := GThing.wl_Ways hxw; omega) (GThing.wf_Ways hxw)) rfl (by simp) rfl rfl (by simp) rfl ?_ <;> (try simp [-condC_bool, *]))
        | (refine AOps.pureG rfl (fun h => refThing_ok t ht _) rfl (by first | rfl | (simp; rfl)) (by simp) (by simp) rfl ?_ <;> (try simp [-condC_bool, *]))
        | (refine AOps.pureG rfl (fun h => refWays_ok t ht x.Ways (by have := GThing.wl_Ways hxw; omega) (GThing.wf_Ways hxw)) rfl (by first | rfl | (simp; rfl)) (by simp) (by simp) rfl ?_ <;> (try simp [-condC_bool, *]))
        | (with_reducible intro _))
      all_goals (first | assumption | omega | (rw [inR_i64]; omega) | (simp_all; done) | grind | skip)
  · intro hH
    have hpar : parentsB t := by
      intro x hx
      obtain ⟨k, hk, rfl⟩ := List.getElem_of_mem hx
      cases k with
      | zero =>
        have := hR1 rfl
        rw [h0, List.getElem?_eq_getElem hk] at this
        simp only [Option.getD_some] at this
        rw [this]; omega
      | succ k =>
        rw [hlg k (by omega)]
        have := allB_iff.1 hH l[k] (List.getElem_mem _)
        simp [thingOk, thingB, fromB] at this
        omega
    clear hwf h0 hz hR1 h1 h1' hlg
    have c9 : ¬ ((l.length : Int) + 1 < t.Things.length) := by omega
    simp [-condC_bool, c9, hH]
    refine AWP.loopL [1, 5] (List.range (t.Things.length - 1)) (fun pre => [(5, .d (.v (.int .i64 ((pre.length : Int) + 1))))]) (fun _ => []) (fun pre => allB (fun (i : Nat) => endsB t ((i : Int) + 1)) pre = true) (by rfl) (by simp; omega) (by simp [allB_nil]) ?_ ?_
    · rintro pre x post hsp hH2 hlt hge a4
      have hall := allB_split hsp hH2
      have hx : pre.length = x := by simpa using hge
      have hsn : allB (fun (i : Nat) => endsB t ((i : Int) + 1)) (pre ++ [x]) = endsB t ((x : Int) + 1) := by simp [allB_snoc, hH2]
      simp at hlt
      subst hx
      have c1 : (pre.length : Int) + 1 < t.Things.length := by omega
      have hE := refEnds_ok t ht hpar ((pre.length : Int) + 1) (by omega)
      clear hsp hge
      simp [-condC_bool, c1, hall]
      repeat' (first
        | (with_reducible refine And.intro ?_ ?_)
        | (refine condC_split (fun h => ?_) (fun h => ?_) <;> (try simp at h) <;> (try simp [-condC_bool, *]))
        | (refine AOps.pureC rfl (hE) rfl rfl (by simp) rfl ?_ <;> (try simp [-condC_bool, *]))
        | (refine AOps.lendC rfl (hE) rfl (by simp) rfl rfl (by simp) rfl ?_ <;> (try simp [-condC_bool, *]))
        | (refine AOps.pureG rfl (fun h => hE) rfl (by first | rfl | (simp; rfl)) (by simp) (by simp) rfl ?_ <;> (try simp [-condC_bool, *]))
        | (with_reducible intro _))
      all_goals (first | assumption | omega | (rw [inR_i64]; omega) | (simp_all; done) | grind | skip)
    · intro hH2
      have c1 : ¬ (((t.Things.length - 1 : Nat) : Int) + 1 < t.Things.length) := by omega
      simp [-condC_bool, c1, hH2]
      repeat' (first
        | (with_reducible refine And.intro ?_ ?_)
        | (refine condC_split (fun h => ?_) (fun h => ?_) <;> (try simp at h) <;> (try simp [-condC_bool, *]))
        | (refine AOps.pureC rfl (refRoom_ok t ht 1) rfl rfl (by simp) rfl ?_ <;> (try simp [-condC_bool, *]))
        | (refine AOps.lendC rfl (refRoom_ok t ht 1) rfl (by simp) rfl rfl (by simp) rfl ?_ <;> (try simp [-condC_bool, *]))
        | (refine AOps.pureG rfl (fun h => refRoom_ok t ht 1) rfl (by first | rfl | (simp; rfl)) (by simp) (by simp) rfl ?_ <;> (try simp [-condC_bool, *]))
        | (with_reducible intro _))
end Go.Ab

set_option linter.unusedSimpArgs false
set_option linter.unusedVariables false
namespace Go.Ab
open Go.Proofs

def paramB (t : GTables) (i : Nat) : Bool := fromB (t.Params[i]?.getD 0) 0 8 && fromB (t.Locals[i]?.getD 0) (t.Params[i]?.getD 0) 24
def headB (t : GTables) : Bool :=
  decide (t.Texts.length ≤ 4096) && textB t t.Title false && textB t t.By false && fromB t.Release 0 32767 && fromB t.Max 0 32767 && fromB t.Flags 4 16 &&
  (decide (t.Props.length ≤ 16) && decide (t.Globals.length ≤ 64) && allB int16 t.Props && allB int16 t.Globals && decide (t.Params.length = t.Locals.length) && decide (t.Params.length ≤ 2048)) &&
  allB isTextB t.Texts && allB (paramB t) (List.range t.Params.length)

set_option maxRecDepth 20000 in
theorem refHead_ok (t : GTables) (ht : t.wf) : Pure Try.prog 41 [.agg (t.enc.map .d)] (.d (.v (.bool (headB t)))) := by
  have hx1 := GTables.wl_Texts ht
  have hx2 := GTables.wl_Props ht
  have hx3 := GTables.wl_Globals ht
  have hx4 := GTables.wl_Params ht
  have hx5 := GTables.wl_Locals ht
  have hx6 := GTables.wf_Texts ht
  unfold headB
  refine Pure.run Try.func41 rfl (by simp [Try.f41]) ?_; simp [-condC_bool, Try.f41]
  repeat' (first
    | (with_reducible refine And.intro ?_ ?_)
    | (refine condC_split (fun h => ?_) (fun h => ?_) <;> (try simp at h) <;> (try simp [-condC_bool, *]))
    | (refine AOps.pureC rfl (refText_ok t ht _ _) rfl rfl (by simp) rfl ?_ <;> (try simp [-condC_bool, *]))
    | (refine AOps.pureC rfl (refFrom_ok _ _ _) rfl rfl (by simp) rfl ?_ <;> (try simp [-condC_bool, *]))
    | (refine AOps.pureC rfl (refValues_ok t.Props (by omega)) rfl rfl (by simp) rfl ?_ <;> (try simp [-condC_bool, *]))
    | (refine AOps.pureC rfl (refValues_ok t.Globals (by omega)) rfl rfl (by simp) rfl ?_ <;> (try simp [-condC_bool, *]))
    | (refine AOps.lendC rfl (refText_ok t ht _ _) rfl (by simp) rfl rfl (by simp) rfl ?_ <;> (try simp [-condC_bool, *]))
    | (refine AOps.lendC rfl (refFrom_ok _ _ _) rfl (by simp) rfl rfl (by simp) rfl ?_ <;> (try simp [-condC_bool, *]))
    | (refine AOps.lendC rfl (refValues_ok t.Props (by omega)) rfl (by simp) rfl rfl (by simp) rfl ?_ <;> (try simp [-condC_bool, *]))
    | (refine AOps.lendC rfl (refValues_ok t.Globals (by omega)) rfl (by simp) rfl rfl (by simp) rfl ?_ <;> (try simp [-condC_bool, *]))
    | (refine AOps.pureG rfl (fun h => refText_ok t ht _ _) rfl (by first | rfl | (simp; rfl)) (by simp) (by simp) rfl ?_ <;> (try simp [-condC_bool, *]))
    | (refine AOps.pureG rfl (fun h => refFrom_ok _ _ _) rfl (by first | rfl | (simp; rfl)) (by simp) (by simp) rfl ?_ <;> (try simp [-condC_bool, *]))
    | (refine AOps.pureG rfl (fun h => refValues_ok t.Props (by omega)) rfl (by first | rfl | (simp; rfl)) (by simp) (by simp) rfl ?_ <;> (try simp [-condC_bool, *]))
    | (refine AOps.pureG rfl (fun h => refValues_ok t.Globals (by omega)) rfl (by first | rfl | (simp; rfl)) (by simp) (by simp) rfl ?_ <;> (try simp [-condC_bool, *]))
    | (with_reducible intro _))
  all_goals (first | assumption | omega | (rw [inR_i64]; omega) | (simp_all; done) | grind | skip)
  have e1 : t.Texts.length ≤ 4096 := by omega
  have e2 : t.Props.length ≤ 16 := by omega
  have e3 : t.Globals.length ≤ 64 := by omega
  have e4 : t.Params.length = t.Locals.length := by omega
  have e5 : t.Params.length ≤ 2048 := by omega
  refine AWP.loopL [1, 3] t.Texts (fun pre => [(3, .d (.v (.int .i64 pre.length)))]) (fun _ => []) (fun pre => allB isTextB pre = true) (by rfl) (by omega) (by simp [allB_nil]) ?_ ?_
  · rintro pre x post hsp hH hlt hge a4
    have hall := allB_split hsp hH
    have hsn : allB isTextB (pre ++ [x]) = isTextB x := by simp [allB_snoc, hH]
    have hT := refIsText_ok x (by have := hx6 x (by rw [hsp]; simp); omega)
    clear hsp hx6
    simp [-condC_bool, hlt, hge, hall, a4]
    repeat' (first
      | (with_reducible refine And.intro ?_ ?_)
      | (refine condC_split (fun h => ?_) (fun h => ?_) <;> (try simp at h) <;> (try simp [-condC_bool, *]))
      | (refine AOps.pureC rfl (hT) rfl rfl (by simp) rfl ?_ <;> (try simp [-condC_bool, *]))
      | (refine AOps.lendC rfl (hT) rfl (by simp) rfl rfl (by simp) rfl ?_ <;> (try simp [-condC_bool, *]))
      | (refine AOps.pureG rfl (fun h => hT) rfl (by first | rfl | (simp; rfl)) (by simp) (by simp) rfl ?_ <;> (try simp [-condC_bool, *]))
      | (with_reducible intro _))
    all_goals (first | assumption | omega | (rw [inR_i64]; omega) | (simp_all; done) | grind | skip)
  · intro hH
    simp [-condC_bool, hH]
    refine AWP.loopL [1, 4] (List.range t.Params.length) (fun pre => [(4, .d (.v (.int .i64 pre.length)))]) (fun _ => []) (fun pre => allB (paramB t) pre = true) (by rfl) (by simp; omega) (by simp [allB_nil]) ?_ ?_
    · rintro pre x post hsp hH2 hlt hge a4
      have hall := allB_split hsp hH2
      have hx : pre.length = x := by simpa using hge
      simp at hlt
      subst hx
      have hsn : allB (paramB t) (pre ++ [pre.length]) = paramB t pre.length := by rw [allB_snoc, hH2]; simp
      have hlt2 : pre.length < t.Locals.length := by omega
      have hpx : paramB t pre.length = (fromB t.Params[pre.length] 0 8 && fromB t.Locals[pre.length] t.Params[pre.length] 24) := by simp [paramB, hlt, hlt2]
      clear hsp hge
      simp [-condC_bool, hlt, hlt2, hall]
      refine AWP.regionD [.d (.v (.bool (fromB (t.Params[pre.length]?.getD 0) 0 8))), .d (.v (.bool (fromB (t.Locals[pre.length]?.getD 0) (t.Params[pre.length]?.getD 0) 24)))] Try.mixed (by kernel_rfl) (by rfl) ?_
      simp [-condC_bool, hlt, hlt2, (refFrom_ok _ _ _).ok]
      refine condC_split (fun h => ?_) (fun h => ?_)
      · simp [-condC_bool]
        simp at h
        all_goals (first | assumption | omega | (rw [inR_i64]; omega) | (simp_all; done) | grind | skip)
      · simp [-condC_bool]
        simp at h
        all_goals (first | assumption | omega | (rw [inR_i64]; omega) | (simp_all; done) | grind | skip)
    · intro hH2
      simp [-condC_bool, hH2]
      all_goals (first | assumption | omega | (rw [inR_i64]; omega) | (simp_all; done) | grind | skip)

/-! ### Rules -/
def slotB (s : GSlot) : Bool := fromB s.Kind 1 5 && !(decide (s.Kind = 1) && decide (s.Words.length = 0)) && !(decide (s.Kind ≠ 1) && decide (0 < s.Words.length)) && wordsB s.Words 4
def nounB (s : GSlot) : Bool := decide (s.Kind = 2) || decide (s.Kind = 3)
def lineB (l : List GSlot) : Bool :=
  allB slotB l && (fromB l.length 1 8 && (decide ((l[0]?.getD GSlot.zero).Kind = 1) || decide ((l[0]?.getD GSlot.zero).Kind = 5)) && decide ((l.countP nounB : Int) ≤ 2) && decide ((l.countP (fun s => decide (s.Kind = 4)) : Int) ≤ 1) && decide ((l.countP (fun s => decide (s.Kind = 5)) : Int) ≤ 1))

set_option maxRecDepth 20000 in
theorem refLine_ok (l : List GSlot) (hl : l.length ≤ 1000000000000000) (hw : ∀ x ∈ l, x.wf) : Pure Try.prog 82 [.d (.sl (l.map GSlot.enc))] (.d (.v (.bool (lineB l)))) := by
  unfold lineB
  refine Pure.run Try.func82 rfl (by simp [Try.f82]) ?_; simp [-condC_bool, Try.f82]
  refine AWP.loopL [0, 3, 4, 5, 6] l (fun pre => [(3, .d (.v (.int .i64 (pre.countP nounB)))), (4, .d (.v (.int .i64 (pre.countP (fun s => decide (s.Kind = 4)))))), (5, .d (.v (.int .i64 (pre.countP (fun s => decide (s.Kind = 5)))))), (6, .d (.v (.int .i64 pre.length)))]) (fun _ => []) (fun pre => allB slotB pre = true) (by rfl) (by omega) (by simp [allB_nil]) ?_ ?_
  · rintro pre x post hsp hH hlt hge a4
    have hall := allB_split hsp hH
    have hsn : allB slotB (pre ++ [x]) = slotB x := by simp [allB_snoc, hH]
    have hxw := hw x (by rw [hsp]; simp)
    have c1 := List.countP_le_length (p := nounB) (l := pre)
    have c2 := List.countP_le_length (p := fun s : GSlot => decide (s.Kind = 4)) (l := pre)
    have c3 := List.countP_le_length (p := fun s : GSlot => decide (s.Kind = 5)) (l := pre)
    have hn1 : (pre ++ [x]).countP nounB = pre.countP nounB + (if nounB x then 1 else 0) := by rw [List.countP_append]; simp [List.countP_cons]
    have hn2 : (pre ++ [x]).countP (fun s : GSlot => decide (s.Kind = 4)) = pre.countP (fun s : GSlot => decide (s.Kind = 4)) + (if x.Kind = 4 then 1 else 0) := by rw [List.countP_append]; simp [List.countP_cons]
    have hn3 : (pre ++ [x]).countP (fun s : GSlot => decide (s.Kind = 5)) = pre.countP (fun s : GSlot => decide (s.Kind = 5)) + (if x.Kind = 5 then 1 else 0) := by rw [List.countP_append]; simp [List.countP_cons]
    have hW := refWords_ok x.Words (by have := GSlot.wl_Words hxw; omega) (fun y hy => by have := GSlot.wf_Words hxw y hy; omega) 4
    have hsx : slotB x = (fromB x.Kind 1 5 && !(decide (x.Kind = 1) && decide (x.Words.length = 0)) && !(decide (x.Kind ≠ 1) && decide (0 < x.Words.length)) && wordsB x.Words 4) := rfl
    have hnx : nounB x = (decide (x.Kind = 2) || decide (x.Kind = 3)) := rfl
    generalize hk1 : pre.countP nounB = k1 at *
    generalize hk2 : pre.countP (fun s : GSlot => decide (s.Kind = 4)) = k2 at *
    generalize hk3 : pre.countP (fun s : GSlot => decide (s.Kind = 5)) = k3 at *
    clear hsp hw hk1 hk2 hk3
    simp [-condC_bool, hlt, hge, hall, a4]
    repeat' (first
      | (with_reducible refine And.intro ?_ ?_)
      | (refine condC_split (fun h => ?_) (fun h => ?_) <;> (try simp at h) <;> (try simp [-condC_bool, *]))
      | (refine AOps.pureC rfl (refFrom_ok _ _ _) rfl rfl (by simp) rfl ?_ <;> (try simp [-condC_bool, *]))
      | (refine AOps.pureC rfl (hW) rfl rfl (by simp) rfl ?_ <;> (try simp [-condC_bool, *]))
      | (refine AOps.lendC rfl (refFrom_ok _ _ _) rfl (by simp) rfl rfl (by simp) rfl ?_ <;> (try simp [-condC_bool, *]))
      | (refine AOps.lendC rfl (hW) rfl (by simp) rfl rfl (by simp) rfl ?_ <;> (try simp [-condC_bool, *]))
      | (refine AOps.pureG rfl (fun h => refFrom_ok _ _ _) rfl (by first | rfl | (simp; rfl)) (by simp) (by simp) rfl ?_ <;> (try simp [-condC_bool, *]))
      | (refine AOps.pureG rfl (fun h => hW) rfl (by first | rfl | (simp; rfl)) (by simp) (by simp) rfl ?_ <;> (try simp [-condC_bool, *]))
      | (with_reducible intro _))
    all_goals (first | assumption | omega | (rw [inR_i64]; omega) | (simp_all; done) | grind | skip)
  · intro hH
    have hF : fromB l.length 1 8 = true → 0 < l.length := by rw [fromB_iff]; omega
    simp [-condC_bool, hH]
    repeat' (first
      | (with_reducible refine And.intro ?_ ?_)
      | (refine condC_split (fun h => ?_) (fun h => ?_) <;> (try simp at h) <;> (try simp [-condC_bool, *]))
      | (refine AOps.pureC rfl (refFrom_ok _ _ _) rfl rfl (by simp) rfl ?_ <;> (try simp [-condC_bool, *]))
      | (refine AOps.lendC rfl (refFrom_ok _ _ _) rfl (by simp) rfl rfl (by simp) rfl ?_ <;> (try simp [-condC_bool, *]))
      | (refine AOps.pureG rfl (fun h => refFrom_ok _ _ _) rfl (by first | rfl | (simp; rfl)) (by simp) (by simp) rfl ?_ <;> (try simp [-condC_bool, *]))
      | (with_reducible intro _))
    all_goals first | assumption | exact hF (by assumption)
end Go.Ab

set_option linter.unusedSimpArgs false
set_option linter.unusedVariables false
namespace Go.Ab
open Go.Proofs

def actB (a : GAct) : Bool := fromB a.Lines.length 1 8 && allB lineB a.Lines
def deedB (t : GTables) (d : GDeed) : Bool :=
  fromB d.Verb 0 (t.Acts.length - 1) && fromB d.Phase 1 3 && (decide (d.Noun = -1) || thingB t d.Noun) && (decide (d.Second = -1) || thingB t d.Second) && routB t d.When true && routB t d.Body false
def rulesB (t : GTables) : Bool :=
  (decide (t.Acts.length ≤ 64) && decide (t.Deeds.length ≤ 512) && decide (t.Funcs.length ≤ 64) && decide (t.Daemons.length ≤ 16)) &&
  (allB actB t.Acts && (allB (deedB t) t.Deeds && (allB (fun n => fromB n 0 (t.Params.length - 1)) t.Funcs && allB (fun n => routB t n false) t.Daemons)))

set_option maxHeartbeats 1000000 in
set_option maxRecDepth 20000 in
theorem refRules_ok (t : GTables) (ht : t.wf) : Pure Try.prog 43 [.agg (t.enc.map .d)] (.d (.v (.bool (rulesB t)))) := by
  have hx1 := GTables.wl_Acts ht
  have hx2 := GTables.wl_Deeds ht
  have hx3 := GTables.wl_Funcs ht
  have hx4 := GTables.wl_Daemons ht
  have hx5 := GTables.wl_Params ht
  have hx6 := GTables.wf_Acts ht
  have hx7 := GTables.wf_Deeds ht
  unfold rulesB
  refine Pure.run Try.func43 rfl (by simp [Try.f43]) ?_; simp [-condC_bool, Try.f43]
  repeat' (first
    | (with_reducible refine And.intro ?_ ?_)
    | (refine condC_split (fun h => ?_) (fun h => ?_) <;> (try simp at h) <;> (try simp [-condC_bool, *]))
    | (refine AOps.pureC rfl (refText_ok t ht _ _) rfl rfl (by simp) rfl ?_ <;> (try simp [-condC_bool, *]))
    | (refine AOps.lendC rfl (refText_ok t ht _ _) rfl (by simp) rfl rfl (by simp) rfl ?_ <;> (try simp [-condC_bool, *]))
    | (refine AOps.pureG rfl (fun h => refText_ok t ht _ _) rfl (by first | rfl | (simp; rfl)) (by simp) (by simp) rfl ?_ <;> (try simp [-condC_bool, *]))
    | (with_reducible intro _))
  all_goals (first | assumption | omega | (rw [inR_i64]; omega) | (simp_all; done) | grind | skip)
  have e1 : t.Acts.length ≤ 64 := by omega
  have e2 : t.Deeds.length ≤ 512 := by omega
  have e3 : t.Funcs.length ≤ 64 := by omega
  have e4 : t.Daemons.length ≤ 16 := by omega
  refine AWP.loopL [1, 3] t.Acts (fun pre => [(3, .d (.v (.int .i64 pre.length)))]) (fun _ => []) (fun pre => allB actB pre = true) (by rfl) (by omega) (by simp [allB_nil]) ?_ ?_
  · rintro pre x post hsp hH hlt hge a4
    have hall := allB_split hsp hH
    have hsn : allB actB (pre ++ [x]) = actB x := by simp [allB_snoc, hH]
    have hxw := hx6 x (by rw [hsp]; simp)
    have hax : actB x = (fromB x.Lines.length 1 8 && allB lineB x.Lines) := rfl
    clear hsp hx6 hx7
    simp [-condC_bool, hlt, hge, hall, a4]
    repeat' (first
      | (with_reducible refine And.intro ?_ ?_)
      | (refine condC_split (fun h => ?_) (fun h => ?_) <;> (try simp at h) <;> (try simp [-condC_bool, *]))
      | (refine AOps.pureC rfl (refFrom_ok _ _ _) rfl rfl (by simp) rfl ?_ <;> (try simp [-condC_bool, *]))
      | (refine AOps.lendC rfl (refFrom_ok _ _ _) rfl (by simp) rfl rfl (by simp) rfl ?_ <;> (try simp [-condC_bool, *]))
      | (refine AOps.pureG rfl (fun h => refFrom_ok _ _ _) rfl (by first | rfl | (simp; rfl)) (by simp) (by simp) rfl ?_ <;> (try simp [-condC_bool, *]))
      | (with_reducible intro _))
    all_goals (first | assumption | omega | (rw [inR_i64]; omega) | (simp_all; done) | grind | skip)
    refine AWP.loopL [1, 3, 4] x.Lines (fun pre => [(4, .d (.v (.int .i64 pre.length)))]) (fun _ => []) (fun pre => allB lineB pre = true) (by rfl) (by have := GAct.wl_Lines hxw; omega) (by simp [allB_nil]) ?_ ?_
    · rintro pre2 y post2 hsp hH2 hlt2 hge2 a5
      have hall2 := allB_split hsp hH2
      have hsn2 : allB lineB (pre2 ++ [y]) = lineB y := by simp [allB_snoc, hH2]
      have hyw := GAct.wf_Lines hxw y (by rw [hsp]; simp)
      have hL := refLine_ok y (by omega) hyw.2
      clear hsp
      simp [-condC_bool, hlt, hge, hlt2, hge2, hall2, a4, a5]
      repeat' (first
        | (with_reducible refine And.intro ?_ ?_)
        | (refine condC_split (fun h => ?_) (fun h => ?_) <;> (try simp at h) <;> (try simp [-condC_bool, *]))
        | (refine AOps.pureC rfl (hL) rfl rfl (by simp) rfl ?_ <;> (try simp [-condC_bool, *]))
        | (refine AOps.lendC rfl (hL) rfl (by simp) rfl rfl (by simp) rfl ?_ <;> (try simp [-condC_bool, *]))
        | (refine AOps.pureG rfl (fun h => hL) rfl (by first | rfl | (simp; rfl)) (by simp) (by simp) rfl ?_ <;> (try simp [-condC_bool, *]))
        | (with_reducible intro _))
      all_goals (first | assumption | omega | (rw [inR_i64]; omega) | (simp_all; done) | grind | skip)
    · intro hH2
      simp [-condC_bool, hlt, hge, hH2]
      repeat' (first
        | (with_reducible refine And.intro ?_ ?_)
        | (refine condC_split (fun h => ?_) (fun h => ?_) <;> (try simp at h) <;> (try simp [-condC_bool, *]))
        | (refine AOps.pureC rfl (refFrom_ok _ _ _) rfl rfl (by simp) rfl ?_ <;> (try simp [-condC_bool, *]))
        | (refine AOps.lendC rfl (refFrom_ok _ _ _) rfl (by simp) rfl rfl (by simp) rfl ?_ <;> (try simp [-condC_bool, *]))
        | (refine AOps.pureG rfl (fun h => refFrom_ok _ _ _) rfl (by first | rfl | (simp; rfl)) (by simp) (by simp) rfl ?_ <;> (try simp [-condC_bool, *]))
        | (with_reducible intro _))
      all_goals (first | assumption | omega | (rw [inR_i64]; omega) | (simp_all; done) | grind | skip)
  · intro hH
    simp [-condC_bool, hH]
    refine AWP.loopL [1, 5] t.Deeds (fun pre => [(5, .d (.v (.int .i64 pre.length)))]) (fun _ => []) (fun pre => allB (deedB t) pre = true) (by rfl) (by omega) (by simp [allB_nil]) ?_ ?_
    · rintro pre x post hsp hH2 hlt hge a4
      have hall := allB_split hsp hH2
      have hsn : allB (deedB t) (pre ++ [x]) = deedB t x := by simp [allB_snoc, hH2]
      have hxw := hx7 x (by rw [hsp]; simp)
      have hdx : deedB t x = (fromB x.Verb 0 (t.Acts.length - 1) && fromB x.Phase 1 3 && (decide (x.Noun = -1) || thingB t x.Noun) && (decide (x.Second = -1) || thingB t x.Second) && routB t x.When true && routB t x.Body false) := rfl
      clear hsp hx6 hx7
      simp [-condC_bool, hlt, hge, hall, a4]
      repeat' (first
        | (with_reducible refine And.intro ?_ ?_)
        | (refine condC_split (fun h => ?_) (fun h => ?_) <;> (try simp at h) <;> (try simp [-condC_bool, *]))
        | (refine AOps.pureC rfl (refFrom_ok _ _ _) rfl rfl (by simp) rfl ?_ <;> (try simp [-condC_bool, *]))
        | (refine AOps.pureC rfl (refThing_ok t ht _) rfl rfl (by simp) rfl ?_ <;> (try simp [-condC_bool, *]))
        | (refine AOps.pureC rfl (refRoutine_ok t ht _ _) rfl rfl (by simp) rfl ?_ <;> (try simp [-condC_bool, *]))
        | (refine AOps.lendC rfl (refFrom_ok _ _ _) rfl (by simp) rfl rfl (by simp) rfl ?_ <;> (try simp [-condC_bool, *]))
        | (refine AOps.lendC rfl (refThing_ok t ht _) rfl (by simp) rfl rfl (by simp) rfl ?_ <;> (try simp [-condC_bool, *]))
        | (refine AOps.lendC rfl (refRoutine_ok t ht _ _) rfl (by simp) rfl rfl (by simp) rfl ?_ <;> (try simp [-condC_bool, *]))
        | (refine AOps.pureG rfl (fun h => refFrom_ok _ _ _) rfl (by first | rfl | (simp; rfl)) (by simp) (by simp) rfl ?_ <;> (try simp [-condC_bool, *]))
        | (refine AOps.pureG rfl (fun h => refThing_ok t ht _) rfl (by first | rfl | (simp; rfl)) (by simp) (by simp) rfl ?_ <;> (try simp [-condC_bool, *]))
        | (refine AOps.pureG rfl (fun h => refRoutine_ok t ht _ _) rfl (by first | rfl | (simp; rfl)) (by simp) (by simp) rfl ?_ <;> (try simp [-condC_bool, *]))
        | (with_reducible intro _))
      all_goals (first | assumption | omega | (rw [inR_i64]; omega) | (simp_all; done) | grind | skip)
    · intro hH2
      simp [-condC_bool, hH2]
      refine AWP.loopL [1, 7] t.Funcs (fun pre => [(7, .d (.v (.int .i64 pre.length)))]) (fun _ => []) (fun pre => allB (fun n => fromB n 0 (t.Params.length - 1)) pre = true) (by rfl) (by omega) (by simp [allB_nil]) ?_ ?_
      · rintro pre x post hsp hH3 hlt hge a4
        have hall := allB_split hsp hH3
        have hsn : allB (fun n => fromB n 0 (t.Params.length - 1)) (pre ++ [x]) = fromB x 0 (t.Params.length - 1) := by rw [allB_snoc, hH3]; simp
        clear hsp hx6 hx7
        simp [-condC_bool, hlt, hge, hall, a4]
        refine AWP.regionD [.d (.v (.bool (fromB x 0 (t.Params.length - 1))))] Try.mixed (by kernel_rfl) (by rfl) ?_
        simp [-condC_bool, hlt, hge, (refFrom_ok _ _ _).ok]
        refine ⟨by rw [inR_i64]; omega, ?_⟩
        repeat' (first
          | (with_reducible refine And.intro ?_ ?_)
          | (refine condC_split (fun h => ?_) (fun h => ?_) <;> (try simp at h) <;> (try simp [-condC_bool, *]))
          | (refine AOps.pureC rfl (refFrom_ok _ _ _) rfl rfl (by simp) rfl ?_ <;> (try simp [-condC_bool, *]))
          | (refine AOps.lendC rfl (refFrom_ok _ _ _) rfl (by simp) rfl rfl (by simp) rfl ?_ <;> (try simp [-condC_bool, *]))
          | (refine AOps.pureG rfl (fun h => refFrom_ok _ _ _) rfl (by first | rfl | (simp; rfl)) (by simp) (by simp) rfl ?_ <;> (try simp [-condC_bool, *]))
          | (with_reducible intro _))
        all_goals (first | assumption | omega | (rw [inR_i64]; omega) | (simp_all; done) | grind | skip)
      · intro hH3
        simp [-condC_bool, hH3]
        refine AWP.loopL [1, 8] t.Daemons (fun pre => [(8, .d (.v (.int .i64 pre.length)))]) (fun _ => []) (fun pre => allB (fun n => routB t n false) pre = true) (by rfl) (by omega) (by simp [allB_nil]) ?_ ?_
        · rintro pre x post hsp hH4 hlt hge a4
          have hall := allB_split hsp hH4
          have hsn : allB (fun n => routB t n false) (pre ++ [x]) = routB t x false := by rw [allB_snoc, hH4]; simp
          clear hsp hx6 hx7
          simp [-condC_bool, hlt, hge, hall, a4]
          refine AWP.regionD [.d (.v (.bool (routB t x false)))] Try.mixed (by kernel_rfl) (by rfl) ?_
          simp [-condC_bool, hlt, hge, (refRoutine_ok t ht _ _).ok]
          repeat' (first
            | (with_reducible refine And.intro ?_ ?_)
            | (refine condC_split (fun h => ?_) (fun h => ?_) <;> (try simp at h) <;> (try simp [-condC_bool, *]))
            | (refine AOps.pureC rfl (refFrom_ok _ _ _) rfl rfl (by simp) rfl ?_ <;> (try simp [-condC_bool, *]))
            | (refine AOps.lendC rfl (refFrom_ok _ _ _) rfl (by simp) rfl rfl (by simp) rfl ?_ <;> (try simp [-condC_bool, *]))
            | (refine AOps.pureG rfl (fun h => refFrom_ok _ _ _) rfl (by first | rfl | (simp; rfl)) (by simp) (by simp) rfl ?_ <;> (try simp [-condC_bool, *]))
            | (with_reducible intro _))
          all_goals (first | assumption | omega | (rw [inR_i64]; omega) | (simp_all; done) | grind | skip)
        · intro hH4
          simp [hH4, e1, e2, e3, e4]

/-- Are tables as they may be? -/
def fitsB (t : GTables) : Bool := headB t && thingsB t && rulesB t
theorem refFits_ok (t : GTables) (ht : t.wf) : Pure Try.prog 11 [.agg (t.enc.map .d)] (.d (.v (.bool (fitsB t)))) := by
  unfold fitsB
  refine Pure.run Try.func11 rfl (by simp [Try.f11]) ?_; simp [-condC_bool, Try.f11]
  repeat' (first
    | (with_reducible refine And.intro ?_ ?_)
    | (refine condC_split (fun h => ?_) (fun h => ?_) <;> (try simp at h) <;> (try simp [-condC_bool, *]))
    | (refine AOps.pureC rfl (refHead_ok t ht) rfl rfl (by simp) rfl ?_ <;> (try simp [-condC_bool, *]))
    | (refine AOps.pureC rfl (refThings_ok t ht) rfl rfl (by simp) rfl ?_ <;> (try simp [-condC_bool, *]))
    | (refine AOps.pureC rfl (refRules_ok t ht) rfl rfl (by simp) rfl ?_ <;> (try simp [-condC_bool, *]))
    | (refine AOps.lendC rfl (refHead_ok t ht) rfl (by simp) rfl rfl (by simp) rfl ?_ <;> (try simp [-condC_bool, *]))
    | (refine AOps.lendC rfl (refThings_ok t ht) rfl (by simp) rfl rfl (by simp) rfl ?_ <;> (try simp [-condC_bool, *]))
    | (refine AOps.lendC rfl (refRules_ok t ht) rfl (by simp) rfl rfl (by simp) rfl ?_ <;> (try simp [-condC_bool, *]))
    | (refine AOps.pureG rfl (fun h => refHead_ok t ht) rfl (by first | rfl | (simp; rfl)) (by simp) (by simp) rfl ?_ <;> (try simp [-condC_bool, *]))
    | (refine AOps.pureG rfl (fun h => refThings_ok t ht) rfl (by first | rfl | (simp; rfl)) (by simp) (by simp) rfl ?_ <;> (try simp [-condC_bool, *]))
    | (refine AOps.pureG rfl (fun h => refRules_ok t ht) rfl (by first | rfl | (simp; rfl)) (by simp) (by simp) rfl ?_ <;> (try simp [-condC_bool, *]))
    | (with_reducible intro _))
  all_goals (first | assumption | omega | (rw [inR_i64]; omega) | (simp_all; done) | grind | skip)
end Go.Ab

set_option linter.unusedSimpArgs false
set_option linter.unusedVariables false
namespace Go.Ab
open Go.Proofs


theorem rooms_ok (t : GTables) : Pure Try.prog 49 [.agg (t.enc.map .d)] (.clo (.func 84) [] [.rp t.enc]) := by
  refine Pure.run Try.func49 rfl (by simp [Try.f49]) ?_; simp [Try.f49]
  simp [GTables.enc]

/-- The rooms among things, the first of which has number i. -/
def roomsM : List GThing → Int → List Int
  | [], _ => []
  | x :: l, i => if x.Room then i :: roomsM l (i + 1) else roomsM l (i + 1)
theorem roomsM_app (l r : List GThing) (i : Int) : roomsM (l ++ r) i = roomsM l i ++ roomsM r (i + l.length) := by
  induction l generalizing i with
  | nil => simp [roomsM]
  | cons x l ih =>
    simp only [List.cons_append, roomsM, ih, List.length_cons]
    rw [show i + 1 + (l.length : Int) = i + ((l.length + 1 : Nat) : Int) by omega]
    split <;> rfl
theorem roomsM_snoc (l : List GThing) (x : GThing) : roomsM (l ++ [x]) 0 = if x.Room then roomsM l 0 ++ [(l.length : Int)] else roomsM l 0 := by
  rw [roomsM_app]
  simp [roomsM]
  split <;> simp

theorem roomsM_len (l : List GThing) (i : Int) : (roomsM l i).length ≤ l.length := by
  induction l generalizing i with
  | nil => simp [roomsM]
  | cons x l ih =>
    have := ih (i + 1)
    simp only [roomsM]
    split <;> simp <;> omega

theorem roomsI_ok (t : GTables) (ht : t.wf) : Iter Try.prog 84 [.rp t.enc] [] ((roomsM t.Things 0).map fun i => [.d (.v (.int .i64 i))]) := by
  intro l A B hy
  have hlen : t.Things.length ≤ 2000000000000 := by have := ht; simp [GTables.wf] at this; omega
  generalize hTh : t.Things = th at *
  refine ACalls.runP [5003] (by simp) Try.func84 rfl (by simp [Try.f84]) ?_; simp [Try.f84]
  rw [hTh]
  refine AWP.loopL [0, 6, 7, 8] th (fun pre => [(8, .d (.v (.int .i64 pre.length)))]) (fun pre => [(5003, .env (A (roomsM pre 0).length))]) (fun _ => True) (by rfl) (by omega) (by simp [roomsM]) ?_ ?_
  · rintro pre x post hsp hH hlt hge a4
    have hyl : x.Room = true → AYield Try.prog l [.d (.v (.int .i64 pre.length))] [(5003, .env (A (roomsM pre 0).length))] (YR (A ((roomsM pre 0).length + 1)) B) := by
      intro hr
      refine hy _ _ ?_
      rw [hsp, roomsM_app]
      simp [roomsM, hr]
    clear hsp
    simp [*]
    intro bs
    refine AOps.yieldG (hyl) rfl (by simp) (by simp) (by simp [yieldee]) (by simp) (by simp) rfl (by simp [keys]) rfl (by simp) (by simp) ?_ ?_ ?_
    · intro hr bs2
      simp [hr, roomsM_snoc, *]
    · intro hr bs2
      simp [hr, roomsM_snoc, *]
    · intro hr bs2
      simp [hr, roomsM_snoc, *]
  · intro _
    simp

theorem refRooms_ok (t : GTables) (ht : t.wf) : Pure Try.prog 20 [.agg (t.enc.map .d)] (.d (.sl (encI (roomsM t.Things 0)))) := by
  have hlen : t.Things.length ≤ 2000000000000 := by have := ht; simp [GTables.wf] at this; omega
  generalize hTh : t.Things = th at *
  refine Pure.run Try.func20 rfl (by simp [Try.f20]) ?_; simp [Try.f20]
  intro bs
  refine AWP.weaken (Wk.own' (t := 3) (h := 30) (k := 1) (ty := 3) rfl (by simp)) ?_
  refine AWP.loopL [1, 3, 4] th (fun pre => [(4, .d (.v (.int .i64 pre.length)))]) (fun pre => [(30, .row 3 1 (dd (encI (roomsM pre 0))))]) (fun _ => True) (by rfl) (by omega) (by simp [roomsM, encI]) ?_ ?_
  · rintro pre x post hsp hH hlt hge a4
    clear hsp
    simp [*]
    refine ⟨fun h => ?_, fun h => ?_⟩
    · have := roomsM_len pre 0
      simp [h, roomsM_snoc, *]
      omega
    · simp [h, roomsM_snoc, *]
  · intro _
    simp [*]

theorem rooms_law (t : GTables) (ht : t.wf) : Pure Try.prog 17 [.agg (t.enc.map .d)] (.d (.sl (encI (roomsM t.Things 0)))) := by
  have hlen : t.Things.length ≤ 2000000000000 := by have := ht; simp [GTables.wf] at this; omega
  refine Pure.run Try.func17 rfl (by simp [Try.f17]) ?_; simp [Try.f17]
  intro bs bs1
  refine AOps.pureC rfl (rooms_ok t) (by simp) rfl (by simp) rfl ?_
  simp
  refine AWP.weaken (Wk.ownBox 3 0 30 (e := 3) (k := 1) rfl rfl (by simp)) ?_
  refine AWP.rangeL [1, 3] (roomsM t.Things 0) (fun i => [.d (.v (.int .i64 i))]) (fun pre => [(30, .row 3 1 (dd (encI pre)))]) (fun _ => True) (roomsI_ok t ht) rfl (by simp) (by simp) (by simp [hasRF]) (by simp) (by rfl) (by rfl) (by simp [encI]) (by simp) ?_ ?_
  · rintro pre x post hsp -
    have h1 := roomsM_len t.Things 0
    rw [hsp] at h1
    simp at h1
    simp
    omega
  · intro _
    simp
end Go.Ab

set_option linter.unusedSimpArgs false
set_option linter.unusedVariables false
namespace Go.Ab
open Go.Proofs

/-! ### What the check of tables tells -/
theorem fits_things {t : GTables} (h : fitsB t = true) : 3 ≤ t.Things.length ∧ t.Things.length ≤ 128 := by
  simp only [fitsB, thingsB, Bool.and_eq_true, fromB_iff] at h
  omega
theorem ways_all {t : GTables} : ∀ (l : List GWay) (p : Option GWay), waysM t p l = true → ∀ w ∈ l, fromB w.Dir 1 12 = true ∧ thingB t w.To = true ∧ roomB t w.To = true ∧ routB t w.When true = true ∧ textB t w.Else true = true
  | [], _, _, w, hw => by cases hw
  | y :: l, p, h, w, hw => by
    simp only [waysM, wayB, Bool.and_eq_true] at h
    rcases List.mem_cons.1 hw with rfl | hw
    · exact ⟨h.1.1.1.1.1.1, h.1.1.1.1.2, h.1.1.1.2, h.1.1.2, h.1.2⟩
    · exact ways_all l (some y) h.2 w hw
theorem fits_thing {t : GTables} (h : fitsB t = true) {x : GThing} (hx : x ∈ t.Things) : x = thingAt t 0 ∧ x.Ways = [] ∧ x.Room = false ∨ thingOk t x = true := by
  have hn := fits_things h
  simp only [fitsB, thingsB, Bool.and_eq_true] at h
  obtain ⟨k, hk, rfl⟩ := List.getElem_of_mem hx
  cases k with
  | zero =>
    left
    have h0 : thingAt t 0 = t.Things[0] := (thingAt_elem (t := t) (n := 0) (by omega)).symm
    have := h.1.2.1.1.1.1.2
    rw [h0] at this
    simp only [nothingB, Bool.and_eq_true] at this
    refine ⟨h0.symm, ?_, ?_⟩
    · have h1 := this.1.2
      simp at h1
      have : t.Things[0].Ways.length = 0 := by simp [h1]
      exact List.length_eq_zero_iff.1 this
    · simpa using this.1.1.1.2
  | succ k =>
    right
    have := allB_iff.1 h.1.2.1.1.2 (t.Things[k + 1]) (by
      rw [List.drop_one]
      have : t.Things.tail[k]'(by simp; omega) = t.Things[k + 1] := by simp
      rw [← this]; exact List.getElem_mem _)
    exact this
theorem fits_way {t : GTables} (h : fitsB t = true) {x : GThing} (hx : x ∈ t.Things) {w : GWay} (hw : w ∈ x.Ways) : fromB w.Dir 1 12 = true ∧ thingB t w.To = true ∧ roomB t w.To = true ∧ routB t w.When true = true ∧ textB t w.Else true = true := by
  rcases fits_thing h hx with ⟨_, h1, _⟩ | h1
  · rw [h1] at hw; cases hw
  · simp only [thingOk, Bool.and_eq_true] at h1
    exact ways_all _ _ h1.2 w hw
theorem fits_to {t : GTables} (h : fitsB t = true) {x : GThing} (hx : x ∈ t.Things) {w : GWay} (hw : w ∈ x.Ways) : 1 ≤ w.To ∧ w.To < t.Things.length := by
  have := (fits_way h hx hw).2.1
  simp only [thingB, fromB_iff] at this
  omega

/-! ### Titles -/
def textM (t : GTables) (n : Int) : ByteArray := if n < 0 ∨ t.Texts.length ≤ n then ⟨#[]⟩ else t.Texts[n.toNat]?.getD ⟨#[]⟩
def nothingS : ByteArray := ⟨#[110, 111, 116, 104, 105, 110, 103]⟩
def titleM (t : GTables) (n : Int) : ByteArray := if n < 1 ∨ t.Things.length ≤ n then nothingS else textM t (thingAt t n).Title

theorem tellText_ok (t : GTables) (n : Int) : Pure Try.prog 86 [.agg (t.enc.map .d), .d (.v (.int .i64 n))] (.d (.v (.string (textM t n)))) := by
  unfold textM
  refine Pure.run Try.func86 rfl (by simp [Try.f86]) ?_; simp [-condC_bool, Try.f86]
  repeat' (first
    | (with_reducible refine And.intro ?_ ?_)
    | (refine condC_split (fun h => ?_) (fun h => ?_) <;> (try simp at h) <;> (try simp [-condC_bool, *]))
    | (refine AOps.pureC rfl (rooms_ok t) rfl rfl (by simp) rfl ?_ <;> (try simp [-condC_bool, *]))
    | (refine AOps.lendC rfl (rooms_ok t) rfl (by simp) rfl rfl (by simp) rfl ?_ <;> (try simp [-condC_bool, *]))
    | (refine AOps.pureG rfl (fun h => rooms_ok t) rfl (by first | rfl | (simp; rfl)) (by simp) (by simp) rfl ?_ <;> (try simp [-condC_bool, *]))
    | (with_reducible intro _))
  all_goals (first | assumption | omega | (rw [inR_i64]; omega) | (simp_all; done) | grind | skip)
theorem refText24_ok (t : GTables) (n : Int) : Pure Try.prog 87 [.agg (t.enc.map .d), .d (.v (.int .i64 n))] (.d (.v (.string (textM t n)))) := by
  unfold textM
  refine Pure.run Try.func87 rfl (by simp [Try.f87]) ?_; simp [-condC_bool, Try.f87]
  repeat' (first
    | (with_reducible refine And.intro ?_ ?_)
    | (refine condC_split (fun h => ?_) (fun h => ?_) <;> (try simp at h) <;> (try simp [-condC_bool, *]))
    | (refine AOps.pureC rfl (rooms_ok t) rfl rfl (by simp) rfl ?_ <;> (try simp [-condC_bool, *]))
    | (refine AOps.lendC rfl (rooms_ok t) rfl (by simp) rfl rfl (by simp) rfl ?_ <;> (try simp [-condC_bool, *]))
    | (refine AOps.pureG rfl (fun h => rooms_ok t) rfl (by first | rfl | (simp; rfl)) (by simp) (by simp) rfl ?_ <;> (try simp [-condC_bool, *]))
    | (with_reducible intro _))
  all_goals (first | assumption | omega | (rw [inR_i64]; omega) | (simp_all; done) | grind | skip)
theorem tellTitle_ok (t : GTables) (n : Int) : Pure Try.prog 53 [.agg (t.enc.map .d), .d (.v (.int .i64 n))] (.d (.v (.string (titleM t n)))) := by
  refine Pure.run Try.func53 rfl (by simp [Try.f53]) ?_; simp [-condC_bool, Try.f53]
  repeat' (first
    | (with_reducible refine And.intro ?_ ?_)
    | (refine condC_split (fun h => ?_) (fun h => ?_) <;> (try simp at h) <;> (try simp [-condC_bool, *]))
    | (refine AOps.pureC rfl (rooms_ok t) rfl rfl (by simp) rfl ?_ <;> (try simp [-condC_bool, *]))
    | (refine AOps.lendC rfl (rooms_ok t) rfl (by simp) rfl rfl (by simp) rfl ?_ <;> (try simp [-condC_bool, *]))
    | (refine AOps.pureG rfl (fun h => rooms_ok t) rfl (by first | rfl | (simp; rfl)) (by simp) (by simp) rfl ?_ <;> (try simp [-condC_bool, *]))
    | (with_reducible intro _))
  · rw [titleM, if_pos h]; rfl
  · have h1 := thingAt_get (t := t) (n := n) (by omega)
    have h2 := thingAt_elem (t := t) (n := n) (by omega)
    refine AWP.regionD [.d (.v (.string (textM t (thingAt t n).Title)))] Try.mixed (by kernel_rfl) (by rfl) ?_
    simp [-condC_bool, h1, h2, (tellText_ok t _).ok]
    rw [titleM, if_neg (by omega)]
    all_goals (first | assumption | omega | (rw [inR_i64]; omega) | (simp_all; done) | grind | skip)
theorem refTitle_ok (t : GTables) (n : Int) : Pure Try.prog 56 [.agg (t.enc.map .d), .d (.v (.int .i64 n))] (.d (.v (.string (titleM t n)))) := by
  refine Pure.run Try.func56 rfl (by simp [Try.f56]) ?_; simp [-condC_bool, Try.f56]
  repeat' (first
    | (with_reducible refine And.intro ?_ ?_)
    | (refine condC_split (fun h => ?_) (fun h => ?_) <;> (try simp at h) <;> (try simp [-condC_bool, *]))
    | (refine AOps.pureC rfl (rooms_ok t) rfl rfl (by simp) rfl ?_ <;> (try simp [-condC_bool, *]))
    | (refine AOps.lendC rfl (rooms_ok t) rfl (by simp) rfl rfl (by simp) rfl ?_ <;> (try simp [-condC_bool, *]))
    | (refine AOps.pureG rfl (fun h => rooms_ok t) rfl (by first | rfl | (simp; rfl)) (by simp) (by simp) rfl ?_ <;> (try simp [-condC_bool, *]))
    | (with_reducible intro _))
  · rw [titleM, if_pos h]; rfl
  · have h1 := thingAt_get (t := t) (n := n) (by omega)
    have h2 := thingAt_elem (t := t) (n := n) (by omega)
    refine AWP.regionD [.d (.v (.string (textM t (thingAt t n).Title)))] Try.mixed (by kernel_rfl) (by rfl) ?_
    simp [-condC_bool, h1, h2, (refText24_ok t _).ok]
    rw [titleM, if_neg (by omega)]
    all_goals (first | assumption | omega | (rw [inR_i64]; omega) | (simp_all; done) | grind | skip)

/-! ### Directions, rooms -/
def nameL : List (List UInt8) := [[], [110, 111, 114, 116, 104], [115, 111, 117, 116, 104], [101, 97, 115, 116], [119, 101, 115, 116], [110, 111, 114, 116, 104, 101, 97, 115, 116], [110, 111, 114, 116, 104, 119, 101, 115, 116], [115, 111, 117, 116, 104, 101, 97, 115, 116], [115, 111, 117, 116, 104, 119, 101, 115, 116], [117, 112], [100, 111, 119, 110], [105, 110], [111, 117, 116]]
def nameS : List ByteArray := nameL.map fun l => ⟨⟨l⟩⟩
def nameM (d : Int) : ByteArray := if d < 0 ∨ 13 ≤ d then ⟨#[]⟩ else nameS[d.toNat]?.getD ⟨#[]⟩
theorem name_ok (d : Int) : Pure Try.prog 54 [.d (.v (.int .i64 d))] (.d (.v (.string (nameM d)))) := by
  refine Pure.run Try.func54 rfl (by simp [Try.f54]) ?_; simp [-condC_bool, Try.f54]
  repeat' (first
    | (with_reducible refine And.intro ?_ ?_)
    | (refine condC_split (fun h => ?_) (fun h => ?_) <;> (try simp at h) <;> (try simp [-condC_bool, *]))
    | (refine AOps.pureC rfl (rooms_ok t) rfl rfl (by simp) rfl ?_ <;> (try simp [-condC_bool, *]))
    | (refine AOps.lendC rfl (rooms_ok t) rfl (by simp) rfl rfl (by simp) rfl ?_ <;> (try simp [-condC_bool, *]))
    | (refine AOps.pureG rfl (fun h => rooms_ok t) rfl (by first | rfl | (simp; rfl)) (by simp) (by simp) rfl ?_ <;> (try simp [-condC_bool, *]))
    | (with_reducible intro _))
  · rw [nameM, if_pos h]
  · rcases (show d = 0 ∨ d = 1 ∨ d = 2 ∨ d = 3 ∨ d = 4 ∨ d = 5 ∨ d = 6 ∨ d = 7 ∨ d = 8 ∨ d = 9 ∨ d = 10 ∨ d = 11 ∨ d = 12 by omega) with rfl | rfl | rfl | rfl | rfl | rfl | rfl | rfl | rfl | rfl | rfl | rfl | rfl <;> rfl
def backM (d : Int) : Int := if d < 1 ∨ 12 < d then 0 else [0, 2, 1, 4, 3, 8, 7, 6, 5, 10, 9, 12, 11][d.toNat]?.getD 0
theorem back_ok (d : Int) : Pure Try.prog 22 [.d (.v (.int .i64 d))] (.d (.v (.int .i64 (backM d)))) := by
  rcases (show (d = 1 ∨ d = 2 ∨ d = 3 ∨ d = 4 ∨ d = 5 ∨ d = 6 ∨ d = 7 ∨ d = 8 ∨ d = 9 ∨ d = 10 ∨ d = 11 ∨ d = 12) ∨ ((d < 1 ∨ 12 < d) ∧ d ≠ 1 ∧ d ≠ 2 ∧ d ≠ 3 ∧ d ≠ 4 ∧ d ≠ 5 ∧ d ≠ 6 ∧ d ≠ 7 ∧ d ≠ 8 ∧ d ≠ 9 ∧ d ≠ 10 ∧ d ≠ 11 ∧ d ≠ 12) by omega) with (rfl | rfl | rfl | rfl | rfl | rfl | rfl | rfl | rfl | rfl | rfl | rfl) | ⟨h, h0, h1, h2, h3, h4, h5, h6, h7, h8, h9, h10, h11⟩
  all_goals (try (refine Pure.run Try.func22 rfl (by simp [Try.f22]) ?_; simp [-condC_bool, Try.f22] <;> (try exact ⟨by rw [inR_i64]; omega, rfl⟩)))
  all_goals first | rfl | (simp [*]; rw [backM, if_pos h])
theorem refBack_ok (d : Int) : Pure Try.prog 23 [.d (.v (.int .i64 d))] (.d (.v (.int .i64 (backM d)))) := by
  refine Pure.run Try.func23 rfl (by simp [Try.f23]) ?_; simp [-condC_bool, Try.f23]
  repeat' (first
    | (with_reducible refine And.intro ?_ ?_)
    | (refine condC_split (fun h => ?_) (fun h => ?_) <;> (try simp at h) <;> (try simp [-condC_bool, *]))
    | (refine AOps.pureC rfl (rooms_ok t) rfl rfl (by simp) rfl ?_ <;> (try simp [-condC_bool, *]))
    | (refine AOps.lendC rfl (rooms_ok t) rfl (by simp) rfl rfl (by simp) rfl ?_ <;> (try simp [-condC_bool, *]))
    | (refine AOps.pureG rfl (fun h => rooms_ok t) rfl (by first | rfl | (simp; rfl)) (by simp) (by simp) rfl ?_ <;> (try simp [-condC_bool, *]))
    | (with_reducible intro _))
  · rw [backM, if_pos h]
  all_goals try omega
  · rcases (show d = 1 ∨ d = 2 ∨ d = 3 ∨ d = 4 ∨ d = 5 ∨ d = 6 ∨ d = 7 ∨ d = 8 ∨ d = 9 ∨ d = 10 ∨ d = 11 ∨ d = 12 by omega) with rfl | rfl | rfl | rfl | rfl | rfl | rfl | rfl | rfl | rfl | rfl | rfl <;> rfl
def isB (t : GTables) (x : Int) : Bool := thingB t x && roomB t x
theorem is_ok (t : GTables) (x : Int) : Pure Try.prog 45 [.agg (t.enc.map .d), .d (.v (.int .i64 x))] (.d (.v (.bool (isB t x)))) := by
  refine Pure.run Try.func45 rfl (by simp [Try.f45]) ?_; simp [-condC_bool, Try.f45]
  repeat' (first
    | (with_reducible refine And.intro ?_ ?_)
    | (refine condC_split (fun h => ?_) (fun h => ?_) <;> (try simp at h) <;> (try simp [-condC_bool, *]))
    | (refine AOps.pureC rfl (rooms_ok t) rfl rfl (by simp) rfl ?_ <;> (try simp [-condC_bool, *]))
    | (refine AOps.lendC rfl (rooms_ok t) rfl (by simp) rfl rfl (by simp) rfl ?_ <;> (try simp [-condC_bool, *]))
    | (refine AOps.pureG rfl (fun h => rooms_ok t) rfl (by first | rfl | (simp; rfl)) (by simp) (by simp) rfl ?_ <;> (try simp [-condC_bool, *]))
    | (with_reducible intro _))
  all_goals (first | assumption | omega | (rw [inR_i64]; omega) | (simp_all; done) | grind | skip)
  have h1 : (decide (0 < x) && decide (x < ↑t.Things.length)) = thingB t x := by
    unfold thingB fromB
    rw [Bool.eq_iff_iff]; simp; omega
  rw [h1]; rfl
theorem refRoom55_ok (t : GTables) (h0 : (thingAt t 0).Room = false) (x : Int) : Pure Try.prog 47 [.agg (t.enc.map .d), .d (.v (.int .i64 x))] (.d (.v (.bool (isB t x)))) := by
  refine Pure.run Try.func47 rfl (by simp [Try.f47]) ?_; simp [-condC_bool, Try.f47]
  repeat' (first
    | (with_reducible refine And.intro ?_ ?_)
    | (refine condC_split (fun h => ?_) (fun h => ?_) <;> (try simp at h) <;> (try simp [-condC_bool, *]))
    | (refine AOps.pureC rfl (rooms_ok t) rfl rfl (by simp) rfl ?_ <;> (try simp [-condC_bool, *]))
    | (refine AOps.lendC rfl (rooms_ok t) rfl (by simp) rfl rfl (by simp) rfl ?_ <;> (try simp [-condC_bool, *]))
    | (refine AOps.pureG rfl (fun h => rooms_ok t) rfl (by first | rfl | (simp; rfl)) (by simp) (by simp) rfl ?_ <;> (try simp [-condC_bool, *]))
    | (with_reducible intro _))
  all_goals (first | assumption | omega | (rw [inR_i64]; omega) | (simp_all; done) | grind | skip)
  have h1 : (decide (0 ≤ x) && decide (x < ↑t.Things.length) && (t.Things[x.toNat]?.getD GThing.zero).Room) = isB t x := by
    unfold isB thingB fromB roomB
    by_cases hx : x = 0
    · subst hx
      have : (t.Things[(0 : Int).toNat]?.getD GThing.zero).Room = false := h0
      rw [this]; simp
    · congr 1
      rw [Bool.eq_iff_iff]; simp; omega
  rw [h1]
def anyB {α : Type} (p : α → Bool) (l : List α) : Bool := l.any p
theorem anyB_nil {α : Type} (p : α → Bool) : anyB p [] = false := rfl
theorem anyB_snoc {α : Type} (p : α → Bool) (pre : List α) (x : α) : anyB p (pre ++ [x]) = (anyB p pre || p x) := by simp [anyB]
theorem anyB_split {α : Type} {p : α → Bool} {l pre post : List α} {x : α} (h : l = pre ++ x :: post) (hH : anyB p pre = false) : anyB p l = (p x || anyB p post) := by
  unfold anyB at *
  rw [h, List.any_append, hH]; simp
theorem anyB_iff {α : Type} {p : α → Bool} {l : List α} : anyB p l = true ↔ ∃ x ∈ l, p x = true := by simp [anyB]
def toB (x : Int) (w : GWay) : Bool := decide (w.To = x)
def leadsB (t : GTables) (fr to : Int) : Bool := anyB (toB to) (thingAt t fr).Ways
theorem leads_ok (t : GTables) (ht : t.wf) (fr to : Int) (hf : 0 ≤ fr ∧ fr < t.Things.length) : Pure Try.prog 50 [.agg (t.enc.map .d), .d (.v (.int .i64 fr)), .d (.v (.int .i64 to))] (.d (.v (.bool (leadsB t fr to)))) := by
  have h1 := thingAt_get hf
  have h2 := thingAt_elem hf
  have hw := GTables.wf_Things ht _ (thingAt_mem hf)
  have hl := GThing.wl_Ways hw
  have h3 : 0 ≤ fr ∧ fr.toNat < t.Things.length := by omega
  unfold leadsB
  generalize thingAt t fr = th at *
  refine Pure.run Try.func50 rfl (by simp [Try.f50]) ?_; simp [-condC_bool, Try.f50]
  simp [-condC_bool, h1, h2, h3]
  try intro (_ : Nat → Nat)
  refine AWP.loopL [2, 14, 15, 16] th.Ways (fun pre => [(16, .d (.v (.int .i64 pre.length)))]) (fun _ => []) (fun pre => anyB (toB to) pre = false) (by rfl) (by omega) (by simp [anyB_nil]) ?_ ?_
  · rintro pre x post hsp hH hlt hge a4
    have hall := anyB_split hsp hH
    have hsn : anyB (toB to) (pre ++ [x]) = toB to x := by simp [anyB_snoc, hH]
    have hxx : toB to x = decide (x.To = to) := rfl
    clear hsp
    simp [-condC_bool, hlt, hge, hall, a4]
    repeat' (first
      | (with_reducible refine And.intro ?_ ?_)
      | (refine condC_split (fun h => ?_) (fun h => ?_) <;> (try simp at h) <;> (try simp [-condC_bool, *]))
      | (refine AOps.pureC rfl (rooms_ok t) rfl rfl (by simp) rfl ?_ <;> (try simp [-condC_bool, *]))
      | (refine AOps.lendC rfl (rooms_ok t) rfl (by simp) rfl rfl (by simp) rfl ?_ <;> (try simp [-condC_bool, *]))
      | (refine AOps.pureG rfl (fun h => rooms_ok t) rfl (by first | rfl | (simp; rfl)) (by simp) (by simp) rfl ?_ <;> (try simp [-condC_bool, *]))
      | (with_reducible intro _))
    all_goals (first | assumption | omega | (rw [inR_i64]; omega) | (simp_all; done) | grind | skip)
  · intro hH
    simp [*]
def edgesAt (t : GTables) (x : Int) : List GEdge := (((thingAt t x).Ways.filter fun w => !leadsB t w.To x).map fun w => ⟨x, w.To, ⟨0, 0, 0, 0, w.Dir⟩⟩)
def oneWayM (t : GTables) : List GEdge := (roomsM t.Things 0).flatMap (edgesAt t)
theorem roomsM_mem {l : List GThing} {i x : Int} (h : x ∈ roomsM l i) : i ≤ x ∧ x < i + l.length ∧ (l[(x - i).toNat]?.getD GThing.zero).Room = true := by
  induction l generalizing i with
  | nil => simp [roomsM] at h
  | cons y l ih =>
    simp only [roomsM] at h
    have key : x ∈ roomsM l (i + 1) → i ≤ x ∧ x < i + (y :: l).length ∧ ((y :: l)[(x - i).toNat]?.getD GThing.zero).Room = true := by
      intro h
      obtain ⟨h1, h2, h3⟩ := ih h
      refine ⟨by omega, by simp; omega, ?_⟩
      rw [show (x - i).toNat = (x - (i + 1)).toNat + 1 by omega]
      simpa using h3
    split at h
    · rename_i hr
      rcases List.mem_cons.1 h with rfl | h
      · simp [hr]; omega
      · exact key h
    · exact key h
theorem ways_len {t : GTables} : ∀ (l : List GWay) (p : GWay), waysM t (some p) l = true → p.Dir ≤ 12 → l.length + p.Dir ≤ 12
  | [], p, _, h => by simp; omega
  | w :: l, p, h, hp => by
    simp only [waysM, wayB, prevB, Bool.and_eq_true, fromB_iff, decide_eq_true_eq] at h
    have := ways_len l w h.2 (by omega)
    simp; omega
theorem fits_ways12 {t : GTables} (h : fitsB t = true) {x : GThing} (hx : x ∈ t.Things) : x.Ways.length ≤ 12 := by
  rcases fits_thing h hx with ⟨_, h1, _⟩ | h1
  · simp [h1]
  · simp only [thingOk, Bool.and_eq_true] at h1
    have h2 := h1.2
    cases hw : x.Ways with
    | nil => simp
    | cons w l =>
      rw [hw, waysB] at h2
      simp only [waysM, wayB, Bool.and_eq_true, fromB_iff] at h2
      have := ways_len l w h2.2 (by omega)
      simp; omega
theorem edgesAt_len {t : GTables} (h : fitsB t = true) {x : Int} (hx : 0 ≤ x ∧ x < t.Things.length) : (edgesAt t x).length ≤ 12 := by
  unfold edgesAt
  rw [List.length_map]
  exact Nat.le_trans (List.length_filter_le _ _) (fits_ways12 h (thingAt_mem hx))
theorem flat_le {α β : Type} {f : α → List β} {n : Nat} : ∀ (l : List α), (∀ x ∈ l, (f x).length ≤ n) → (l.flatMap f).length ≤ l.length * n
  | [], _ => by simp
  | x :: l, h => by
    have := flat_le l (fun y hy => h y (List.mem_cons_of_mem _ hy))
    have := h x List.mem_cons_self
    rw [List.flatMap_cons, List.length_append, List.length_cons, Nat.add_mul]
    omega
def edgeOf (x : Int) (w : GWay) : GEdge := ⟨x, w.To, ⟨0, 0, 0, 0, w.Dir⟩⟩
theorem edgesAt_eq (t : GTables) (x : Int) : edgesAt t x = ((thingAt t x).Ways.filter fun w => !leadsB t w.To x).map (edgeOf x) := rfl

theorem oneWay_ok (t : GTables) (ht : t.wf) (hF : fitsB t = true) : Pure Try.prog 18 [.agg (t.enc.map .d)] (.d (.sl ((oneWayM t).map GEdge.enc))) := by
  have hn := fits_things hF
  refine Pure.run Try.func18 rfl (by simp [Try.f18]) ?_; simp [-condC_bool, Try.f18]
  repeat' (first
    | (with_reducible refine And.intro ?_ ?_)
    | (refine condC_split (fun h => ?_) (fun h => ?_) <;> (try simp at h) <;> (try simp [-condC_bool, *]))
    | (refine AOps.pureC rfl (rooms_ok t) rfl rfl (by simp) rfl ?_ <;> (try simp [-condC_bool, *]))
    | (refine AOps.lendC rfl (rooms_ok t) rfl (by simp) rfl rfl (by simp) rfl ?_ <;> (try simp [-condC_bool, *]))
    | (refine AOps.pureG rfl (fun h => rooms_ok t) rfl (by first | rfl | (simp; rfl)) (by simp) (by simp) rfl ?_ <;> (try simp [-condC_bool, *]))
    | (with_reducible intro _))
  refine AWP.weaken (Wk.ownBox 3 0 50 (e := 49) (k := 7) rfl rfl (by simp)) ?_
  refine AWP.rangeL [1, 3] (roomsM t.Things 0) (fun i => [.d (.v (.int .i64 i))]) (fun pre => [(50, .row 49 7 (dd ((pre.flatMap (edgesAt t)).map GEdge.enc)))]) (fun _ => True) (roomsI_ok t ht) rfl (by simp) (by simp) (by simp [hasRF]) (by simp) (by rfl) (by rfl) (by simp) (by simp) ?_ ?_
  · rintro pre x post hsp -
    have h1 := roomsM_len t.Things 0
    have hpm : ∀ y ∈ pre, 0 ≤ y ∧ y < t.Things.length := by
      intro y hy
      have := roomsM_mem (l := t.Things) (i := 0) (x := y) (by rw [hsp]; simp [hy])
      omega
    have hx : 0 ≤ x ∧ x < t.Things.length := by
      have := roomsM_mem (l := t.Things) (i := 0) (x := x) (by rw [hsp]; simp)
      omega
    have hpl := flat_le (f := edgesAt t) (n := 12) pre (fun y hy => edgesAt_len hF (hpm y hy))
    have hge := thingAt_elem hx
    have hget := thingAt_get hx
    have hx2 : 0 ≤ x ∧ x.toNat < t.Things.length := by omega
    rw [hsp] at h1
    simp at h1
    have hlen := fits_ways12 hF (thingAt_mem hx)
    have hto : ∀ w ∈ (thingAt t x).Ways, 0 ≤ w.To ∧ w.To < t.Things.length := fun w hw => by have := fits_to hF (thingAt_mem hx) hw; omega
    clear hsp hpm
    have hfl : (pre ++ [x]).flatMap (edgesAt t) = pre.flatMap (edgesAt t) ++ ((thingAt t x).Ways.filter fun w => !leadsB t w.To x).map (edgeOf x) := by rw [List.flatMap_append]; simp [edgesAt_eq]
    generalize pre.flatMap (edgesAt t) = es at *
    generalize hth : thingAt t x = th at *
    simp [-condC_bool, hge, hget, hx2, hfl]
    refine AWP.loopL [1, 3, 4, 15, 16, 17] th.Ways (fun pre2 => [(17, .d (.v (.int .i64 pre2.length)))]) (fun pre2 => [(50, .row 49 7 (dd ((es ++ (pre2.filter fun w => !leadsB t w.To x).map (edgeOf x)).map GEdge.enc)))]) (fun _ => True) (by rfl) (by omega) (by simp) ?_ ?_
    · rintro pre2 w post2 hsp2 - hlt2 hge2 a4
      have hw := hto w (by rw [hsp2]; simp)
      have hfl2 : (pre2.filter fun w => !leadsB t w.To x).length ≤ pre2.length := List.length_filter_le _ _
      clear hsp2 hto
      simp [-condC_bool, hge2, hlt2]
      repeat' (first
        | (with_reducible refine And.intro ?_ ?_)
        | (refine condC_split (fun h => ?_) (fun h => ?_) <;> (try simp at h) <;> (try simp [-condC_bool, *]))
        | (refine AOps.pureC rfl (leads_ok t ht w.To x hw) rfl rfl (by simp) rfl ?_ <;> (try simp [-condC_bool, *]))
        | (refine AOps.lendC rfl (leads_ok t ht w.To x hw) rfl (by simp) rfl rfl (by simp) rfl ?_ <;> (try simp [-condC_bool, *]))
        | (refine AOps.pureG rfl (fun h => leads_ok t ht w.To x hw) rfl (by first | rfl | (simp; rfl)) (by simp) (by simp) rfl ?_ <;> (try simp [-condC_bool, *]))
        | (with_reducible intro _))
      · omega
      · simp [dd, edgeOf, GEdge.enc, GCmd.enc]
    · intro _
      simp [-condC_bool]
  · intro _
    simp [oneWayM]

end Go.Ab

set_option linter.unusedSimpArgs false
set_option linter.unusedVariables false
namespace Go.Ab
open Go.Proofs

set_option maxRecDepth 20000 in
theorem refOneWay_ok (t : GTables) (ht : t.wf) (hF : fitsB t = true) : Pure Try.prog 19 [.agg (t.enc.map .d)] (.d (.sl ((oneWayM t).map GEdge.enc))) := by
  have hn := fits_things hF
  refine Pure.run Try.func19 rfl (by simp [Try.f19]) ?_; simp [-condC_bool, Try.f19]
  try intro (_ : Nat → Nat)
  refine AWP.weaken (Wk.own' (t := 3) (h := 90) (k := 7) (ty := 49) rfl (by simp)) ?_
  refine AWP.loopL [1, 3, 4] t.Things (fun pre => [(4, .d (.v (.int .i64 pre.length)))]) (fun pre => [(90, .row 49 7 (dd (((roomsM pre 0).flatMap (edgesAt t)).map GEdge.enc)))]) (fun _ => True) (by rfl) (by omega) (by simp [roomsM]) ?_ ?_
  · rintro pre x post hsp - hlt hge a4
    have h1 := roomsM_len pre 0
    have hpm : ∀ y ∈ roomsM pre 0, 0 ≤ y ∧ y < t.Things.length := by
      intro y hy
      have := roomsM_mem hy
      omega
    have hx : (0 : Int) ≤ pre.length ∧ (pre.length : Int) < t.Things.length := by omega
    have hth : thingAt t pre.length = x := by rw [← thingAt_elem hx]; simpa using hge
    have hxm : x ∈ t.Things := by rw [hsp]; simp
    have hpl := flat_le (f := edgesAt t) (n := 12) (roomsM pre 0) (fun y hy => edgesAt_len hF (hpm y hy))
    have hlen := fits_ways12 hF hxm
    have hto : ∀ w ∈ x.Ways, 0 ≤ w.To ∧ w.To < t.Things.length := fun w hw => by have := fits_to hF hxm hw; omega
    have hnl : ∀ w : GWay, 0 ≤ w.To ∧ w.To < t.Things.length → (thingAt t w.To).Ways.length ≤ 12 := fun w hw => fits_ways12 hF (thingAt_mem hw)
    have hfl : (roomsM (pre ++ [x]) 0).flatMap (edgesAt t) = (roomsM pre 0).flatMap (edgesAt t) ++ (if x.Room then (x.Ways.filter fun w => !leadsB t w.To pre.length).map (edgeOf pre.length) else []) := by
      rw [roomsM_snoc]
      split <;> simp [edgesAt_eq, hth]
    clear hsp hpm hxm
    generalize (roomsM pre 0).flatMap (edgesAt t) = es at *
    simp [-condC_bool, hge, hlt, hfl]
    refine AWP.loopL [1, 3, 4, 5] (if x.Room then x.Ways else []) (fun pre2 => [(5, .d (.v (.int .i64 pre2.length)))]) (fun pre2 => [(90, .row 49 7 (dd ((es ++ (pre2.filter fun w => !leadsB t w.To pre.length).map (edgeOf pre.length)).map GEdge.enc)))]) (fun _ => True) (by rfl) (by split <;> first | omega | simp) (by simp) ?_ ?_
    · rintro pre2 w post2 hsp2 - hlt2 hge2 a5
      by_cases hr : x.Room = true
      · simp only [hr, if_true] at hlt2 hge2 hsp2
        have hw := hto w (by rw [hsp2]; simp)
        have hfl2 : (pre2.filter fun w => !leadsB t w.To pre.length).length ≤ pre2.length := List.length_filter_le _ _
        have h3 := thingAt_elem hw
        have h4 := hnl w hw
        have hw2 : 0 ≤ w.To ∧ w.To.toNat < t.Things.length := by omega
        have hld : leadsB t w.To pre.length = anyB (toB pre.length) (thingAt t w.To).Ways := rfl
        clear hsp2 hto hnl
        generalize thingAt t w.To = tw at *
        simp [-condC_bool, hge, hlt, hge2, hlt2, h3, hw2, hr]
        try intro (_ : Nat → Nat)
        refine AWP.loopL [1, 3, 4, 5, 6, 7, 8, 9] tw.Ways (fun p3 => [(7, .d (.v (.bool (anyB (toB pre.length) p3)))), (9, .d (.v (.int .i64 p3.length)))]) (fun _ => []) (fun _ => True) (by rfl) (by omega) (by simp [anyB_nil]) ?_ ?_
        · rintro p3 w3 post3 hsp3 - hlt3 hge3 a6
          have hsn : anyB (toB pre.length) (p3 ++ [w3]) = (anyB (toB pre.length) p3 || toB pre.length w3) := by simp [anyB_snoc]
          have hxx : toB pre.length w3 = decide (w3.To = pre.length) := rfl
          clear hsp3
          simp [-condC_bool, hlt3, hge3, hsn, a6]
          repeat' (first
            | (with_reducible refine And.intro ?_ ?_)
            | (refine condC_split (fun h => ?_) (fun h => ?_) <;> (try simp at h) <;> (try simp [-condC_bool, *]))
            | (refine AOps.pureC rfl (rooms_ok t) rfl rfl (by simp) rfl ?_ <;> (try simp [-condC_bool, *]))
            | (refine AOps.lendC rfl (rooms_ok t) rfl (by simp) rfl rfl (by simp) rfl ?_ <;> (try simp [-condC_bool, *]))
            | (refine AOps.pureG rfl (fun h => rooms_ok t) rfl (by first | rfl | (simp; rfl)) (by simp) (by simp) rfl ?_ <;> (try simp [-condC_bool, *]))
            | (with_reducible intro _))
          all_goals (first | assumption | omega | (rw [inR_i64]; omega) | (simp_all; done) | grind | skip)
        · intro _
          simp [-condC_bool, ← hld]
          repeat' (first
            | (with_reducible refine And.intro ?_ ?_)
            | (refine condC_split (fun h => ?_) (fun h => ?_) <;> (try simp at h) <;> (try simp [-condC_bool, *]))
            | (refine AOps.pureC rfl (rooms_ok t) rfl rfl (by simp) rfl ?_ <;> (try simp [-condC_bool, *]))
            | (refine AOps.lendC rfl (rooms_ok t) rfl (by simp) rfl rfl (by simp) rfl ?_ <;> (try simp [-condC_bool, *]))
            | (refine AOps.pureG rfl (fun h => rooms_ok t) rfl (by first | rfl | (simp; rfl)) (by simp) (by simp) rfl ?_ <;> (try simp [-condC_bool, *]))
            | (with_reducible intro _))
          all_goals (try (rename_i h9; simp only [Bool.not_eq_true', Bool.not_eq_false'] at h9))
          · omega
          · simp_all [dd, edgeOf, GEdge.enc, GCmd.enc]
          · simp_all [dd, edgeOf, GEdge.enc, GCmd.enc]
      · have hr' : x.Room = false := by simpa using hr
        simp [hr'] at hlt2
    · intro _
      by_cases hr : x.Room = true
      · simp [-condC_bool, hge, hlt, hr, a4, hfl]
      · have hr' : x.Room = false := by simpa using hr
        simp [-condC_bool, hge, hlt, hr', a4, hfl]
  · intro _
    simp [oneWayM]
end Go.Ab

set_option linter.unusedSimpArgs false
set_option linter.unusedVariables false
namespace Go.Ab
open Go.Proofs

set_option maxRecDepth 20000 in
theorem refInts_ok (a b : List Int) (ha : a.length ≤ 1000000000000000) : Pure Try.prog 15 [.d (.sl (encI a)), .d (.sl (encI b))] (.d (.v (.bool (decide (a = b))))) := by
  refine Pure.run Try.func15 rfl (by simp [Try.f15]) ?_; simp [-condC_bool, Try.f15]
  repeat' (first
    | (with_reducible refine And.intro ?_ ?_)
    | (refine condC_split (fun h => ?_) (fun h => ?_) <;> (try simp at h) <;> (try simp [-condC_bool, *]))
    | (refine AOps.pureC rfl (rooms_ok t) rfl rfl (by simp) rfl ?_ <;> (try simp [-condC_bool, *]))
    | (refine AOps.lendC rfl (rooms_ok t) rfl (by simp) rfl rfl (by simp) rfl ?_ <;> (try simp [-condC_bool, *]))
    | (refine AOps.pureG rfl (fun h => rooms_ok t) rfl (by first | rfl | (simp; rfl)) (by simp) (by simp) rfl ?_ <;> (try simp [-condC_bool, *]))
    | (with_reducible intro _))
  · have : a ≠ b := fun e => by subst e; simp at h
    simp [this]
  · have hl : a.length = b.length := by omega
    refine AWP.loopL [0, 1, 5] a (fun pre => [(5, .d (.v (.int .i64 pre.length)))]) (fun _ => []) (fun pre => b.take pre.length = pre) (by rfl) (by omega) (by simp) ?_ ?_
    · rintro pre x post hsp hH hlt hge a4
      have hlt2 : pre.length < b.length := by omega
      have htk : b.take (pre.length + 1) = pre ++ [b[pre.length]] := by rw [List.take_add_one, hH, List.getElem?_eq_getElem hlt2]; rfl
      have hne : x ≠ b[pre.length] → a ≠ b := by
        intro h e
        subst e
        exact h hge.symm
      clear hsp
      simp [-condC_bool, hlt, hlt2, hge, a4]
      refine AWP.regionD [] Try.mixed (by kernel_rfl) (by rfl) ?_
      simp [-condC_bool, hlt, hlt2, hge, a4]
      repeat' (first
        | (with_reducible refine And.intro ?_ ?_)
        | (refine condC_split (fun h => ?_) (fun h => ?_) <;> (try simp at h) <;> (try simp [-condC_bool, *]))
        | (refine AOps.pureC rfl (rooms_ok t) rfl rfl (by simp) rfl ?_ <;> (try simp [-condC_bool, *]))
        | (refine AOps.lendC rfl (rooms_ok t) rfl (by simp) rfl rfl (by simp) rfl ?_ <;> (try simp [-condC_bool, *]))
        | (refine AOps.pureG rfl (fun h => rooms_ok t) rfl (by first | rfl | (simp; rfl)) (by simp) (by simp) rfl ?_ <;> (try simp [-condC_bool, *]))
        | (with_reducible intro _))
    · intro hH
      have : a = b := by rw [hl, List.take_length] at hH; exact hH.symm
      subst this
      simp

/-! ### What is drawn -/
def wayS (t : GTables) (w : GWay) : ByteArray := ⟨#[32]⟩ ++ nameM w.Dir ++ ⟨#[32]⟩ ++ titleM t w.To
def sepS {α : Type} (pre : List α) : ByteArray := if pre.length = 0 then ⟨#[]⟩ else ⟨#[44]⟩
def waysS (t : GTables) : List GWay → ByteArray
  | [] => ⟨#[]⟩
  | [w] => wayS t w
  | w :: x :: l => wayS t w ++ ⟨#[44]⟩ ++ waysS t (x :: l)
theorem nilS_app (b : ByteArray) : (⟨#[]⟩ : ByteArray) ++ b = b := ByteArray.empty_append
theorem app_nilS (b : ByteArray) : b ++ (⟨#[]⟩ : ByteArray) = b := ByteArray.append_empty
theorem waysS_snoc (t : GTables) : ∀ (pre : List GWay) (w : GWay), waysS t (pre ++ [w]) = waysS t pre ++ sepS pre ++ wayS t w
  | [], w => by simp [waysS, sepS, nilS_app]
  | [x], w => by simp [waysS, sepS]
  | x :: y :: l, w => by
    have ih := waysS_snoc t (y :: l) w
    simp only [List.cons_append, waysS] at ih ⊢
    rw [ih]
    simp [sepS, ByteArray.append_assoc]
def lineS (t : GTables) (x : Int) : ByteArray := titleM t x ++ ⟨#[58]⟩ ++ waysS t (thingAt t x).Ways ++ ⟨#[10]⟩
def roomsS (t : GTables) : List Int → ByteArray
  | [] => ⟨#[]⟩
  | x :: l => lineS t x ++ roomsS t l
theorem roomsS_app (t : GTables) (l r : List Int) : roomsS t (l ++ r) = roomsS t l ++ roomsS t r := by
  induction l with
  | nil => simp [roomsS, nilS_app]
  | cons x l ih => simp [roomsS, ih, ByteArray.append_assoc]
theorem roomsS_snoc (t : GTables) (pre : List Int) (x : Int) : roomsS t (pre ++ [x]) = roomsS t pre ++ lineS t x := by
  rw [roomsS_app]; simp [roomsS, app_nilS]
def drawM (t : GTables) : ByteArray := roomsS t (roomsM t.Things 0)

theorem fits_text {t : GTables} (h : fitsB t = true) {s : ByteArray} (hs : s ∈ t.Texts) : s.size ≤ 1024 := by
  simp only [fitsB, headB, Bool.and_eq_true] at h
  have := allB_iff.1 h.1.1.1.2 s hs
  simp [isTextB] at this
  exact this.2
theorem textM_size {t : GTables} (h : fitsB t = true) (n : Int) : (textM t n).size ≤ 1024 := by
  unfold textM
  split
  · simp [ByteArray.size]
  · cases hg : t.Texts[n.toNat]? with
    | none => simp [ByteArray.size]
    | some s => exact fits_text h (List.mem_of_getElem? hg)
theorem titleM_size {t : GTables} (h : fitsB t = true) (n : Int) : (titleM t n).size ≤ 1024 := by
  unfold titleM
  split
  · simp [nothingS, ByteArray.size]
  · exact textM_size h _
theorem nameM_size (d : Int) : (nameM d).size ≤ 9 := by
  unfold nameM
  split
  · simp [ByteArray.size]
  · rename_i h
    rcases (show d = 0 ∨ d = 1 ∨ d = 2 ∨ d = 3 ∨ d = 4 ∨ d = 5 ∨ d = 6 ∨ d = 7 ∨ d = 8 ∨ d = 9 ∨ d = 10 ∨ d = 11 ∨ d = 12 by omega) with rfl | rfl | rfl | rfl | rfl | rfl | rfl | rfl | rfl | rfl | rfl | rfl | rfl <;> decide
theorem wayS_size {t : GTables} (h : fitsB t = true) (w : GWay) : (wayS t w).size ≤ 1035 := by
  have h1 := titleM_size h w.To
  have h2 := nameM_size w.Dir
  simp only [wayS, ByteArray.size_append]
  have : (⟨#[32]⟩ : ByteArray).size = 1 := rfl
  omega
theorem waysS_size {t : GTables} (h : fitsB t = true) : ∀ l : List GWay, (waysS t l).size ≤ l.length * 1036
  | [] => by simp [waysS, ByteArray.size]
  | [w] => by have := wayS_size h w; simp [waysS]; omega
  | w :: x :: l => by
    have h1 := wayS_size h w
    have h2 := waysS_size h (x :: l)
    simp only [waysS, ByteArray.size_append, List.length_cons] at h2 ⊢
    have : (⟨#[44]⟩ : ByteArray).size = 1 := rfl
    omega
theorem lineS_size {t : GTables} (h : fitsB t = true) {x : Int} (hx : 0 ≤ x ∧ x < t.Things.length) : (lineS t x).size ≤ 13458 := by
  have h1 := titleM_size h x
  have h2 := waysS_size h (thingAt t x).Ways
  have h3 := fits_ways12 h (thingAt_mem hx)
  simp only [lineS, ByteArray.size_append]
  have : (⟨#[58]⟩ : ByteArray).size = 1 := rfl
  have : (⟨#[10]⟩ : ByteArray).size = 1 := rfl
  omega
theorem roomsS_size {t : GTables} (h : fitsB t = true) : ∀ l : List Int, (∀ x ∈ l, 0 ≤ x ∧ x < t.Things.length) → (roomsS t l).size ≤ l.length * 13458
  | [], _ => by simp [roomsS, ByteArray.size]
  | x :: l, hl => by
    have h1 := lineS_size h (hl x List.mem_cons_self)
    have h2 := roomsS_size h l (fun y hy => hl y (List.mem_cons_of_mem _ hy))
    simp only [roomsS, ByteArray.size_append, List.length_cons]
    omega

set_option maxRecDepth 20000 in
theorem refDraw_ok (t : GTables) (ht : t.wf) (hF : fitsB t = true) : Pure Try.prog 25 [.agg (t.enc.map .d)] (.d (.v (.string (drawM t)))) := by
  have hn := fits_things hF
  have k58 : (⟨#[58]⟩ : ByteArray).size = 1 := rfl
  have k44 : (⟨#[44]⟩ : ByteArray).size = 1 := rfl
  have k32 : (⟨#[32]⟩ : ByteArray).size = 1 := rfl
  have k10 : (⟨#[10]⟩ : ByteArray).size = 1 := rfl
  refine Pure.run Try.func25 rfl (by simp [Try.f25]) ?_; simp [-condC_bool, Try.f25]
  try intro (_ : Nat → Nat)
  refine AWP.weaken (Wk.freeze 8 (ys := encS nameS) rfl) ?_
  simp [-condC_bool]
  refine AWP.loopL [1, 3, 4, 5] t.Things (fun pre => [(4, .d (.v (.string (roomsS t (roomsM pre 0))))), (5, .d (.v (.int .i64 pre.length)))]) (fun _ => []) (fun _ => True) (by rfl) (by omega) (by simp [roomsM, roomsS]) ?_ ?_
  · rintro pre x post hsp - hlt hge a4
    have h1 := roomsM_len pre 0
    have hpm : ∀ y ∈ roomsM pre 0, 0 ≤ y ∧ y < t.Things.length := by
      intro y hy
      have := roomsM_mem hy
      omega
    have hx : (0 : Int) ≤ pre.length ∧ (pre.length : Int) < t.Things.length := by omega
    have hth : thingAt t pre.length = x := by rw [← thingAt_elem hx]; simpa using hge
    have hxm : x ∈ t.Things := by rw [hsp]; simp
    have hsz := roomsS_size hF _ hpm
    have hlen := fits_ways12 hF hxm
    have hfl : roomsS t (roomsM (pre ++ [x]) 0) = if x.Room then roomsS t (roomsM pre 0) ++ lineS t pre.length else roomsS t (roomsM pre 0) := by
      rw [roomsM_snoc]
      split
      · rw [roomsS_snoc]
      · rfl
    have hdir : ∀ w ∈ x.Ways, 1 ≤ w.Dir ∧ w.Dir ≤ 12 := fun w hw => fromB_iff.1 (fits_way hF hxm hw).1
    have hts := titleM_size hF pre.length
    clear hsp hpm hxm
    generalize roomsS t (roomsM pre 0) = s at *
    simp [-condC_bool, hge, hlt, hfl]
    repeat' (first
      | (with_reducible refine And.intro ?_ ?_)
      | (refine condC_split (fun h => ?_) (fun h => ?_) <;> (try simp at h) <;> (try simp [-condC_bool, *]))
      | (refine AOps.pureC rfl (refTitle_ok t _) rfl rfl (by simp) rfl ?_ <;> (try simp [-condC_bool, *]))
      | (refine AOps.lendC rfl (refTitle_ok t _) rfl (by simp) rfl rfl (by simp) rfl ?_ <;> (try simp [-condC_bool, *]))
      | (refine AOps.pureG rfl (fun h => refTitle_ok t _) rfl (by first | rfl | (simp; rfl)) (by simp) (by simp) rfl ?_ <;> (try simp [-condC_bool, *]))
      | (with_reducible intro _))
    all_goals (first | assumption | omega | (rw [inR_i64]; omega) | (simp_all; done) | grind | skip)
    refine AWP.loopL [1, 3, 4, 5, 6, 7] x.Ways (fun pre2 => [(4, .d (.v (.string (s ++ titleM t pre.length ++ ⟨#[58]⟩ ++ waysS t pre2)))), (7, .d (.v (.int .i64 pre2.length)))]) (fun _ => []) (fun _ => True) (by rfl) (by omega) (by simp [waysS, app_nilS]) ?_ ?_
    · rintro pre2 w post2 hsp2 - hlt2 hge2 a5
      have hd := hdir w (by rw [hsp2]; simp)
      have hns : nameS[w.Dir.toNat]? = some (nameM w.Dir) := by
        rw [nameM, if_neg (by omega), List.getElem?_eq_getElem (by simp [nameS, nameL]; omega)]
        simp
      have hnl : w.Dir.toNat < nameS.length := by simp [nameS, nameL]; omega
      have hns' : nameS[w.Dir.toNat]'hnl = nameM w.Dir := by rwa [List.getElem?_eq_getElem hnl, Option.some.injEq] at hns
      have hw1 := waysS_size hF pre2
      have hw2 := titleM_size hF w.To
      have hw3 := nameM_size w.Dir
      have hsn := waysS_snoc t pre2 w
      clear hsp2 hdir
      generalize waysS t pre2 = s2 at *
      generalize hS : s ++ titleM t pre.length ++ ⟨#[58]⟩ ++ s2 = S at *
      have hSz : S.size ≤ 2000000 := by
        rw [← hS]; simp only [ByteArray.size_append]; omega
      have hsn2 : s ++ titleM t pre.length ++ ⟨#[58]⟩ ++ (s2 ++ sepS pre2 ++ wayS t w) = S ++ sepS pre2 ++ wayS t w := by rw [← hS]; simp [ByteArray.append_assoc]
      have hD : w.Dir.toNat < nameS.length ∧ 0 ≤ w.Dir := by omega
      simp [-condC_bool, hlt2, hge2, hsn, hsn2]
      refine condC_split (fun h2 => ?_) (fun h2 => ?_)
      · simp at h2
        have hsp : sepS pre2 = ⟨#[44]⟩ := by rw [sepS, if_neg (by omega)]
        simp [-condC_bool]
        refine ⟨by rw [k44]; omega, ?_⟩
        refine AWP.regionD [.d (.v (.string (titleM t w.To)))] Try.mixed (by kernel_rfl) (by rfl) ?_
        simp [-condC_bool, hlt2, hge2, hns, hnl, hns', (refTitle_ok t _).ok, hsp, wayS, ByteArray.append_assoc]
        repeat' (with_reducible refine And.intro ?_ ?_)
        all_goals first | omega | assumption | (rw [hsn, ← hS]; simp only [hsp, wayS, ByteArray.append_assoc])
      · simp at h2
        have hsp : sepS pre2 = ⟨#[]⟩ := by rw [sepS, if_pos (by simp [h2])]
        simp [-condC_bool]
        refine AWP.regionD [.d (.v (.string (titleM t w.To)))] Try.mixed (by kernel_rfl) (by rfl) ?_
        simp [-condC_bool, hlt2, hge2, hns, hnl, hns', (refTitle_ok t _).ok, hsp, app_nilS, wayS, ByteArray.append_assoc]
        repeat' (with_reducible refine And.intro ?_ ?_)
        all_goals first | omega | assumption | (rw [hsn, ← hS]; simp only [hsp, wayS, nilS_app, ByteArray.append_assoc])
    · intro _
      have hw1 := waysS_size hF x.Ways
      simp [-condC_bool, k10, k58, hfl, h]
      refine ⟨by omega, a4, ?_⟩
      simp only [lineS, hth, ByteArray.append_assoc]
  · intro _
    simp [drawM]
end Go.Ab

set_option linter.unusedSimpArgs false
set_option linter.unusedVariables false
namespace Go.Ab
open Go.Proofs

/-! ### The search, in plain Lean: what is met, in the order in which it is met -/
structure BE where
  key : Int
  p : Nat
  q : Nat
  far : Int
  par : Int
  dir : Int

def keysB (N : List BE) : List Int := N.map (·.key)
def addB (N : List BE) (k : Nat) (e : BE) (q : Nat) (w : GWay) : List BE := if w.To ∈ keysB N then N else N ++ [⟨w.To, k, q, e.far + 1, e.key, w.Dir⟩]
def chunkB (k : Nat) (e : BE) : Nat → List GWay → List BE → List BE
  | _, [], N => N
  | q, w :: ws, N => chunkB k e (q + 1) ws (addB N k e q w)
theorem chunkB_snoc (k : Nat) (e : BE) (ws : List GWay) (w : GWay) : ∀ (q : Nat) (N : List BE), chunkB k e q (ws ++ [w]) N = addB (chunkB k e q ws N) k e (q + ws.length) w := by
  induction ws with
  | nil => intro q N; simp [chunkB]
  | cons v ws ih => intro q N; simp only [List.cons_append, chunkB, ih, List.length_cons]; congr 1; omega
def waysAt (t : GTables) (x : Int) : List GWay := (thingAt t x).Ways
def nextB (t : GTables) (N : List BE) (k : Nat) : List BE := match N[k]? with
  | none => N
  | some e => chunkB k e 0 (waysAt t e.key) N
def bfsB (t : GTables) (fr : Int) : Nat → List BE
  | 0 => [⟨fr, 0, 0, 0, 0, 0⟩]
  | k + 1 => nextB t (bfsB t fr k) k

/-- What is known when k have been gone through, and of number k the first ways, up to number l. -/
structure BInv (t : GTables) (fr : Int) (N : List BE) (k l : Nat) : Prop where
  root : N[0]? = some ⟨fr, 0, 0, 0, 0, 0⟩
  nodup : (keysB N).Nodup
  ent : ∀ (j : Nat) (e : BE), 1 ≤ j → N[j]? = some e → e.p < j ∧ ∃ (f : BE) (w : GWay), N[e.p]? = some f ∧ (waysAt t f.key)[e.q]? = some w ∧ w.To = e.key ∧ w.Dir = e.dir ∧ e.far = f.far + 1 ∧ e.par = f.key
  hi : ∀ (j : Nat) (e : BE), 1 ≤ j → N[j]? = some e → e.p < k ∨ (e.p = k ∧ e.q < l)
  sorted : ∀ (i j : Nat) (e f : BE), 1 ≤ i → i < j → N[i]? = some e → N[j]? = some f → e.p < f.p ∨ (e.p = f.p ∧ e.q < f.q)
  least : ∀ (j : Nat) (e : BE) (p q : Nat) (f : BE) (w : GWay), 1 ≤ j → N[j]? = some e → (p < k ∨ (p = k ∧ q < l)) → N[p]? = some f → (waysAt t f.key)[q]? = some w → w.To = e.key → e.p < p ∨ (e.p = p ∧ e.q ≤ q)
  all : ∀ (p q : Nat) (f : BE) (w : GWay), (p < k ∨ (p = k ∧ q < l)) → N[p]? = some f → (waysAt t f.key)[q]? = some w → w.To ∈ keysB N

theorem getB_inj {N : List BE} (hn : (keysB N).Nodup) {i j : Nat} {e f : BE} (hi : N[i]? = some e) (hj : N[j]? = some f) (h : e.key = f.key) : i = j := by
  have h1 : (keysB N)[i]? = some e.key := by simp [keysB, hi]
  have h2 : (keysB N)[j]? = some f.key := by simp [keysB, hj]
  have hlt := (List.getElem?_eq_some_iff.1 h1).1
  exact (List.getElem?_inj hlt hn).1 (by rw [h1, h2, h])

theorem BInv.start (t : GTables) (fr : Int) : BInv t fr [⟨fr, 0, 0, 0, 0, 0⟩] 0 0 := by
  refine ⟨rfl, by simp [keysB], ?_, ?_, ?_, ?_, ?_⟩
  · intro j e h1 h2
    have := (List.getElem?_eq_some_iff.1 h2).1
    simp at this; omega
  · intro j e h1 h2
    have := (List.getElem?_eq_some_iff.1 h2).1
    simp at this; omega
  · intro i j e f h1 h2 h3 h4
    have := (List.getElem?_eq_some_iff.1 h4).1
    simp at this; omega
  · intro j e p q f w h1 h2
    have := (List.getElem?_eq_some_iff.1 h2).1
    simp at this; omega
  · intro p q f w h; omega

theorem BInv.add {t : GTables} {fr : Int} {N : List BE} {k l : Nat} (h : BInv t fr N k l) {e : BE} (he : N[k]? = some e) {w : GWay} (hw : (waysAt t e.key)[l]? = some w) : BInv t fr (addB N k e l w) k (l + 1) := by
  have hk : k < N.length := (List.getElem?_eq_some_iff.1 he).1
  unfold addB
  split
  · rename_i hin
    obtain ⟨g, hg, hgk⟩ := List.mem_map.1 hin
    obtain ⟨jj, hjj⟩ := List.getElem?_of_mem hg
    refine ⟨h.root, h.nodup, h.ent, fun j e1 h1 h2 => ?_, h.sorted, ?_, ?_⟩
    · rcases h.hi j e1 h1 h2 with h3 | ⟨h3, h4⟩
      · exact .inl h3
      · exact .inr ⟨h3, by omega⟩
    · intro j e1 p q f v h1 h2 h3 h4 h5 h6
      by_cases hq : p = k ∧ q = l
      · obtain ⟨rfl, rfl⟩ := hq
        rcases h.hi j e1 h1 h2 with h7 | ⟨h7, h8⟩
        · exact .inl h7
        · exact .inr ⟨h7, by omega⟩
      · exact h.least j e1 p q f v h1 h2 (by omega) h4 h5 h6
    · intro p q f v h3 h4 h5
      by_cases hq : p = k ∧ q = l
      · obtain ⟨rfl, rfl⟩ := hq
        rw [he] at h4
        obtain rfl := Option.some.inj h4
        rw [hw] at h5
        obtain rfl := Option.some.inj h5
        exact hin
      · exact h.all p q f v (by omega) h4 h5
  · rename_i hin
    have old : ∀ {j : Nat} {f : BE}, N[j]? = some f → (N ++ [(⟨w.To, k, l, e.far + 1, e.key, w.Dir⟩ : BE)])[j]? = some f := fun hj => by
      rw [List.getElem?_append_left (List.getElem?_eq_some_iff.1 hj).1]; exact hj
    have new : ∀ {j : Nat} {f : BE}, (N ++ [(⟨w.To, k, l, e.far + 1, e.key, w.Dir⟩ : BE)])[j]? = some f → N[j]? = some f ∨ (j = N.length ∧ f = ⟨w.To, k, l, e.far + 1, e.key, w.Dir⟩) := by
      intro j f hj
      by_cases hlt : j < N.length
      · rw [List.getElem?_append_left hlt] at hj; exact .inl hj
      · have := (List.getElem?_eq_some_iff.1 hj).1
        simp at this
        have e1 : j = N.length := by omega
        subst e1
        simp at hj
        exact .inr ⟨rfl, hj.symm⟩
    have hold : ∀ {j : Nat} {f : BE}, N[j]? = some f → j < N.length := fun hj => (List.getElem?_eq_some_iff.1 hj).1
    have hoff : ∀ {p : Nat} {f : BE}, p ≤ k → (N ++ [(⟨w.To, k, l, e.far + 1, e.key, w.Dir⟩ : BE)])[p]? = some f → N[p]? = some f := by
      intro p f hp hj
      rcases new hj with h1 | ⟨h1, _⟩
      · exact h1
      · omega
    refine ⟨old h.root, ?_, ?_, ?_, ?_, ?_, ?_⟩
    · simp only [keysB, List.map_append, List.map_cons, List.map_nil]
      rw [List.nodup_append]
      refine ⟨h.nodup, by simp, ?_⟩
      rintro a ha b hb rfl
      simp only [List.mem_singleton] at hb
      subst hb
      exact hin ha
    · intro j e1 h1 h2
      rcases new h2 with h3 | ⟨rfl, rfl⟩
      · obtain ⟨q1, f, v, q2, q3⟩ := h.ent j e1 h1 h3
        exact ⟨q1, f, v, old q2, q3⟩
      · exact ⟨hk, e, w, old he, hw, rfl, rfl, rfl, rfl⟩
    · intro j e1 h1 h2
      rcases new h2 with h3 | ⟨rfl, rfl⟩
      · rcases h.hi j e1 h1 h3 with h4 | ⟨h4, h5⟩
        · exact .inl h4
        · exact .inr ⟨h4, by omega⟩
      · exact .inr ⟨rfl, by simp⟩
    · intro i j e1 f h1 h2 h3 h4
      rcases new h4 with h5 | ⟨rfl, rfl⟩
      · have hil : i < N.length := by have := hold h5; omega
        rw [List.getElem?_append_left hil] at h3
        exact h.sorted i j e1 f h1 h2 h3 h5
      · rw [List.getElem?_append_left h2] at h3
        rcases h.hi i e1 h1 h3 with h4 | ⟨h4, h5⟩
        · exact .inl h4
        · exact .inr ⟨h4, h5⟩
    · intro j e1 p q f v h1 h2 h3 h4 h5 h6
      have h4' : N[p]? = some f := hoff (by omega) h4
      rcases new h2 with h7 | ⟨rfl, rfl⟩
      · by_cases hq : p = k ∧ q = l
        · obtain ⟨rfl, rfl⟩ := hq
          rcases h.hi j e1 h1 h7 with h8 | ⟨h8, h9⟩
          · exact .inl h8
          · exact .inr ⟨h8, by omega⟩
        · exact h.least j e1 p q f v h1 h7 (by omega) h4' h5 h6
      · by_cases hq : p = k ∧ q = l
        · obtain ⟨rfl, rfl⟩ := hq
          exact .inr ⟨rfl, Nat.le_refl _⟩
        · exfalso
          have h9 := h.all p q f v (by omega) h4' h5
          rw [h6] at h9
          exact hin h9
    · intro p q f v h3 h4 h5
      have h4' : N[p]? = some f := hoff (by omega) h4
      simp only [keysB, List.map_append, List.mem_append, List.map_cons, List.map_nil, List.mem_singleton]
      by_cases hq : p = k ∧ q = l
      · obtain ⟨rfl, rfl⟩ := hq
        rw [he] at h4'
        obtain rfl := Option.some.inj h4'
        rw [hw] at h5
        obtain rfl := Option.some.inj h5
        exact .inr rfl
      · exact .inl (h.all p q f v (by omega) h4' h5)

theorem addB_get {N : List BE} {k j : Nat} {e f : BE} {q : Nat} {w : GWay} (h : N[j]? = some f) : (addB N k e q w)[j]? = some f := by
  unfold addB
  split
  · exact h
  · rw [List.getElem?_append_left (List.getElem?_eq_some_iff.1 h).1]; exact h
theorem List.revRec {α : Type} {P : List α → Prop} (h0 : P []) (h1 : ∀ l x, P l → P (l ++ [x])) : ∀ l, P l := by
  intro l
  have : ∀ n (l : List α), l.length = n → P l := by
    intro n
    induction n with
    | zero => intro l h; rw [List.eq_nil_of_length_eq_zero h]; exact h0
    | succ n ih =>
      intro l h
      rcases List.eq_nil_or_concat l with rfl | ⟨l2, x, rfl⟩
      · simp at h
      · rw [List.concat_eq_append] at h ⊢
        exact h1 _ _ (ih l2 (by simpa using h))
  exact this _ l rfl
theorem BInv.chunk {t : GTables} {fr : Int} {N : List BE} {k : Nat} (h : BInv t fr N k 0) {e : BE} (he : N[k]? = some e) : ∀ (pre post : List GWay), waysAt t e.key = pre ++ post → BInv t fr (chunkB k e 0 pre N) k pre.length ∧ (∀ (j : Nat) (f : BE), N[j]? = some f → (chunkB k e 0 pre N)[j]? = some f) := by
  intro pre
  refine List.revRec (P := fun pre => ∀ post : List GWay, waysAt t e.key = pre ++ post → BInv t fr (chunkB k e 0 pre N) k pre.length ∧ (∀ (j : Nat) (f : BE), N[j]? = some f → (chunkB k e 0 pre N)[j]? = some f)) ?_ ?_ pre
  · intro post _; exact ⟨h, fun _ _ h => h⟩
  · intro pre w ih
    intro post hp
    obtain ⟨h1, h2⟩ := ih (w :: post) (by rw [hp]; simp)
    rw [chunkB_snoc, Nat.zero_add]
    refine ⟨?_, fun j f hj => addB_get (h2 j f hj)⟩
    rw [List.length_append]
    exact h1.add (h2 k e he) (by rw [hp]; simp)

theorem BInv.next {t : GTables} {fr : Int} {N : List BE} {k : Nat} (h : BInv t fr N k 0) (hk : k < N.length) : BInv t fr (nextB t N k) (k + 1) 0 ∧ ∀ (j : Nat) (f : BE), N[j]? = some f → (nextB t N k)[j]? = some f := by
  have he : N[k]? = some N[k] := List.getElem?_eq_getElem hk
  unfold nextB
  rw [he]
  simp only
  obtain ⟨h1, h2⟩ := h.chunk he (waysAt t N[k].key) [] (by simp)
  refine ⟨⟨h1.root, h1.nodup, h1.ent, ?_, h1.sorted, ?_, ?_⟩, h2⟩
  · intro j e h3 h4
    rcases h1.hi j e h3 h4 with h5 | ⟨h5, h6⟩
    · exact .inl (by omega)
    · exact .inl (by omega)
  · intro j e p q f w h3 h4 h5 h6 h7 h8
    rcases Nat.lt_or_ge p k with hp | hp
    · exact h1.least j e p q f w h3 h4 (.inl hp) h6 h7 h8
    · have hpk : p = k := by omega
      subst hpk
      rw [h2 p _ he] at h6
      obtain rfl := Option.some.inj h6
      exact h1.least j e p q _ w h3 h4 (.inr ⟨rfl, (List.getElem?_eq_some_iff.1 h7).1⟩) (h2 p _ he) h7 h8
  · intro p q f w h5 h6 h7
    rcases Nat.lt_or_ge p k with hp | hp
    · exact h1.all p q f w (.inl hp) h6 h7
    · have hpk : p = k := by omega
      subst hpk
      rw [h2 p _ he] at h6
      obtain rfl := Option.some.inj h6
      exact h1.all p q _ w (.inr ⟨rfl, (List.getElem?_eq_some_iff.1 h7).1⟩) (h2 p _ he) h7
theorem bfsB_step {t : GTables} {fr : Int} {k : Nat} (h : ¬ k < (bfsB t fr k).length) : bfsB t fr (k + 1) = bfsB t fr k := by
  rw [bfsB, nextB, List.getElem?_eq_none (by omega)]
theorem bfsB_inv (t : GTables) (fr : Int) : ∀ k, BInv t fr (bfsB t fr k) (min k (bfsB t fr k).length) 0
  | 0 => by simpa [bfsB] using BInv.start t fr
  | k + 1 => by
    have ih := bfsB_inv t fr k
    by_cases hk : k < (bfsB t fr k).length
    · rw [show min k (bfsB t fr k).length = k by omega] at ih
      obtain ⟨h1, h2⟩ := ih.next hk
      have hl : k + 1 ≤ (nextB t (bfsB t fr k) k).length := by
        have := (List.getElem?_eq_some_iff.1 (h2 k _ (List.getElem?_eq_getElem hk))).1
        omega
      rw [bfsB, show min (k + 1) (nextB t (bfsB t fr k) k).length = k + 1 by omega]
      exact h1
    · rw [bfsB_step hk, show min (k + 1) (bfsB t fr k).length = min k (bfsB t fr k).length by omega]
      exact ih

/-- What is met are things. -/
theorem BInv.bound {t : GTables} {fr : Int} {N : List BE} {k l : Nat} (h : BInv t fr N k l) (hF : fitsB t = true) (hfr : 0 ≤ fr ∧ fr < t.Things.length) : ∀ x ∈ keysB N, 0 ≤ x ∧ x < t.Things.length := by
  intro x hx
  obtain ⟨e, he, rfl⟩ := List.mem_map.1 hx
  obtain ⟨j, hj⟩ := List.getElem?_of_mem he
  induction j using Nat.strongRecOn generalizing e with
  | _ j ih =>
    by_cases h1 : 1 ≤ j
    · obtain ⟨q1, f, w, q2, q3, q4, q5⟩ := h.ent j e h1 hj
      have hm := List.mem_of_getElem? q2
      have hf := ih e.p q1 f hm (List.mem_map.2 ⟨f, hm, rfl⟩) q2
      have hw : w ∈ (thingAt t f.key).Ways := List.mem_of_getElem? q3
      have := fits_to hF (thingAt_mem hf) hw
      rw [q4] at this
      omega
    · have h0 : j = 0 := by omega
      subst h0
      rw [h.root] at hj
      obtain rfl := Option.some.inj hj
      exact hfr
theorem bfsB_bound {t : GTables} {fr : Int} (hF : fitsB t = true) (hfr : 0 ≤ fr ∧ fr < t.Things.length) (k : Nat) : ∀ x ∈ keysB (bfsB t fr k), 0 ≤ x ∧ x < t.Things.length := (bfsB_inv t fr k).bound hF hfr
theorem nodup_bound (n : Nat) : ∀ (l : List Int), l.Nodup → (∀ x ∈ l, 0 ≤ x ∧ x < n) → l.length ≤ n := by
  induction n with
  | zero =>
    intro l _ h
    cases l with
    | nil => simp
    | cons x l => have := h x List.mem_cons_self; omega
  | succ n ih =>
    intro l hn h
    have h1 := ih (l.filter (· ≠ (n : Int))) (hn.sublist List.filter_sublist) (fun x hx => by
      have h2 := h x (List.mem_filter.1 hx).1
      have h3 : x ≠ n := by simpa using (List.mem_filter.1 hx).2
      omega)
    have h2 : l.length ≤ (l.filter (· ≠ (n : Int))).length + 1 := by
      clear ih h h1
      induction l with
      | nil => simp
      | cons x l ih =>
        rw [List.nodup_cons] at hn
        by_cases hx : x = n
        · subst hx
          have : l.filter (· ≠ (n : Int)) = l := by
            rw [List.filter_eq_self]
            intro y hy
            have : y ≠ n := fun e => hn.1 (e ▸ hy)
            simpa using this
          rw [List.filter_cons_of_neg (by simp), this]
          simp
        · have := ih hn.2
          rw [List.filter_cons_of_pos (by simpa using hx)]
          simp only [List.length_cons]; omega
    omega
theorem BInv.len {t : GTables} {fr : Int} {N : List BE} {k l : Nat} (h : BInv t fr N k l) (hF : fitsB t = true) (hfr : 0 ≤ fr ∧ fr < t.Things.length) : N.length ≤ t.Things.length := by
  have := nodup_bound t.Things.length _ h.nodup (h.bound hF hfr)
  simpa [keysB] using this
theorem bfsB_len {t : GTables} {fr : Int} (hF : fitsB t = true) (hfr : 0 ≤ fr ∧ fr < t.Things.length) (k : Nat) : (bfsB t fr k).length ≤ t.Things.length :=
  (bfsB_inv t fr k).len hF hfr
def metB (t : GTables) (fr : Int) : List BE := bfsB t fr t.Things.length
theorem metB_inv {t : GTables} {fr : Int} (hF : fitsB t = true) (hfr : 0 ≤ fr ∧ fr < t.Things.length) : BInv t fr (metB t fr) (metB t fr).length 0 := by
  have h := bfsB_inv t fr t.Things.length
  have h2 := bfsB_len hF hfr t.Things.length
  unfold metB
  rwa [show min t.Things.length (bfsB t fr t.Things.length).length = (bfsB t fr t.Things.length).length by omega] at h
theorem bfsB_end {t : GTables} {fr : Int} (hF : fitsB t = true) (hfr : 0 ≤ fr ∧ fr < t.Things.length) {k : Nat} (hk : ¬ k < (bfsB t fr k).length) (hkn : k ≤ t.Things.length) : bfsB t fr k = metB t fr := by
  unfold metB
  have : ∀ d, bfsB t fr (k + d) = bfsB t fr k := by
    intro d
    induction d with
    | zero => rfl
    | succ d ih => rw [← Nat.add_assoc, bfsB_step (by rw [ih]; omega), ih]
  have := this (t.Things.length - k)
  rw [show k + (t.Things.length - k) = t.Things.length by omega] at this
  exact this.symm
end Go.Ab

set_option linter.unusedSimpArgs false
set_option linter.unusedVariables false
namespace Go.Ab
open Go.Proofs

/-! ### How far it is -/
def addS (l : List Int) (w : GWay) : List Int := if w.To ∈ l then l else l ++ [w.To]
def nextS (t : GTables) (now : List Int) : List Int := now.foldl (fun l x => (waysAt t x).foldl addS l) []
def nowS (t : GTables) (x : Int) : Nat → List Int
  | 0 => [x]
  | n + 1 => nextS t (nowS t x n)
theorem addS_mem {l : List Int} {w : GWay} {y : Int} : y ∈ addS l w ↔ y ∈ l ∨ y = w.To := by
  unfold addS
  split
  · rename_i h
    constructor
    · exact .inl
    · rintro (h1 | rfl)
      · exact h1
      · exact h
  · simp
theorem foldS_mem {y : Int} : ∀ (ws : List GWay) (l : List Int), y ∈ ws.foldl addS l ↔ y ∈ l ∨ ∃ w ∈ ws, w.To = y
  | [], l => by simp
  | w :: ws, l => by
    rw [List.foldl_cons, foldS_mem ws, addS_mem]
    simp only [List.mem_cons, exists_eq_or_imp]
    constructor
    · rintro ((h | h) | h)
      · exact .inl h
      · exact .inr (.inl h.symm)
      · exact .inr (.inr h)
    · rintro (h | h | h)
      · exact .inl (.inl h)
      · exact .inl (.inr h.symm)
      · exact .inr h
theorem nextS_mem' {t : GTables} {y : Int} : ∀ (now l : List Int), y ∈ now.foldl (fun l x => (waysAt t x).foldl addS l) l ↔ y ∈ l ∨ ∃ x ∈ now, ∃ w ∈ waysAt t x, w.To = y
  | [], l => by simp
  | x :: now, l => by
    rw [List.foldl_cons, nextS_mem' now, foldS_mem]
    simp only [List.mem_cons, exists_eq_or_imp, or_assoc]
theorem nextS_mem {t : GTables} {now : List Int} {y : Int} : y ∈ nextS t now ↔ ∃ x ∈ now, ∃ w ∈ waysAt t x, w.To = y := by
  unfold nextS
  rw [nextS_mem']; simp
theorem nowS_right {t : GTables} {x y : Int} {n : Nat} : y ∈ nowS t x (n + 1) ↔ ∃ z ∈ nowS t x n, ∃ w ∈ waysAt t z, w.To = y := nextS_mem
theorem nowS_left {t : GTables} {y : Int} : ∀ (n : Nat) (x : Int), y ∈ nowS t x (n + 1) ↔ ∃ w ∈ waysAt t x, y ∈ nowS t w.To n := by
  intro n
  induction n generalizing y with
  | zero =>
    intro x
    rw [nowS_right]
    simp only [nowS, List.mem_singleton, exists_eq_left]
    constructor
    · rintro ⟨w, h1, h2⟩; exact ⟨w, h1, h2.symm⟩
    · rintro ⟨w, h1, h2⟩; exact ⟨w, h1, h2.symm⟩
  | succ n ih =>
    intro x
    rw [nowS_right]
    constructor
    · rintro ⟨z, hz, w, hw, rfl⟩
      obtain ⟨v, hv, hz'⟩ := (ih x).1 hz
      exact ⟨v, hv, nowS_right.2 ⟨z, hz', w, hw, rfl⟩⟩
    · rintro ⟨v, hv, hy⟩
      obtain ⟨z, hz, w, hw, rfl⟩ := nowS_right.1 hy
      exact ⟨z, (ih x).2 ⟨v, hv, hz⟩, w, hw, rfl⟩
theorem nowS_add {t : GTables} {x y z : Int} {n : Nat} (h1 : y ∈ nowS t x n) : ∀ {m : Nat}, z ∈ nowS t y m → z ∈ nowS t x (n + m)
  | 0, h2 => by simp only [nowS, List.mem_singleton] at h2; subst h2; exact h1
  | m + 1, h2 => by
    obtain ⟨u, hu, w, hw, rfl⟩ := nowS_right.1 h2
    exact nowS_right.2 ⟨u, nowS_add h1 hu, w, hw, rfl⟩
/-- The least of the numbers up to a most at which it is reached; else the most and one. -/
def farS (t : GTables) (x y : Int) (most : Nat) : Nat := ((List.range (most + 1)).find? fun n => decide (y ∈ nowS t x n)).getD (most + 1)
theorem find_range {p : Nat → Bool} {k : Nat} {n : Nat} : (List.range k).find? p = some n ↔ n < k ∧ p n = true ∧ ∀ i < n, p i = false := by
  rw [List.find?_range_eq_some]
  constructor
  · rintro ⟨h1, h2, h3⟩
    exact ⟨by simpa using h2, h1, fun i hi => by simpa using h3 i hi⟩
  · rintro ⟨h1, h2, h3⟩
    exact ⟨h2, by simpa using h1, fun i hi => by simpa using h3 i hi⟩
theorem farS_eq {t : GTables} {x y : Int} {most n : Nat} (hn : n ≤ most) : farS t x y most = n ↔ y ∈ nowS t x n ∧ ∀ i < n, y ∉ nowS t x i := by
  unfold farS
  cases hf : (List.range (most + 1)).find? fun n => decide (y ∈ nowS t x n) with
  | some k =>
    obtain ⟨h1, h2, h3⟩ := find_range.1 hf
    simp only [Option.getD_some]
    simp at h2 h3
    constructor
    · rintro rfl; exact ⟨h2, h3⟩
    · rintro ⟨h4, h5⟩
      rcases Nat.lt_trichotomy k n with h | h | h
      · exact (h5 k h h2).elim
      · exact h
      · exact (h3 n h h4).elim
  | none =>
    rw [List.find?_eq_none] at hf
    simp only [Option.getD_none]
    constructor
    · intro h; omega
    · rintro ⟨h4, _⟩
      have := hf n (by simp; omega)
      simp at this
      exact (this h4).elim
theorem farS_gt {t : GTables} {x y : Int} {most : Nat} (h : ∀ n ≤ most, y ∉ nowS t x n) : farS t x y most = most + 1 := by
  unfold farS
  have : (List.range (most + 1)).find? (fun n => decide (y ∈ nowS t x n)) = none := by
    rw [List.find?_eq_none]
    intro n hn
    simp at hn
    simp [h n (by omega)]
  rw [this]; rfl

section
variable {t : GTables} {fr : Int} {N : List BE}

theorem BInv.entry (h : BInv t fr N N.length 0) {j : Nat} {e : BE} (hj : N[j]? = some e) : j = 0 ∨ 1 ≤ j := by omega
theorem BInv.far_le {k l : Nat} (h : BInv t fr N k l) : ∀ (j : Nat) (e : BE), N[j]? = some e → 0 ≤ e.far ∧ e.far ≤ j := by
  intro j
  induction j using Nat.strongRecOn with
  | _ j ih =>
    intro e hj
    by_cases h1 : 1 ≤ j
    · obtain ⟨q1, f, w, q2, q3, q4, q5, q6, q7⟩ := h.ent j e h1 hj
      have := ih e.p q1 f q2
      omega
    · have : j = 0 := by omega
      subst this
      rw [h.root] at hj
      obtain rfl := Option.some.inj hj
      exact ⟨Int.le_refl _, Int.le_refl _⟩
theorem BInv.far_mono (h : BInv t fr N N.length 0) : ∀ (j i : Nat) (e f : BE), i ≤ j → N[i]? = some e → N[j]? = some f → e.far ≤ f.far := by
  intro j
  induction j using Nat.strongRecOn with
  | _ j ih =>
    intro i e f hij hi hj
    by_cases h1 : 1 ≤ i
    · by_cases hne : i = j
      · subst hne; rw [hi] at hj; obtain rfl := Option.some.inj hj; exact Int.le_refl _
      · obtain ⟨a1, f1, w1, a2, a3, a4, a5, a6, a7⟩ := h.ent i e h1 hi
        obtain ⟨b1, f2, w2, b2, b3, b4, b5, b6, b7⟩ := h.ent j f (by omega) hj
        have hs := h.sorted i j e f h1 (by omega) hi hj
        have := ih f.p b1 e.p f1 f2 (by omega) a2 b2
        omega
    · have : i = 0 := by omega
      subst this
      rw [h.root] at hi
      obtain rfl := Option.some.inj hi
      exact (h.far_le j f hj).1
theorem BInv.walk (h : BInv t fr N N.length 0) : ∀ (j : Nat) (e : BE), N[j]? = some e → e.key ∈ nowS t fr e.far.toNat := by
  intro j
  induction j using Nat.strongRecOn with
  | _ j ih =>
    intro e hj
    by_cases h1 : 1 ≤ j
    · obtain ⟨q1, f, w, q2, q3, q4, q5, q6, q7⟩ := h.ent j e h1 hj
      have h2 := ih e.p q1 f q2
      have h3 := (h.far_le e.p f q2).1
      rw [q6, show (f.far + 1).toNat = f.far.toNat + 1 by omega]
      exact nowS_right.2 ⟨f.key, h2, w, List.mem_of_getElem? q3, q4⟩
    · have : j = 0 := by omega
      subst this
      rw [h.root] at hj
      obtain rfl := Option.some.inj hj
      simp [nowS]
theorem BInv.near (h : BInv t fr N N.length 0) : ∀ (n : Nat) (y : Int), y ∈ nowS t fr n → ∃ (j : Nat) (e : BE), N[j]? = some e ∧ e.key = y ∧ e.far ≤ n := by
  intro n
  induction n with
  | zero =>
    intro y hy
    simp only [nowS, List.mem_singleton] at hy
    subst hy
    exact ⟨0, _, h.root, rfl, Int.le_refl _⟩
  | succ n ih =>
    intro y hy
    obtain ⟨z, hz, w, hw, rfl⟩ := nowS_right.1 hy
    obtain ⟨p, f, hp, rfl, hf⟩ := ih z hz
    obtain ⟨q, hq⟩ := List.getElem?_of_mem hw
    have hpl := (List.getElem?_eq_some_iff.1 hp).1
    have hin := h.all p q f w (.inl hpl) hp hq
    obtain ⟨e, he, hek⟩ := List.mem_map.1 hin
    obtain ⟨j, hj⟩ := List.getElem?_of_mem he
    refine ⟨j, e, hj, hek, ?_⟩
    by_cases h1 : 1 ≤ j
    · have hl := h.least j e p q f w h1 hj (.inl hpl) hp hq hek.symm
      obtain ⟨q1, f1, w1, q2, q3, q4, q5, q6, q7⟩ := h.ent j e h1 hj
      have := h.far_mono p e.p f1 f (by omega) q2 hp
      omega
    · have : j = 0 := by omega
      subst this
      rw [h.root] at hj
      obtain rfl := Option.some.inj hj
      simp only; omega
theorem BInv.dist (h : BInv t fr N N.length 0) {j : Nat} {e : BE} (hj : N[j]? = some e) : e.key ∈ nowS t fr e.far.toNat ∧ ∀ i < e.far.toNat, e.key ∉ nowS t fr i := by
  refine ⟨h.walk j e hj, fun i hi hm => ?_⟩
  obtain ⟨k, f, hk, hkk, hf⟩ := h.near i e.key hm
  obtain rfl := getB_inj h.nodup hk hj hkk
  rw [hk] at hj
  obtain rfl := Option.some.inj hj
  omega

/-! ### The way -/
/-- Ancestors. -/
def ancB (N : List BE) (j : Nat) : Nat → Nat
  | 0 => j
  | i + 1 => match N[ancB N j i]? with
    | some e => e.p
    | none => 0

theorem BInv.anc (h : BInv t fr N N.length 0) {j : Nat} {e : BE} (hj : N[j]? = some e) : ∀ i : Nat, i ≤ e.far.toNat → ∃ f : BE, N[ancB N j i]? = some f ∧ f.far = e.far - i := by
  intro i
  induction i with
  | zero => intro _; exact ⟨e, hj, by simp⟩
  | succ i ih =>
    intro hi
    obtain ⟨f, hf, hff⟩ := ih (by omega)
    have h1 : 1 ≤ ancB N j i := by
      have := (h.far_le _ f hf).2
      have := (h.far_le j e hj).1
      omega
    obtain ⟨q1, g, w, q2, q3, q4, q5, q6, q7⟩ := h.ent _ f h1 hf
    refine ⟨g, ?_, by omega⟩
    rw [ancB, hf]
    exact q2

/-- No walk of the same length leads past what was met later. -/
theorem BInv.late (h : BInv t fr N N.length 0) {j : Nat} {e : BE} (hj : N[j]? = some e) : ∀ (L u : Nat) (f : BE), N[u]? = some f → (L : Int) + f.far = e.far → 1 ≤ f.far → u < ancB N j L → e.key ∉ nowS t f.key L := by
  intro L
  induction L with
  | zero =>
    intro u f hu hf h1 hlt hm
    simp only [nowS, List.mem_singleton] at hm
    have := getB_inj h.nodup hj hu hm
    subst this
    simp [ancB] at hlt
  | succ L ih =>
    intro u f hu hf h1 hlt hm
    obtain ⟨w, hw, hm'⟩ := (nowS_left L f.key).1 hm
    obtain ⟨q, hq⟩ := List.getElem?_of_mem hw
    have hul := (List.getElem?_eq_some_iff.1 hu).1
    obtain ⟨e', he', hek⟩ := List.mem_map.1 (h.all u q f w (.inl hul) hu hq)
    obtain ⟨u', hu'⟩ := List.getElem?_of_mem he'
    have he0 := (h.far_le j e hj).1
    -- how far u' is
    have hw1 : e'.key ∈ nowS t fr (f.far.toNat + 1) := nowS_right.2 ⟨f.key, h.walk u f hu, w, hw, hek.symm⟩
    have hup : e'.far ≤ f.far + 1 := by
      obtain ⟨k, g, hk, hkk, hg⟩ := h.near _ _ hw1
      obtain rfl := getB_inj h.nodup hk hu' hkk
      rw [hk] at hu'
      obtain rfl := Option.some.inj hu'
      omega
    have hlow : f.far + 1 ≤ e'.far := by
      have hm2 : e.key ∈ nowS t fr (e'.far.toNat + L) := nowS_add (h.walk u' e' hu') (by rw [hek]; exact hm')
      have h3 := (h.dist hj).2 (e'.far.toNat + L)
      have h4 := (h.far_le u' e' hu').1
      by_cases h5 : e'.far.toNat + L < e.far.toNat
      · exact (h3 h5 hm2).elim
      · omega
    have hu1 : 1 ≤ u' := by
      have := (h.far_le u' e' hu').2
      omega
    have hl := h.least u' e' u q f w hu1 hu' (.inl hul) hu hq hek.symm
    -- the ancestor at that depth
    obtain ⟨g, hg, hgf⟩ := h.anc hj L (by omega)
    have hv1 : 1 ≤ ancB N j L := by
      have := (h.far_le _ g hg).2
      omega
    have hgp : g.p = ancB N j (L + 1) := by rw [ancB, hg]
    refine ih u' e' hu' (by omega) (by omega) ?_ (by rw [hek]; exact hm')
    rcases Nat.lt_trichotomy u' (ancB N j L) with h6 | h6 | h6
    · exact h6
    · exfalso
      rw [← h6, hu'] at hg
      obtain rfl := Option.some.inj hg
      omega
    · exfalso
      have := h.sorted _ _ g e' hv1 h6 hg hu'
      omega

/-- The first way that leads nearer, and so on. -/
def dirsS (t : GTables) (to : Int) : Nat → Int → List Int
  | 0, _ => []
  | n + 1, x => match (waysAt t x).find? fun w => decide (farS t w.To to n = n) with
    | some w => w.Dir :: dirsS t to n w.To
    | none => []

theorem find_first {α : Type} {p : α → Bool} {l : List α} {i : Nat} {x : α} (hi : l[i]? = some x) (hp : p x = true) (hb : ∀ (k : Nat) (y : α), k < i → l[k]? = some y → p y = false) : l.find? p = some x := by
  induction l generalizing i with
  | nil => simp at hi
  | cons z l ih =>
    cases i with
    | zero =>
      simp at hi; subst hi
      rw [List.find?_cons, hp]
    | succ i =>
      rw [List.find?_cons, hb 0 z (by omega) rfl]
      exact ih (i := i) (by simpa using hi) (fun k y hk hy => hb (k + 1) y (by omega) (by simpa using hy))

theorem dirsS_step {t : GTables} {to : Int} {n q : Nat} {x : Int} {w : GWay} (h1 : (waysAt t x)[q]? = some w) (h2 : farS t w.To to n = n) (h3 : ∀ (k : Nat) (v : GWay), k < q → (waysAt t x)[k]? = some v → farS t v.To to n ≠ n) : dirsS t to (n + 1) x = w.Dir :: dirsS t to n w.To := by
  have : (waysAt t x).find? (fun w => decide (farS t w.To to n = n)) = some w := find_first h1 (by simpa using h2) (fun k y hk hy => by simpa using h3 k y hk hy)
  rw [dirsS, this]

theorem BInv.down (h : BInv t fr N N.length 0) {j : Nat} {e : BE} (hj : N[j]? = some e) : ∀ (L : Nat) (f : BE), L ≤ e.far.toNat → N[ancB N j L]? = some f → e.key ∈ nowS t f.key L := by
  intro L
  induction L with
  | zero =>
    intro f _ hf
    simp only [ancB] at hf
    rw [hj] at hf
    obtain rfl := Option.some.inj hf
    simp [nowS]
  | succ L ih =>
    intro f hL hf
    obtain ⟨g, hg, hgf⟩ := h.anc hj L (by omega)
    have hv1 : 1 ≤ ancB N j L := by
      have := (h.far_le _ g hg).2
      omega
    obtain ⟨q1, f1, w, q2, q3, q4, q5, q6, q7⟩ := h.ent _ g hv1 hg
    have hgp : g.p = ancB N j (L + 1) := by rw [ancB, hg]
    rw [← hgp, q2] at hf
    obtain rfl := Option.some.inj hf
    exact (nowS_left L f1.key).2 ⟨w, List.mem_of_getElem? q3, by rw [q4]; exact ih g (by omega) hg⟩

theorem BInv.step (h : BInv t fr N N.length 0) {j : Nat} {e : BE} (hj : N[j]? = some e) (L : Nat) (hL : L + 1 ≤ e.far.toNat) {f1 g : BE} (hf : N[ancB N j (L + 1)]? = some f1) (hg : N[ancB N j L]? = some g) :
    ∃ (q : Nat) (w : GWay), (waysAt t f1.key)[q]? = some w ∧ w.To = g.key ∧ w.Dir = g.dir ∧ g.par = f1.key ∧ farS t w.To e.key L = L ∧ ∀ (k : Nat) (v : GWay), k < q → (waysAt t f1.key)[k]? = some v → farS t v.To e.key L ≠ L := by
  obtain ⟨g', hg', hgf⟩ := h.anc hj L (by omega)
  rw [hg] at hg'
  obtain rfl := Option.some.inj hg'
  have hv1 : 1 ≤ ancB N j L := by
    have := (h.far_le _ g hg).2
    omega
  obtain ⟨q1, f1', w, q2, q3, q4, q5, q6, q7⟩ := h.ent _ g hv1 hg
  have hgp : g.p = ancB N j (L + 1) := by rw [ancB, hg]
  have hf' := hf
  rw [← hgp, q2] at hf'
  obtain rfl := Option.some.inj hf'
  have he0 := (h.far_le j e hj).1
  have hfar : f1'.far = e.far - (L + 1 : Nat) := by omega
  refine ⟨g.q, w, q3, q4, q5, q7, ?_, ?_⟩
  · rw [farS_eq (Nat.le_refl _), q4]
    refine ⟨h.down hj L g (by omega) hg, fun i hi hm => ?_⟩
    have hm2 := nowS_add (h.walk _ g hg) hm
    exact (h.dist hj).2 _ (by omega) hm2
  · intro k v hk hv
    rw [Ne, farS_eq (Nat.le_refl _)]
    rintro ⟨hm, _⟩
    have hpl : g.p < N.length := (List.getElem?_eq_some_iff.1 q2).1
    obtain ⟨e', he', hek⟩ := List.mem_map.1 (h.all g.p k f1' v (.inl hpl) q2 hv)
    obtain ⟨u, hu⟩ := List.getElem?_of_mem he'
    have hw1 : e'.key ∈ nowS t fr (f1'.far.toNat + 1) := nowS_right.2 ⟨f1'.key, h.walk _ f1' q2, v, List.mem_of_getElem? hv, hek.symm⟩
    have hup : e'.far ≤ f1'.far + 1 := by
      obtain ⟨k', g', hk', hkk, hg'⟩ := h.near _ _ hw1
      obtain rfl := getB_inj h.nodup hk' hu hkk
      rw [hk'] at hu
      obtain rfl := Option.some.inj hu
      have := (h.far_le _ f1' q2).1
      omega
    have hlow : f1'.far + 1 ≤ e'.far := by
      have hm2 : e.key ∈ nowS t fr (e'.far.toNat + L) := nowS_add (h.walk u e' hu) (by rw [hek]; exact hm)
      have h3 := (h.dist hj).2 (e'.far.toNat + L)
      have h4 := (h.far_le u e' hu).1
      by_cases h5 : e'.far.toNat + L < e.far.toNat
      · exact (h3 h5 hm2).elim
      · omega
    have hu1 : 1 ≤ u := by
      have := (h.far_le u e' hu).2
      have := (h.far_le _ f1' q2).1
      omega
    have hl := h.least u e' g.p k f1' v hu1 hu (.inl hpl) q2 hv hek.symm
    have hlt : u < ancB N j L := by
      rcases Nat.lt_trichotomy u (ancB N j L) with h6 | h6 | h6
      · exact h6
      · exfalso
        rw [← h6, hu] at hg
        obtain rfl := Option.some.inj hg
        omega
      · exfalso
        have := h.sorted _ _ g e' hv1 h6 hg hu
        omega
    exact h.late hj L u e' hu (by omega) (by have := (h.far_le _ f1' q2).1; omega) hlt (by rw [hek]; exact hm)
end
end Go.Ab

set_option linter.unusedSimpArgs false
set_option linter.unusedVariables false
namespace Go.Ab
open Go.Proofs

def stepOf (e : BE) : Gstep := ⟨e.far, e.par, e.dir⟩
def metM (N : List BE) : List (Int × Gstep) := N.map fun e => (e.key, stepOf e)
theorem metM_none {N : List BE} {y : Int} : (metM N).lookup y = none ↔ y ∉ keysB N := by
  rw [List.lookup_eq_none_iff]
  simp only [metM, keysB, List.mem_map, not_exists, not_and]
  constructor
  · intro h e he hk
    have := h _ ⟨e, he, rfl⟩
    simp [hk] at this
  · rintro h p ⟨e, he, rfl⟩
    simpa using fun hk => h e he hk.symm
theorem metM_some {N : List BE} (hn : (keysB N).Nodup) {j : Nat} {e : BE} (hj : N[j]? = some e) : (metM N).lookup e.key = some (stepOf e) := by
  induction N generalizing j with
  | nil => simp at hj
  | cons f N ih =>
    simp only [metM, List.map_cons, List.lookup_cons]
    by_cases hk : e.key = f.key
    · have : (0 : Nat) = j := getB_inj hn (e := f) (f := e) rfl hj hk.symm
      subst this
      simp at hj
      subst hj
      simp
    · have hb : (e.key == f.key) = false := by simpa using hk
      rw [hb]
      cases j with
      | zero => simp at hj; subst hj; exact (hk rfl).elim
      | succ j =>
        simp only [keysB, List.map_cons, List.nodup_cons] at hn
        exact ih hn.2 (by simpa using hj)
theorem metM_add {N : List BE} {k q : Nat} {e : BE} {w : GWay} (h : w.To ∉ keysB N) : lput (metM N) w.To ⟨e.far + 1, e.key, w.Dir⟩ = metM (addB N k e q w) := by
  rw [lput_new _ _ _ (metM_none.2 h), addB, if_neg h]
  simp [metM, stepOf]
theorem metM_old {N : List BE} {k q : Nat} {e : BE} {w : GWay} (h : w.To ∈ keysB N) : addB N k e q w = N := by rw [addB, if_pos h]

/-- A function that hands back a resource of its own: what else it made is given up. -/
def RPost (P : Program) (rs : List ResultVar) (R : AE → Heap → Prop) (ts hs : List Nat) (x : AX) (s : St) : Prop :=
  match x with
  | .normal | .ret => (s.pick ts hs).on (keys (s.pick ts hs).L) = true ∧ FPost P rs R .ret (s.pick ts hs)
  | _ => False
theorem AWP.rpost {P : Program} {n : Nat} {s : St} {c : Code} {rs : List ResultVar} {R : AE → Heap → Prop} (ts hs : List Nat) (ht : ts.all (fun t => decide (t < n)) = true) (hh : hs.Nodup) (h : AWP P n c s (RPost P rs R ts hs)) : AWP P n c s (FPost P rs R) := by
  intro fo m a w hr g
  refine Code.wpIn_mono (fun e a1 w1 hp => ?_) (h fo m a w hr g)
  obtain ⟨ms, m', x, s', hmk, hq, g', he, st⟩ := hp
  have key : ∀ y, (s'.pick ts hs).on (keys (s'.pick ts hs).L) = true ∧ FPost P rs R .ret (s'.pick ts hs) → (∀ m2, Exits w1 (OO (fo.mark ms) m2) m2 e y) → FPost P rs R .ret (s'.pick ts hs) = FPost P rs R y (s'.pick ts hs) → Post fo n m w (FPost P rs R) e a1 w1 := by
    intro y h1 h2 h3
    obtain ⟨m2, g2, st2⟩ := Wk.pick ts hs ht hh h1.1 (fo.mark ms) m' a1 w1 g'
    exact ⟨ms, m2, y, s'.pick ts hs, hmk, h3 ▸ h1.2, g2, h2 m2, st.trans st2⟩
  cases x with
  | normal =>
    refine key .normal hq (fun m2 => ?_) rfl
    cases e <;> simp [Exits] at he ⊢
  | ret =>
    refine key .ret hq (fun m2 => ?_) rfl
    cases e <;> simp [Exits] at he ⊢
  | _ => exact hq.elim
theorem ACalls.runR {P : Program} {L : Heap} (ts hs : List Nat) {f : FuncId} {args : List V} {R : AE → Heap → Prop} {fn : Func} {c : Code} (hf : P.funcs[f]? = some fn) (hb : fn.body = some c) (hn : args.length ≤ fn.ntmps ∧ ts.all (fun t => decide (t < fn.ntmps)) = true ∧ hs.Nodup)
    (h : codeK P fn.ntmps c ⟨argFrame 0 args, L⟩ (kontK P fn.ntmps (RPost P fn.results.toList R ts hs) [])) : ACalls P f args L R :=
  ACalls.of_AWP hf hb hn.1 (AWP.rpost ts hs hn.2.1 hn.2.2 (codeK_sound _ _ _ h))
attribute [simp] RPost

set_option maxRecDepth 20000 in
theorem steps_ok (t : GTables) (ht : t.wf) (hF : fitsB t = true) (fr : Int) (hfr : 0 ≤ fr ∧ fr < t.Things.length) :
    ACalls Try.prog 46 [.agg (t.enc.map .d), .d (.v (.int .i64 fr))] [] (fun r L' => r = .ret (.rv 11) ∧ L' = [(11, .mp (encMA Gstep.enc (metM (metB t fr))))]) := by
  have hn := fits_things hF
  have hz : Gstep.enc ⟨0, 0, 0⟩ = [D.v (.int .i64 0), D.v (.int .i64 0), D.v (.int .i64 0)] := rfl
  refine ACalls.runR [4] [11] Try.func46 rfl (by simp [Try.f46]) ?_
  simp [Try.f46, -condC_bool]
  intro bs
  have hm0 : mput [] (.int .i64 fr) true [D.v (.int .i64 0), D.v (.int .i64 0), D.v (.int .i64 0)] = encMA Gstep.enc (metM (bfsB t fr 0)) := rfl
  rw [hm0]
  refine AWP.loopS [2, 5, 6] t.Things.length (fun _ => []) (fun i => [(16, .row 3 1 (dd (encI ((keysB (bfsB t fr i)).drop i)))), (11, .mp (encMA Gstep.enc (metM (bfsB t fr i))))]) (fun i => i ≤ (bfsB t fr i).length) (by rfl) (by simp [bfsB, keysB, dd, encI]) ?_
  intro i hi hH
  have hinv := bfsB_inv t fr i
  have hlen := bfsB_len hF hfr i
  rw [Nat.min_eq_left hH] at hinv
  have hkl : (keysB (bfsB t fr i)).length = (bfsB t fr i).length := by simp [keysB]
  by_cases hlt : i < (bfsB t fr i).length
  · have he : (bfsB t fr i)[i]? = some (bfsB t fr i)[i] := List.getElem?_eq_getElem hlt
    have hnx : bfsB t fr (i + 1) = chunkB i (bfsB t fr i)[i] 0 (waysAt t (bfsB t fr i)[i].key) (bfsB t fr i) := by
      rw [bfsB, nextB, he]
    have hch := fun pre post h => hinv.chunk he pre post h
    have hkb : 0 ≤ (bfsB t fr i)[i].key ∧ (bfsB t fr i)[i].key < t.Things.length := bfsB_bound hF hfr i _ (List.mem_map.2 ⟨_, List.getElem_mem _, rfl⟩)
    generalize (bfsB t fr i)[i] = e at *
    generalize bfsB t fr i = N at *
    have hdr : (keysB N).drop i = e.key :: (keysB N).drop (i + 1) := by
      rw [List.drop_eq_getElem_cons (by omega)]
      congr 1
      have : (keysB N)[i]? = some e.key := by simp [keysB, he]
      rw [List.getElem?_eq_getElem (by omega), Option.some.injEq] at this
      exact this
    have hge := thingAt_elem hkb
    have hget := thingAt_get hkb
    have hkb2 : 0 ≤ e.key ∧ e.key.toNat < t.Things.length := by omega
    have hwl := fits_ways12 hF (thingAt_mem hkb)
    simp [-condC_bool, hdr]
    refine AWP.regionD [] Try.mixed (by kernel_rfl) (by rfl) ?_
    simp [-condC_bool, hkb2, hge, hget]
    have hws : (thingAt t e.key).Ways = waysAt t e.key := rfl
    rw [hws] at hwl ⊢
    generalize hW : waysAt t e.key = ws at *
    refine AWP.loopL [2, 5, 6, 29, 30, 31] ws (fun pre => [(31, .d (.v (.int .i64 pre.length)))]) (fun pre => [(16, .row 3 1 (dd (encI ((keysB (chunkB i e 0 pre N)).drop i)))), (11, .mp (encMA Gstep.enc (metM (chunkB i e 0 pre N))))]) (fun _ => True) (by rfl) (by omega) (by simp [chunkB, hdr]) ?_ ?_
    · rintro pre w post hsp - hlt2 hge2 a5
      obtain ⟨hi2, hk2⟩ := hch pre (w :: post) (by rw [hsp])
      have heC := hk2 i e he
      have hsn := chunkB_snoc i e pre w 0 N
      rw [Nat.zero_add] at hsn
      have hwT := fits_to hF (thingAt_mem hkb) (w := w) (by rw [hws, hsp]; simp)
      clear hsp hch hk2
      generalize chunkB i e 0 pre N = C at *
      have hCd : (keysB C).drop i = e.key :: (keysB C).drop (i + 1) := by
        have hl : i < (keysB C).length := by have := (List.getElem?_eq_some_iff.1 heC).1; simpa [keysB] using this
        rw [List.drop_eq_getElem_cons hl]
        congr 1
        have : (keysB C)[i]? = some e.key := by simp [keysB, heC]
        rw [List.getElem?_eq_getElem hl, Option.some.injEq] at this
        exact this
      have hlk := metM_some hi2.nodup heC
      simp [-condC_bool, hlt2, hge2]
      try intro (_ : Nat → Nat)
      by_cases hin : w.To ∈ keysB C
      · obtain ⟨g, hg, hgk⟩ := List.mem_map.1 hin
        obtain ⟨jj, hjj⟩ := List.getElem?_of_mem hg
        have hlw := metM_some hi2.nodup hjj
        rw [hgk] at hlw
        have hold := metM_old (k := i) (q := pre.length) (e := e) hin
        simp [-condC_bool, hlw, hsn, hold]
        exact a5
      · have hlw := metM_none.2 hin
        have hadd := metM_add (k := i) (q := pre.length) (e := e) hin
        have hfl : inR .i64 (e.far + 1) := by
          have h9 := hi2.far_le i e heC
          rw [inR_i64]
          omega
        have hCl := hi2.len hF hfr
        have hck : (keysB C).length = C.length := by simp [keysB]
        have hil := (List.getElem?_eq_some_iff.1 heC).1
        have hka : keysB (addB C i e pre.length w) = keysB C ++ [w.To] := by rw [addB, if_neg hin]; simp [keysB]
        have hput := mput_encMA Gstep.enc (metM C) w.To ⟨e.far + 1, e.key, w.Dir⟩
        rw [hadd] at hput
        simp [-condC_bool, hlw, hsn]
        try intro (_ : Nat → Nat)
        refine AWP.regionM0 [some (0, 0), some (0, 0), some (0, 0), some (0, 0), some (0, 0), some (0, 0), some (0, 0), some (0, 0), some (0, 0), some (0, 0), some (0, 0), some (0, 0), some (0, 0), some (0, 0), some (0, 0), some (0, 0), none] [] Try.mixed (by kernel_rfl) ?_
        simp [-condC_bool, hCd, hlk, stepOf, hfl]
        refine ⟨by omega, a5, ?_, ?_⟩
        · rw [hsn, hka, List.drop_append_of_le_length (by omega), hCd]; rfl
        · rw [hsn]; exact hput
    · intro _
      obtain ⟨hi2, hk2⟩ := hch ws [] (by simp)
      have heC := hk2 i e he
      have hCl := hi2.len hF hfr
      simp [-condC_bool, hnx]
      generalize chunkB i e 0 ws N = C at *
      have hil := (List.getElem?_eq_some_iff.1 heC).1
      have hck : (keysB C).length = C.length := by simp [keysB]
      have hCd : (keysB C).drop i = e.key :: (keysB C).drop (i + 1) := by
        have hl : i < (keysB C).length := by omega
        rw [List.drop_eq_getElem_cons hl]
        congr 1
        have : (keysB C)[i]? = some e.key := by simp [keysB, heC]
        rw [List.getElem?_eq_getElem hl, Option.some.injEq] at this
        exact this
      have htk : List.take ((keysB C).length - i) ((keysB C).drop i) = e.key :: (keysB C).drop (i + 1) := by rw [List.take_of_length_le (by simp), hCd]
      have hdc : dd (encI (e.key :: (keysB C).drop (i + 1))) = [.d (.v (.int .i64 e.key))] :: dd (encI ((keysB C).drop (i + 1))) := rfl
      rw [htk, hdc]
      refine ⟨by omega, ?_, by omega, rfl, by omega⟩
      intro x hx
      exact List.all_eq_true.1 (on_dd _ _) x hx
  · have hdr : (keysB (bfsB t fr i)).drop i = [] := by rw [List.drop_eq_nil_iff]; omega
    have hend := bfsB_end hF hfr hlt hi
    simp [-condC_bool, hdr]
    rw [hend]
end Go.Ab

set_option linter.unusedSimpArgs false
set_option linter.unusedVariables false
namespace Go.Ab
open Go.Proofs

/-- A strings.Builder within a box: its cells are those at off and behind it. -/
structure BldAt (cs : List V) (h off g : Nat) : Prop where
  len : off + 1 < cs.length
  self : cs[off]? = some (.d (.v (.pointer none))) ∨ cs[off]? = some (.bp h off)
  buf : cs[off + 1]? = some (.rv g)

theorem copyCheck_ok {h g off b ty : Nat} {cs : List V} {r : Res} (hg : h ≠ g) (hlen : off < cs.length) (hself : cs[off]? = some (.d (.v (.pointer none))) ∨ cs[off]? = some (.bp h off)) (hlies : liesAt Try.prog Try.prog.depth ty (cs.length / Try.prog.cellsOf ty) off 83 1 = true) :
    ACalls Try.prog 85 [.bp h off] [(h, .box b ty cs), (g, r)] (fun q L' => q = .ret (.tup []) ∧ L' = [(h, .box b ty (putAt off [.bp h off] cs)), (g, r)]) := by
  refine ACalls.run Try.func85 rfl (by simp [Try.f85]) ?_; simp [Try.f85]
  refine ⟨hlen, ?_⟩
  have hL : List.lookup h [(h, Res.box b ty cs), (g, r)] = some (.box b ty cs) := by simp
  rcases hself with h0 | h0
  · simp [h0]
    refine AOps.byT (OpT.ptrNil rfl tyPtr_80 rfl rfl) rfl (by simp) rfl ?_
    simp
    refine AOps.byT (OpT.toUns (i := (Try.prog.info? 83).get!) rfl tyPtr_80 (by kernel_rfl) (by kernel_rfl) (by decide +kernel) rfl hL hlen) rfl (by simp) rfl ?_
    simp
    refine AOps.byT (OpT.noEscape (f := 106) rfl rfl Try.func106 (by kernel_rfl) (by kernel_rfl) (by kernel_rfl) (by kernel_rfl)) rfl (by simp) rfl ?_
    simp
    refine AOps.byT (OpT.ofUns (i := (Try.prog.info? 83).get!) rfl (by kernel_rfl) tyPtr_80 (by kernel_rfl) rfl hL hlies) rfl (by simp) rfl ?_
    simp [Ne.symm hg]
    omega
  · simp [h0]
    refine AOps.byT (OpT.ptrBp rfl tyPtr_80 rfl rfl) rfl (by simp) rfl ?_
    have h0' : cs[off]'hlen = .bp h off := (List.getElem?_eq_some_iff.1 h0).2
    simp [h0, h0', hlen]
    refine AOps.byT (OpT.ptrSame (i := (Try.prog.info? 83).get!) rfl tyPtr_80 (by kernel_rfl) rfl rfl) rfl (by simp) rfl ?_
    simp
    rw [← List.getElem?_eq_some_iff.1 h0 |>.2]
    simp

@[simp] theorem encU_append (a b : List UInt8) : encU a ++ encU b = encU (a ++ b) := by simp [encU]
theorem srcU (s : ByteArray) : (s.data.toList.map fun b => [D.v (.int .u8 (b.toNat : Nat))]) = encU s.data.toList := rfl
@[simp] theorem encU_length (l : List UInt8) : (encU l).length = l.length := by simp [encU]

/-- The bytes of a string as a row. -/
def rowU (b : ByteArray) : List (List V) := dd (encU b.data.toList)
theorem rowU_nil : rowU ⟨#[]⟩ = [] := rfl
@[simp] theorem rowU_kill (h : Nat) (b : ByteArray) : (rowU b).map (V.kills h) = rowU b := by simp [rowU]
@[simp] theorem rowU_on (ks : List Nat) (b : ByteArray) : (rowU b).all (V.ons ks) = true := by simp [rowU]
theorem rowU_on' (ks : List Nat) (b : ByteArray) : ∀ x ∈ rowU b, V.ons ks x = true := List.all_eq_true.1 (rowU_on ks b)

/-- Writing: the builder lies in a box, its bytes in a row; nothing else in the box refers to the row. -/
theorem writeString_ok {h off g b ty : Nat} {cs : List V} {bs : ByteArray} (s : ByteArray) (hg : h ≠ g ∧ h ≠ 14 ∧ g ≠ 14) (hlen : off + 1 < cs.length) (hself : cs[off]? = some (.d (.v (.pointer none))) ∨ cs[off]? = some (.bp h off)) (hbuf : cs[off + 1]? = some (.rv g))
    (hkill : putAt (off + 1) [.rv g] (V.kills g (putAt off [.bp h off] cs)) = putAt off [.bp h off] cs) (hon : V.ons [h, g] cs = true)
    (hlies : liesAt Try.prog Try.prog.depth ty (cs.length / Try.prog.cellsOf ty) off 83 1 = true) (hsz : bs.size + s.size ≤ 140737488355328) :
    ACalls Try.prog 52 [.bp h off, .d (.v (.string s))] [(h, .box (b + 1) ty cs), (g, .row 5 1 (dd (encU bs.data.toList)))]
      (fun r L' => r = .ret (.tup [.d (.v (.int .i64 s.size)), .d (.v .nilIface)]) ∧ L' = [(h, .box (b + 1) ty (putAt off [.bp h off] cs)), (g, .row 5 1 (dd (encU (bs ++ s).data.toList)))]) := by
  have hgh : (g == h) = false := by simpa using Ne.symm hg.1
  refine ACalls.run Try.func52 rfl (by simp [Try.f52]) ?_; simp [Try.f52]
  refine AOps.effD [h, g] rfl (copyCheck_ok (b := b + 1) (r := .row 5 1 (dd (encU bs.data.toList))) hg.1 (by omega) hself hlies) (by simp) rfl (by simp) rfl (by kernel_rfl) (by simp) (by simp [hon, hg.1]) (by simp) (by simp) (by simp) ?_
  have hp1 : (putAt off [.bp h off] cs)[off + 1]? = some (.rv g) := by
    have e : (List.take off cs ++ [V.bp h off]).length = off + 1 := by simp; omega
    rw [← hbuf, putAt, List.getElem?_append_right (by omega), e, Nat.sub_self, List.getElem?_drop]
    simp
  have hpl : (putAt off [.bp h off] cs).length = cs.length := by simp [putAt]; omega
  have hke : putAt off [.bp h off] cs = List.take off cs ++ V.bp h off :: List.drop (off + 1) cs := by simp [putAt]
  rw [← hke]
  generalize putAt off [.bp h off] cs = cs' at *
  have hp2 : cs'[off + 1]'(by omega) = .rv g := (List.getElem?_eq_some_iff.1 hp1).2
  have hl2 : off + 1 < cs'.length := by omega
  simp [hp1, hp2, hl2, hg.1, hgh, Ne.symm hg.1]
  refine ⟨hsz, by rw [kills_eq]; simp; omega, ?_, ?_⟩
  · simpa [putAt] using hkill
  · rw [srcU, encU_append]

/-- What was written: as a string; the row is given up. -/
theorem string_ok {h off g b ty : Nat} {cs : List V} {bs : ByteArray} (hg : h ≠ g) (hlen : off + 1 < cs.length) (hbuf : cs[off + 1]? = some (.rv g)) (hsz : bs.size ≤ 140737488355328) :
    ACalls Try.prog 55 [.bp h off] [(h, .box b ty cs), (g, .row 5 1 (dd (encU bs.data.toList)))] (fun r L' => r = .ret (.d (.v (.string bs))) ∧ L' = [(h, .box b ty (V.kills g cs))]) := by
  refine ACalls.rem g rfl ?_
  have hgh : (g == h) = false := by simpa using Ne.symm hg
  have hb0 : cs[off + 1]'hlen = .rv g := (List.getElem?_eq_some_iff.1 hbuf).2
  refine ACalls.run Try.func55 rfl (by simp [Try.f55]) ?_; simp [Try.f55]
  refine AWP.regionM0 [some (0, 0), some (0, 0), some (0, 0), some (0, 0), none, some (0, 1), some (0, 1), some (0, 1), some (0, 1), some (0, 1), none, some (2, 2)] [] Try.mixed (by kernel_rfl) ?_
  by_cases hb : bs.data.toList = []
  · have he : bs = ⟨#[]⟩ := by
      cases bs with
      | mk d => cases d with
        | mk l => simp only at hb; subst hb; rfl
    have hd : dd (encU ([] : List UInt8)) = [] := rfl
    subst he
    simp [hb0, hlen, hgh, hd, hg]
  · have hb' : bs.data.toList.isEmpty = false := by simpa using hb
    have hd : ¬ dd (encU bs.data.toList) = [] := by
      intro e
      have : (dd (encU bs.data.toList)).length = 0 := by rw [e]; rfl
      simp at this
      exact hb (by rw [this]; rfl)
    simp [hb0, hlen, hgh, hd, hg, kills_kills]
    exact List.length_pos_iff.2 hb

theorem writeStringU_ok {h off g b ty : Nat} {cs : List V} {bs : ByteArray} (s : ByteArray) (hg : h ≠ g ∧ h ≠ 14 ∧ g ≠ 14) (hlen : off + 1 < cs.length) (hself : cs[off]? = some (.d (.v (.pointer none))) ∨ cs[off]? = some (.bp h off)) (hbuf : cs[off + 1]? = some (.rv g))
    (hkill : putAt (off + 1) [.rv g] (V.kills g (putAt off [.bp h off] cs)) = putAt off [.bp h off] cs) (hon : V.ons [h, g] cs = true)
    (hlies : liesAt Try.prog Try.prog.depth ty (cs.length / Try.prog.cellsOf ty) off 83 1 = true) (hsz : bs.size + s.size ≤ 140737488355328) :
    ACalls Try.prog 52 [.bp h off, .d (.v (.string s))] [(g, .row 5 1 (rowU bs)), (h, .box (b + 1) ty cs)]
      (fun r L' => r = .ret (.tup [.d (.v (.int .i64 s.size)), .d (.v .nilIface)]) ∧ L' = [(g, .row 5 1 (rowU (bs ++ s))), (h, .box (b + 1) ty (putAt off [.bp h off] cs))]) :=
  (writeString_ok s hg hlen hself hbuf hkill hon hlies hsz).perm (List.Perm.swap _ _ _) (List.Perm.swap _ _ _)
theorem stringU_ok {h off g b ty : Nat} {cs : List V} {bs : ByteArray} (hg : h ≠ g) (hlen : off + 1 < cs.length) (hbuf : cs[off + 1]? = some (.rv g)) (hsz : bs.size ≤ 140737488355328) :
    ACalls Try.prog 55 [.bp h off] [(g, .row 5 1 (rowU bs)), (h, .box b ty cs)] (fun r L' => r = .ret (.d (.v (.string bs))) ∧ L' = [(h, .box b ty (V.kills g cs))]) :=
  (string_ok hg hlen hbuf hsz).perm (List.Perm.swap _ _ _) (List.Perm.refl _)
end Go.Ab

set_option linter.unusedSimpArgs false
set_option linter.unusedVariables false
namespace Go.Ab
open Go.Proofs

def selfV (b : Bool) : V := if b then .bp 3 0 else .d (.v (.pointer none))
@[simp] theorem selfV_on (b : Bool) (ks : List Nat) (h : 3 ∈ ks) : V.on ks (selfV b) = true := by cases b <;> simp [selfV, h]
theorem write3 (b : Bool) (lab : Nat) (bs s : ByteArray) (hsz : bs.size + s.size ≤ 140737488355328) :
    ACalls Try.prog 52 [.bp 3 0, .d (.v (.string s))] [(60, .row 5 1 (rowU bs)), (3, .box (lab + 1) 83 [selfV b, .rv 60])]
      (fun r L' => r = .ret (.tup [.d (.v (.int .i64 s.size)), .d (.v .nilIface)]) ∧ L' = [(60, .row 5 1 (rowU (bs ++ s))), (3, .box (lab + 1) 83 [selfV true, .rv 60])]) := by
  have := writeStringU_ok (h := 3) (g := 60) (off := 0) (b := lab) (ty := 83) (cs := [selfV b, .rv 60]) (bs := bs) s (by decide) (by simp) (by cases b <;> simp [selfV]) (by simp) (by cases b <;> simp [selfV]) (by cases b <;> simp [selfV]) (by kernel_rfl) hsz
  refine this.mono ?_
  rintro r L' ⟨rfl, rfl⟩
  simp [selfV]

set_option maxRecDepth 20000 in
theorem draw_ok (t : GTables) (ht : t.wf) (hF : fitsB t = true) : Pure Try.prog 24 [.agg (t.enc.map .d)] (.d (.v (.string (drawM t)))) := by
  have hn := fits_things hF
  have k58 : (⟨#[58]⟩ : ByteArray).size = 1 := rfl
  have k44 : (⟨#[44]⟩ : ByteArray).size = 1 := rfl
  have k32 : (⟨#[32]⟩ : ByteArray).size = 1 := rfl
  have k10 : (⟨#[10]⟩ : ByteArray).size = 1 := rfl
  refine Pure.run Try.func24 rfl (by simp [Try.f24]) ?_; simp [-condC_bool, Try.f24]
  intro bs0 bs1
  refine AOps.pureC rfl (rooms_ok t) (by simp) rfl (by simp) rfl ?_
  simp [-condC_bool]
  refine AWP.weaken (Wk.ownBox 3 1 60 (e := 5) (k := 1) rfl rfl (by simp)) ?_
  refine AWP.rangeL [1, 3] (roomsM t.Things 0) (fun i => [.d (.v (.int .i64 i))]) (fun pre => [(3, .box (bs1 0 + 1) 83 [selfV (!pre.isEmpty), .rv 60]), (60, .row 5 1 (rowU (roomsS t pre)))]) (fun _ => True) (roomsI_ok t ht) rfl (by simp) (by simp) (by simp [hasRF]) (by simp) (by rfl) (by rfl) (by simp [selfV, roomsS, rowU_nil]) (by simp) ?_ ?_
  · rintro pre x post hsp -
    have h1 := roomsM_len t.Things 0
    have hpm : ∀ y ∈ pre, 0 ≤ y ∧ y < t.Things.length := by
      intro y hy
      have := roomsM_mem (l := t.Things) (i := 0) (x := y) (by rw [hsp]; simp [hy])
      omega
    have hx : 0 ≤ x ∧ x < t.Things.length := by
      have := roomsM_mem (l := t.Things) (i := 0) (x := x) (by rw [hsp]; simp)
      omega
    have hsz := roomsS_size hF _ hpm
    have hge := thingAt_elem hx
    have hget := thingAt_get hx
    have hx2 : 0 ≤ x ∧ x.toNat < t.Things.length := by omega
    have hts := titleM_size hF x
    rw [hsp] at h1
    simp at h1
    have hlen := fits_ways12 hF (thingAt_mem hx)
    have hdir : ∀ w ∈ (thingAt t x).Ways, 1 ≤ w.Dir ∧ w.Dir ≤ 12 := fun w hw => fromB_iff.1 (fits_way hF (thingAt_mem hx) hw).1
    have hsn := roomsS_snoc t pre x
    have hls : lineS t x = titleM t x ++ ⟨#[58]⟩ ++ waysS t (thingAt t x).Ways ++ ⟨#[10]⟩ := rfl
    clear hsp hpm
    generalize (!pre.isEmpty) = b at *
    generalize roomsS t pre = s at *
    generalize hth : thingAt t x = th at *
    simp [-condC_bool]
    refine AOps.pureC rfl (tellTitle_ok t x) (by simp) rfl (by simp) rfl ?_
    simp [-condC_bool]
    refine ⟨by rw [k58]; omega, ?_⟩
    refine AOps.effD [60, 3] rfl (write3 b (bs1 0) s (titleM t x ++ ⟨#[58]⟩) (by simp only [ByteArray.size_append]; omega)) (by simp) rfl (by simp) rfl (by kernel_rfl) (by simp) (by simp [rowU_on']) (by simp) (by simp) (by simp) ?_
    simp [-condC_bool, hge, hget, hx2]
    generalize hS : s ++ (titleM t x ++ ⟨#[58]⟩) = S at *
    have hSz : S.size ≤ 2000000 := by rw [← hS]; simp only [ByteArray.size_append]; omega
    refine AWP.loopL [1, 3, 20, 21, 22] th.Ways (fun pre2 => [(22, .d (.v (.int .i64 pre2.length)))]) (fun pre2 => [(60, .row 5 1 (rowU (S ++ waysS t pre2)))]) (fun _ => True) (by rfl) (by omega) (by simp [waysS, app_nilS]) ?_ ?_
    · rintro pre2 w post2 hsp2 - hlt2 hge2 a5
      have hd := hdir w (by rw [hsp2]; simp)
      have hw1 := waysS_size hF pre2
      have hw2 := titleM_size hF w.To
      have hw3 := nameM_size w.Dir
      have hws := waysS_snoc t pre2 w
      clear hsp2 hdir
      generalize waysS t pre2 = s2 at *
      simp [-condC_bool, hlt2, hge2]
      try intro (_ : Nat → Nat)
      refine condC_split (fun h2 => ?_) (fun h2 => ?_)
      · simp at h2
        have hsp : sepS pre2 = ⟨#[44]⟩ := by rw [sepS, if_neg (by omega)]
        simp [-condC_bool]
        refine AOps.effD [60, 3] rfl (write3 true (bs1 0) (S ++ s2) ⟨#[44]⟩ (by simp only [ByteArray.size_append]; omega)) (by simp) rfl (by simp) rfl (by kernel_rfl) (by simp) (by simp [rowU_on']) (by simp) (by simp) (by simp) ?_
        simp [-condC_bool]
        refine AWP.regionM0 [some (0, 0), some (0, 0), some (0, 0), some (0, 0), some (0, 0), some (0, 0), some (0, 0), some (0, 0), some (0, 0), some (0, 0), none] [.d (.v (.string (nameM w.Dir))), .d (.v (.string (titleM t w.To)))] Try.mixed (by kernel_rfl) ?_
        simp [-condC_bool, (name_ok _).ok, (tellTitle_ok t _).ok]
        repeat' (with_reducible refine And.intro ?_ ?_)
        all_goals (try omega)
        refine EffM.intro (fun _ => LOp.call 60 [60, 3] rfl (write3 true (bs1 0) (S ++ s2 ++ ⟨#[44]⟩) (⟨#[32]⟩ ++ nameM w.Dir ++ ⟨#[32]⟩ ++ titleM t w.To) (by simp only [ByteArray.size_append]; omega)) (by simp) rfl (by kernel_rfl) (by simp) (by simp [rowU_on']) (by simp +contextual) (by simp) (by simp)) ?_
        simp [-condC_bool, hws, hsp, wayS, ByteArray.append_assoc]
        exact a5
      · simp at h2
        have hsp : sepS pre2 = ⟨#[]⟩ := by rw [sepS, if_pos (by simp [h2])]
        simp [-condC_bool]
        refine AWP.regionM0 [some (0, 0), some (0, 0), some (0, 0), some (0, 0), some (0, 0), some (0, 0), some (0, 0), some (0, 0), some (0, 0), some (0, 0), none] [.d (.v (.string (nameM w.Dir))), .d (.v (.string (titleM t w.To)))] Try.mixed (by kernel_rfl) ?_
        simp [-condC_bool, (name_ok _).ok, (tellTitle_ok t _).ok]
        repeat' (with_reducible refine And.intro ?_ ?_)
        all_goals (try omega)
        refine EffM.intro (fun _ => LOp.call 60 [60, 3] rfl (write3 true (bs1 0) (S ++ s2) (⟨#[32]⟩ ++ nameM w.Dir ++ ⟨#[32]⟩ ++ titleM t w.To) (by simp only [ByteArray.size_append]; omega)) (by simp) rfl (by kernel_rfl) (by simp) (by simp [rowU_on']) (by simp +contextual) (by simp) (by simp)) ?_
        simp [-condC_bool, hws, hsp, wayS, app_nilS, ByteArray.append_assoc]
        exact a5
    · intro _
      have hw1 := waysS_size hF th.Ways
      simp [-condC_bool]
      refine AOps.effD [60, 3] rfl (write3 true (bs1 0) (S ++ waysS t th.Ways) ⟨#[10]⟩ (by simp only [ByteArray.size_append]; omega)) (by simp) rfl (by simp) rfl (by kernel_rfl) (by simp) (by simp [rowU_on']) (by simp) (by simp) (by simp) ?_
      simp [-condC_bool, hsn, hls, ← hS, ByteArray.append_assoc]
      cases pre <;> rfl
  · intro _
    have hsz := roomsS_size hF (roomsM t.Things 0) (fun y hy => by have := roomsM_mem hy; omega)
    have h1 := roomsM_len t.Things 0
    simp [-condC_bool]
    generalize (!(roomsM t.Things 0).isEmpty) = b
    refine AOps.effD [60, 3] rfl (stringU_ok (h := 3) (g := 60) (off := 0) (b := bs1 0 + 1) (ty := 83) (cs := [selfV b, .rv 60]) (bs := roomsS t (roomsM t.Things 0)) (by decide) (by simp) (by simp) (by omega)) (by simp) rfl (by simp) rfl (by kernel_rfl) (by simp) (by simp [rowU_on']) (by simp) (by simp) (by simp) ?_
    simp [drawM]
end Go.Ab

set_option linter.unusedSimpArgs false
set_option linter.unusedVariables false
namespace Go.Ab
open Go.Proofs

theorem has_ok (l : List Int) (hl : l.length ≤ 1000000000000000) (x : Int) : Pure Try.prog 51 [.d (.sl (encI l)), .d (.v (.int .i64 x))] (.d (.v (.bool (decide (x ∈ l))))) := by
  refine Pure.run Try.func51 rfl (by simp [Try.f51]) ?_; simp [-condC_bool, Try.f51]
  refine AWP.loopL [0, 1, 5] l (fun pre => [(5, .d (.v (.int .i64 pre.length)))]) (fun _ => []) (fun pre => x ∉ pre) (by rfl) (by omega) (by simp) ?_ ?_
  · rintro pre y post hsp hH hlt hge a4
    have hall : x = y ∨ x ∉ l ∨ x ∈ post := by
      by_cases h : x = y
      · exact .inl h
      · right
        by_cases h2 : x ∈ post
        · exact .inr h2
        · left; rw [hsp]; simp [h, h2, hH]
    have hmem : y ∈ l := by rw [hsp]; simp
    clear hsp hall
    simp [-condC_bool, hlt, hge, a4]
    repeat' (first
      | (with_reducible refine And.intro ?_ ?_)
      | (refine condC_split (fun h => ?_) (fun h => ?_) <;> (try simp at h) <;> (try simp [-condC_bool, *]))
      | (refine AOps.pureC rfl (rooms_ok t) rfl rfl (by simp) rfl ?_ <;> (try simp [-condC_bool, *]))
      | (refine AOps.lendC rfl (rooms_ok t) rfl (by simp) rfl rfl (by simp) rfl ?_ <;> (try simp [-condC_bool, *]))
      | (refine AOps.pureG rfl (fun h => rooms_ok t) rfl (by first | rfl | (simp; rfl)) (by simp) (by simp) rfl ?_ <;> (try simp [-condC_bool, *]))
      | (with_reducible intro _))
    all_goals (first | assumption | omega | (rw [inR_i64]; omega) | (simp_all; done) | grind | skip)
  · intro hH
    simp [hH]

theorem BInv.rooms {t : GTables} {fr : Int} {N : List BE} {k l : Nat} (h : BInv t fr N k l) (hF : fitsB t = true) (hfr : 0 ≤ fr ∧ fr < t.Things.length) (hr : roomB t fr = true) : ∀ x ∈ keysB N, roomB t x = true := by
  intro x hx
  obtain ⟨e, he, rfl⟩ := List.mem_map.1 hx
  obtain ⟨j, hj⟩ := List.getElem?_of_mem he
  by_cases h1 : 1 ≤ j
  · obtain ⟨q1, f, w, q2, q3, q4, q5⟩ := h.ent j e h1 hj
    have hf := h.bound hF hfr f.key (List.mem_map.2 ⟨f, List.mem_of_getElem? q2, rfl⟩)
    have hw : w ∈ (thingAt t f.key).Ways := List.mem_of_getElem? q3
    rw [← q4]
    exact (fits_way hF (thingAt_mem hf) hw).2.2.1
  · have h0 : j = 0 := by omega
    subst h0
    rw [h.root] at hj
    obtain rfl := Option.some.inj hj
    exact hr

/-- The rooms that are reached. -/
def reachM (t : GTables) (fr : Int) : List Int := if isB t fr then (roomsM t.Things 0).filter (fun x => decide (x ∈ keysB (metB t fr))) else []
theorem isB_iff {t : GTables} {x : Int} : isB t x = true ↔ (1 ≤ x ∧ x < t.Things.length) ∧ roomB t x = true := by
  simp only [isB, thingB, fromB, Bool.and_eq_true, decide_eq_true_eq]
  constructor
  · rintro ⟨⟨h1, h2⟩, h3⟩; exact ⟨⟨h1, by omega⟩, h3⟩
  · rintro ⟨⟨h1, h2⟩, h3⟩; exact ⟨⟨h1, by omega⟩, h3⟩

set_option maxRecDepth 20000 in
theorem reach_ok (t : GTables) (ht : t.wf) (hF : fitsB t = true) (fr : Int) : Pure Try.prog 16 [.agg (t.enc.map .d), .d (.v (.int .i64 fr))] (.d (.sl (encI (reachM t fr)))) := by
  have hn := fits_things hF
  refine Pure.run Try.func16 rfl (by simp [Try.f16]) ?_; simp [-condC_bool, Try.f16]
  repeat' (first
    | (with_reducible refine And.intro ?_ ?_)
    | (refine condC_split (fun h => ?_) (fun h => ?_) <;> (try simp at h) <;> (try simp [-condC_bool, *]))
    | (refine AOps.pureC rfl (is_ok t fr) rfl rfl (by simp) rfl ?_ <;> (try simp [-condC_bool, *]))
    | (refine AOps.lendC rfl (is_ok t fr) rfl (by simp) rfl rfl (by simp) rfl ?_ <;> (try simp [-condC_bool, *]))
    | (refine AOps.pureG rfl (fun h => is_ok t fr) rfl (by first | rfl | (simp; rfl)) (by simp) (by simp) rfl ?_ <;> (try simp [-condC_bool, *]))
    | (with_reducible intro _))
  · simp [reachM, h, encI]
  · have hi := isB_iff.1 h
    refine AOps.effD [] rfl (steps_ok t ht hF fr (by omega)) (by simp) rfl (by simp) rfl (by kernel_rfl) (by simp) (by simp) (by simp) (by simp) (by simp) ?_
    simp [-condC_bool]
    try intro (_ : Nat → Nat)
    try intro (_ : Nat → Nat)
    repeat' (first
      | (with_reducible refine And.intro ?_ ?_)
      | (refine condC_split (fun h => ?_) (fun h => ?_) <;> (try simp at h) <;> (try simp [-condC_bool, *]))
      | (refine AOps.pureC rfl (rooms_ok t) rfl rfl (by simp) rfl ?_ <;> (try simp [-condC_bool, *]))
      | (refine AOps.lendC rfl (rooms_ok t) rfl (by simp) rfl rfl (by simp) rfl ?_ <;> (try simp [-condC_bool, *]))
      | (refine AOps.pureG rfl (fun h => rooms_ok t) rfl (by first | rfl | (simp; rfl)) (by simp) (by simp) rfl ?_ <;> (try simp [-condC_bool, *]))
      | (with_reducible intro _))
    have hinv := (bfsB_inv t fr t.Things.length)
    have hN : bfsB t fr t.Things.length = metB t fr := rfl
    rw [hN] at hinv
    refine AWP.weaken (Wk.ownBox 6 0 60 (e := 3) (k := 1) rfl rfl (by simp)) ?_
    refine AWP.rangeL [2, 5, 6] (roomsM t.Things 0) (fun i => [.d (.v (.int .i64 i))]) (fun pre => [(60, .row 3 1 (dd (encI (pre.filter (fun x => decide (x ∈ keysB (metB t fr)))))))]) (fun _ => True) (roomsI_ok t ht) rfl (by simp) (by simp) (by simp [hasRF]) (by simp) (by rfl) (by rfl) (by simp [encI]) (by simp) ?_ ?_
    · rintro pre x post hsp -
      have h1 := roomsM_len t.Things 0
      rw [hsp] at h1
      simp at h1
      have hfl : (pre.filter (fun x => decide (x ∈ keysB (metB t fr)))).length ≤ pre.length := List.length_filter_le _ _
      clear hsp
      by_cases hin : x ∈ keysB (metB t fr)
      · obtain ⟨g, hg, hgk⟩ := List.mem_map.1 hin
        obtain ⟨jj, hjj⟩ := List.getElem?_of_mem hg
        have hlw := metM_some hinv.nodup hjj
        rw [hgk] at hlw
        simp [-condC_bool, hlw, hin]
        omega
      · have hlw := metM_none.2 hin
        simp [-condC_bool, hlw, hin]
    · intro _
      simp [-condC_bool]
      rw [reachM, if_pos h]

theorem keysB_add {N : List BE} {k q : Nat} {e : BE} {w : GWay} (h : w.To ∉ keysB N) : keysB (addB N k e q w) = keysB N ++ [w.To] := by rw [addB, if_neg h]; simp [keysB]
theorem keysB_old {N : List BE} {k q : Nat} {e : BE} {w : GWay} (h : w.To ∈ keysB N) : keysB (addB N k e q w) = keysB N := by rw [addB, if_pos h]

theorem fits_zero {t : GTables} (hF : fitsB t = true) : (thingAt t 0).Room = false := by
  have hn := fits_things hF
  have h0 : thingAt t 0 = t.Things[0] := (thingAt_elem (t := t) (n := 0) (by omega)).symm
  simp only [fitsB, thingsB, Bool.and_eq_true] at hF
  have := hF.1.2.1.1.1.1.2
  simp only [nothingB, Bool.and_eq_true] at this
  simpa using this.1.1.1.2

set_option maxRecDepth 20000 in
theorem refReach_ok (t : GTables) (ht : t.wf) (hF : fitsB t = true) (fr : Int) : Pure Try.prog 21 [.agg (t.enc.map .d), .d (.v (.int .i64 fr))] (.d (.sl (encI (reachM t fr)))) := by
  have hn := fits_things hF
  refine Pure.run Try.func21 rfl (by simp [Try.f21]) ?_; simp [-condC_bool, Try.f21]
  repeat' (first
    | (with_reducible refine And.intro ?_ ?_)
    | (refine condC_split (fun h => ?_) (fun h => ?_) <;> (try simp at h) <;> (try simp [-condC_bool, *]))
    | (refine AOps.pureC rfl (refRoom55_ok t (fits_zero hF) fr) rfl rfl (by simp) rfl ?_ <;> (try simp [-condC_bool, *]))
    | (refine AOps.lendC rfl (refRoom55_ok t (fits_zero hF) fr) rfl (by simp) rfl rfl (by simp) rfl ?_ <;> (try simp [-condC_bool, *]))
    | (refine AOps.pureG rfl (fun h => refRoom55_ok t (fits_zero hF) fr) rfl (by first | rfl | (simp; rfl)) (by simp) (by simp) rfl ?_ <;> (try simp [-condC_bool, *]))
    | (with_reducible intro _))
  · simp [reachM, h, encI]
  · have hi := isB_iff.1 h
    clear h
    have hfr : 0 ≤ fr ∧ fr < t.Things.length := by omega
    refine AWP.loopS [2, 5, 6] t.Things.length (fun i => [(6, .d (.v (.int .i64 i)))]) (fun i => [(16, .row 3 1 (dd (encI (keysB (bfsB t fr i)))))]) (fun i => i ≤ (bfsB t fr i).length) (by rfl) (by simp [bfsB, keysB, dd, encI]) ?_
    intro i hin hH
    have hinv := bfsB_inv t fr i
    have hlen := bfsB_len hF hfr i
    rw [Nat.min_eq_left hH] at hinv
    have hkl : (keysB (bfsB t fr i)).length = (bfsB t fr i).length := by simp [keysB]
    by_cases hlt : i < (bfsB t fr i).length
    · have he : (bfsB t fr i)[i]? = some (bfsB t fr i)[i] := List.getElem?_eq_getElem hlt
      have hnx : bfsB t fr (i + 1) = chunkB i (bfsB t fr i)[i] 0 (waysAt t (bfsB t fr i)[i].key) (bfsB t fr i) := by
        rw [bfsB, nextB, he]
      have hch := fun pre post h => hinv.chunk he pre post h
      have hkb : 0 ≤ (bfsB t fr i)[i].key ∧ (bfsB t fr i)[i].key < t.Things.length := bfsB_bound hF hfr i _ (List.mem_map.2 ⟨_, List.getElem_mem _, rfl⟩)
      generalize (bfsB t fr i)[i] = e at *
      generalize bfsB t fr i = N at *
      have hge := thingAt_elem hkb
      have hget := thingAt_get hkb
      have hkb2 : 0 ≤ e.key ∧ e.key.toNat < t.Things.length := by omega
      have hwl := fits_ways12 hF (thingAt_mem hkb)
      have hki : (keysB N)[i]? = some e.key := by simp [keysB, he]
      have hki2 : ∀ h, (keysB N)[i]'h = e.key := by intro h; rw [List.getElem?_eq_getElem h] at hki; exact Option.some.inj hki
      simp [-condC_bool, hkl, hlt, hki, hki2]
      refine AWP.regionD [] Try.mixed (by kernel_rfl) (by rfl) ?_
      simp [-condC_bool, hkl, hlt, hki, hki2, hkb2, hge, hget]
      have hws : (thingAt t e.key).Ways = waysAt t e.key := rfl
      rw [hws] at hwl ⊢
      generalize hW : waysAt t e.key = ws at *
      refine AWP.loopL [2, 5, 6, 7, 8] ws (fun pre => [(8, .d (.v (.int .i64 pre.length)))]) (fun pre => [(16, .row 3 1 (dd (encI (keysB (chunkB i e 0 pre N)))))]) (fun _ => True) (by rfl) (by omega) (by simp [chunkB]) ?_ ?_
      · rintro pre w post hsp - hlt2 hge2 a5
        obtain ⟨hi2, hk2⟩ := hch pre (w :: post) (by rw [hsp])
        have hsn := chunkB_snoc i e pre w 0 N
        rw [Nat.zero_add] at hsn
        have hCl := hi2.len hF hfr
        clear hsp hch hk2
        generalize chunkB i e 0 pre N = C at *
        have hck : (keysB C).length = C.length := by simp [keysB]
        simp [-condC_bool, hlt2, hge2]
        repeat' (first
          | (with_reducible refine And.intro ?_ ?_)
          | (refine condC_split (fun h => ?_) (fun h => ?_) <;> (try simp at h) <;> (try simp [-condC_bool, *]))
          | (refine AOps.pureC rfl (has_ok (keysB C) (by omega) w.To) rfl rfl (by simp) rfl ?_ <;> (try simp [-condC_bool, *]))
          | (refine AOps.lendC rfl (has_ok (keysB C) (by omega) w.To) rfl (by simp) rfl rfl (by simp) rfl ?_ <;> (try simp [-condC_bool, *]))
          | (refine AOps.pureG rfl (fun h => has_ok (keysB C) (by omega) w.To) rfl (by first | rfl | (simp; rfl)) (by simp) (by simp) rfl ?_ <;> (try simp [-condC_bool, *]))
          | (with_reducible intro _))
        · omega
        · rw [keysB_add h]
        · rw [keysB_old h]
      · intro _
        obtain ⟨hi2, hk2⟩ := hch ws [] (by simp)
        have hCl := hi2.len hF hfr
        have hkk := (List.getElem?_eq_some_iff.1 (hk2 i e he)).1
        clear hk2 hch
        simp [-condC_bool, hnx]
        generalize chunkB i e 0 ws N = C at *
        refine ⟨?_, by omega, by omega⟩
        rw [inR_i64]; omega
    · have hend := bfsB_end hF hfr hlt hin
      have hrm := hinv.rooms hF hfr hi.2
      rw [hend] at hinv hlen hkl hrm hlt
      rw [hend]
      clear hH hin hend
      generalize hM : metB t fr = N at *
      simp [-condC_bool, hkl, hlt]
      refine AWP.weaken (Wk.own' (t := 9) (h := 90) (k := 1) (ty := 3) rfl (by simp)) ?_
      refine AWP.loopL [2, 5, 9, 10] t.Things (fun pre => [(10, .d (.v (.int .i64 pre.length)))]) (fun pre => [(90, .row 3 1 (dd (encI ((roomsM pre 0).filter (fun x => decide (x ∈ keysB N))))))]) (fun _ => True) (by rfl) (by omega) (by simp [roomsM, encI]) ?_ ?_
      · rintro pre x post hsp - hlt2 hge2 a5
        have hr : (pre.length : Int) ∈ keysB N → x.Room = true := by
          intro h
          have := hrm _ h
          rw [roomB, hsp] at this
          simpa using this
        have h1 := roomsM_len pre 0
        have hfl : ((roomsM pre 0).filter (fun x => decide (x ∈ keysB N))).length ≤ (roomsM pre 0).length := List.length_filter_le _ _
        clear hsp
        simp [-condC_bool, hlt2, hge2]
        repeat' (first
          | (with_reducible refine And.intro ?_ ?_)
          | (refine condC_split (fun h => ?_) (fun h => ?_) <;> (try simp at h) <;> (try simp [-condC_bool, *]))
          | (refine AOps.pureC rfl (has_ok (keysB N) (by omega) pre.length) rfl rfl (by simp) rfl ?_ <;> (try simp [-condC_bool, *]))
          | (refine AOps.lendC rfl (has_ok (keysB N) (by omega) pre.length) rfl (by simp) rfl rfl (by simp) rfl ?_ <;> (try simp [-condC_bool, *]))
          | (refine AOps.pureG rfl (fun h => has_ok (keysB N) (by omega) pre.length) rfl (by first | rfl | (simp; rfl)) (by simp) (by simp) rfl ?_ <;> (try simp [-condC_bool, *]))
          | (with_reducible intro _))
        · omega
        · rw [roomsM_snoc, if_pos (hr h)]; simp [h]
        · rw [roomsM_snoc]; split <;> simp [h]
      · intro _
        simp [-condC_bool]
        rw [reachM, if_pos (isB_iff.2 hi), hM]

end Go.Ab

set_option linter.unusedSimpArgs false
set_option linter.unusedVariables false
namespace Go.Ab
open Go.Proofs

def BdS (t : GTables) (l : List Int) : Prop := l.Nodup ∧ ∀ y ∈ l, 0 ≤ y ∧ y < t.Things.length
theorem BdS.len {t : GTables} {l : List Int} (h : BdS t l) : l.length ≤ t.Things.length := nodup_bound _ _ h.1 h.2
theorem BdS.add {t : GTables} {l : List Int} (h : BdS t l) {w : GWay} (hw : 1 ≤ w.To ∧ w.To < t.Things.length) : BdS t (addS l w) := by
  unfold addS
  split
  · exact h
  · rename_i hn
    refine ⟨?_, ?_⟩
    · rw [List.nodup_append]
      refine ⟨h.1, by simp, ?_⟩
      intro a ha b hb hab
      simp at hb
      subst hb hab
      exact hn ha
    · intro y hy
      rcases List.mem_append.1 hy with hy | hy
      · exact h.2 y hy
      · simp at hy; subst hy; omega
theorem BdS.fold {t : GTables} : ∀ (ws : List GWay) (l : List Int), BdS t l → (∀ w ∈ ws, 1 ≤ w.To ∧ w.To < t.Things.length) → BdS t (ws.foldl addS l)
  | [], _, h, _ => h
  | w :: ws, l, h, hw => BdS.fold ws _ (h.add (hw w (by simp))) fun v hv => hw v (by simp [hv])
theorem BdS.ways {t : GTables} (hF : fitsB t = true) {x : Int} (hx : 0 ≤ x ∧ x < t.Things.length) : ∀ w ∈ waysAt t x, 1 ≤ w.To ∧ w.To < t.Things.length := fun _ hw => fits_to hF (thingAt_mem hx) hw
theorem BdS.next {t : GTables} (hF : fitsB t = true) : ∀ (now l : List Int), (∀ x ∈ now, 0 ≤ x ∧ x < t.Things.length) → BdS t l → BdS t (now.foldl (fun l x => (waysAt t x).foldl addS l) l)
  | [], _, _, h => h
  | x :: now, l, hn, h => BdS.next hF now _ (fun y hy => hn y (by simp [hy])) (h.fold _ _ (BdS.ways hF (hn x (by simp))))
theorem nowS_bd {t : GTables} (hF : fitsB t = true) {x : Int} (hx : 0 ≤ x ∧ x < t.Things.length) : ∀ n, BdS t (nowS t x n)
  | 0 => ⟨by simp [nowS], by simpa [nowS] using hx⟩
  | n + 1 => BdS.next hF _ _ (nowS_bd hF hx n).2 ⟨by simp, by simp⟩

set_option maxRecDepth 20000 in
theorem far_ok (t : GTables) (ht : t.wf) (hF : fitsB t = true) (x y : Int) (hx : 0 ≤ x ∧ x < t.Things.length) (most : Nat) (hm : most ≤ 1000000) :
    Pure Try.prog 48 [.agg (t.enc.map .d), .d (.v (.int .i64 x)), .d (.v (.int .i64 y)), .d (.v (.int .i64 most))] (.d (.v (.int .i64 (farS t x y most)))) := by
  have hn := fits_things hF
  refine Pure.run Try.func48 rfl (by simp [Try.f48]) ?_; simp [-condC_bool, Try.f48]
  intro bs
  refine AWP.loopW (most + 1) (fun i => ⟨[(2, .d (.v (.int .i64 y))), (3, .d (.v (.int .i64 most))), (4, .bp 4 0), (9, .d (.sl (encI (nowS t x i)))), (10, .d (.v (.int .i64 i)))], [(4, .box (bs 0 + 1) 28 (t.enc.map .d))]⟩) (fun i => ∀ j < i, y ∉ nowS t x j) ⟨by simp, ?_⟩ ?_
  · exact (Wk.freeze 16 (ys := encI [x]) rfl).trans (Wk.pick [2, 3, 4, 9, 10] [4] rfl (by simp) rfl)
  intro i hi hH
  have hbd := nowS_bd hF hx i
  have hlen := hbd.len
  have a1 : inR .i64 ((i : Int) + 1) := by rw [inR_i64]; omega
  by_cases hlt : i ≤ most
  · simp [-condC_bool, hlt]
    repeat' (first
      | (with_reducible refine And.intro ?_ ?_)
      | (refine condC_split (fun h => ?_) (fun h => ?_) <;> (try simp at h) <;> (try simp [-condC_bool, *]))
      | (refine AOps.pureC rfl (has_ok (nowS t x i) (by omega) y) rfl rfl (by simp) rfl ?_ <;> (try simp [-condC_bool, *]))
      | (refine AOps.lendC rfl (has_ok (nowS t x i) (by omega) y) rfl (by simp) rfl rfl (by simp) rfl ?_ <;> (try simp [-condC_bool, *]))
      | (refine AOps.pureG rfl (fun h => has_ok (nowS t x i) (by omega) y) rfl (by first | rfl | (simp; rfl)) (by simp) (by simp) rfl ?_ <;> (try simp [-condC_bool, *]))
      | (with_reducible intro _))
    · rw [(farS_eq (by omega)).2 ⟨h, hH⟩]
    · refine AWP.weaken (Wk.own' (t := 11) (h := 110) (k := 1) (ty := 3) rfl (by simp)) ?_
      have hnx : nowS t x (i + 1) = nextS t (nowS t x i) := rfl
      have hH2 : ∀ j < i + 1, y ∉ nowS t x j := by
        intro j hj
        by_cases hji : j = i
        · subst hji; exact h
        · exact hH j (by omega)
      clear h hH
      generalize hNow : nowS t x i = now at *
      refine AWP.loopL [2, 3, 4, 9, 10, 11, 12] now (fun pre => [(12, .d (.v (.int .i64 pre.length)))]) (fun pre => [(110, .row 3 1 (dd (encI (nextS t pre))))]) (fun _ => True) (by rfl) (by omega) (by simp [nextS, encI]) ?_ ?_
      · rintro pre z post hsp - hlt2 hge2 a5
        have hz := hbd.2 z (by rw [hsp]; simp)
        have hb1 : BdS t (nextS t pre) := BdS.next hF _ _ (fun a ha => hbd.2 a (by rw [hsp]; simp [ha])) ⟨by simp, by simp⟩
        have hsn : nextS t (pre ++ [z]) = (waysAt t z).foldl addS (nextS t pre) := by simp [nextS, List.foldl_append]
        have hge := thingAt_elem hz
        have hget := thingAt_get hz
        have hkb2 : 0 ≤ z ∧ z.toNat < t.Things.length := by omega
        have hwl := fits_ways12 hF (thingAt_mem hz)
        have hwt := BdS.ways hF hz
        have hws : (thingAt t z).Ways = waysAt t z := rfl
        clear hsp hNow
        generalize nextS t pre = l at *
        simp [-condC_bool, hlt2, hge2]
        refine AWP.regionD [] Try.mixed (by kernel_rfl) (by rfl) ?_
        simp [-condC_bool, hlt2, hge2, hkb2, hge, hget]
        rw [hws] at hwl ⊢
        generalize waysAt t z = ws at *
        refine AWP.loopL [2, 3, 4, 9, 10, 11, 12, 13, 14] ws (fun pre2 => [(14, .d (.v (.int .i64 pre2.length)))]) (fun pre2 => [(110, .row 3 1 (dd (encI (pre2.foldl addS l))))]) (fun _ => True) (by rfl) (by omega) (by simp) ?_ ?_
        · rintro pre2 w post2 hsp2 - hlt3 hge3 a6
          have hb2 := hb1.fold pre2 _ (fun v hv => hwt v (by rw [hsp2]; simp [hv]))
          have hsn2 : (pre2 ++ [w]).foldl addS l = addS (pre2.foldl addS l) w := by simp [List.foldl_append]
          have hl2 := hb2.len
          clear hsp2
          generalize pre2.foldl addS l = l2 at *
          simp [-condC_bool, hlt3, hge3]
          repeat' (first
            | (with_reducible refine And.intro ?_ ?_)
            | (refine condC_split (fun h => ?_) (fun h => ?_) <;> (try simp at h) <;> (try simp [-condC_bool, *]))
            | (refine AOps.pureC rfl (has_ok l2 (by omega) w.To) rfl rfl (by simp) rfl ?_ <;> (try simp [-condC_bool, *]))
            | (refine AOps.lendC rfl (has_ok l2 (by omega) w.To) rfl (by simp) rfl rfl (by simp) rfl ?_ <;> (try simp [-condC_bool, *]))
            | (refine AOps.pureG rfl (fun h => has_ok l2 (by omega) w.To) rfl (by first | rfl | (simp; rfl)) (by simp) (by simp) rfl ?_ <;> (try simp [-condC_bool, *]))
            | (with_reducible intro _))
          · omega
          · rw [addS, if_neg h]
          · rw [addS, if_pos h]
        · intro _
          simp [-condC_bool]
          exact ⟨a5, by rw [hsn]⟩
      · intro _
        simp [-condC_bool, hnx, a1]
        refine ⟨by omega, hH2, ?_⟩
        exact (Wk.freeze 110 (ys := encI (nextS t now)) rfl).trans (Wk.pick [2, 3, 4, 9, 10] [4] rfl (by simp) rfl)
  · have : i = most + 1 := by omega
    subst this
    have hfe := farS_gt (t := t) (x := x) (y := y) (most := most) (fun n hn => hH n (by omega))
    have hle : ¬ ((most : Int) + 1 ≤ most) := by omega
    simp [-condC_bool, hle, hfe]
    rw [inR_i64]; omega
end Go.Ab

set_option linter.unusedSimpArgs false
set_option linter.unusedVariables false
namespace Go.Ab
open Go.Proofs

/-- The fewest ways. -/
def pathM (t : GTables) (fr to : Int) : List Int × Bool :=
  if isB t fr ∧ isB t to ∧ farS t fr to t.Things.length ≤ t.Things.length then (dirsS t to (farS t fr to t.Things.length) fr, true) else ([], false)
def pathV (p : List Int × Bool) : V := .tup [.d (.sl (encI p.1)), .d (.v (.bool p.2))]
theorem pathM_no1 {t : GTables} {fr to : Int} (h : ¬ isB t fr) : pathM t fr to = ([], false) := by simp [pathM, h]
theorem pathM_no2 {t : GTables} {fr to : Int} (h : ¬ isB t to) : pathM t fr to = ([], false) := by simp [pathM, h]
theorem pathM_no3 {t : GTables} {fr to : Int} (h : t.Things.length < farS t fr to t.Things.length) : pathM t fr to = ([], false) := by
  rw [pathM, if_neg]; omega
theorem pathM_yes {t : GTables} {fr to : Int} (h1 : isB t fr) (h2 : isB t to) (h : farS t fr to t.Things.length ≤ t.Things.length) : pathM t fr to = (dirsS t to (farS t fr to t.Things.length) fr, true) := by simp [pathM, h1, h2, h]

section
variable {t : GTables} {fr : Int} {N : List BE}
theorem BInv.farM (h : BInv t fr N N.length 0) (hl : N.length ≤ t.Things.length) {j : Nat} {e : BE} (hj : N[j]? = some e) : (farS t fr e.key t.Things.length : Int) = e.far ∧ e.far < N.length := by
  have h1 := h.far_le j e hj
  have h2 := (List.getElem?_eq_some_iff.1 hj).1
  have := (farS_eq (t := t) (x := fr) (y := e.key) (most := t.Things.length) (n := e.far.toNat) (by omega)).2 (h.dist hj)
  omega
theorem BInv.farN (h : BInv t fr N N.length 0) {y : Int} (hy : y ∉ keysB N) (m : Nat) : farS t fr y m = m + 1 := by
  refine farS_gt fun n _ hm => ?_
  obtain ⟨j, e, hj, hk, -⟩ := h.near n y hm
  exact hy (List.mem_map.2 ⟨e, List.mem_of_getElem? hj, hk⟩)
end


/-- The rooms of a shortest way, from its end. -/
structure Trail (t : GTables) (fr to : Int) (n : Nat) (K : Nat → Int) : Prop where
  k0 : K 0 = to
  kn : K n = fr
  bnd : ∀ L ≤ n, 0 ≤ K L ∧ K L < t.Things.length
  ne : ∀ L, 1 ≤ L → L ≤ n → K L ≠ to
  step : ∀ L, L + 1 ≤ n → ∃ (q : Nat) (w : GWay), (waysAt t (K (L + 1)))[q]? = some w ∧ w.To = K L ∧ farS t (K L) to L = L ∧ (∀ (k : Nat) (v : GWay), k < q → (waysAt t (K (L + 1)))[k]? = some v → farS t v.To to L ≠ L)
theorem Trail.dirs {t : GTables} {fr to : Int} {n : Nat} {K : Nat → Int} (h : Trail t fr to n K) {L q : Nat} {w : GWay} (h1 : (waysAt t (K (L + 1)))[q]? = some w) (h2 : w.To = K L) (h3 : farS t (K L) to L = L) (h4 : ∀ (k : Nat) (v : GWay), k < q → (waysAt t (K (L + 1)))[k]? = some v → farS t v.To to L ≠ L) :
    dirsS t to (L + 1) (K (L + 1)) = w.Dir :: dirsS t to L (K L) := by
  rw [dirsS_step h1 (by rw [h2]; exact h3) h4, h2]
theorem Trail.drop {t : GTables} {fr to : Int} {n : Nat} {K : Nat → Int} (h : Trail t fr to n K) : ∀ i, i ≤ n → (dirsS t to n fr).drop i = dirsS t to (n - i) (K (n - i)) := by
  intro i
  induction i with
  | zero => intro _; rw [List.drop_zero, Nat.sub_zero, h.kn]
  | succ i ih =>
    intro hi
    obtain ⟨L, hL⟩ : ∃ L, n - i = L + 1 := ⟨n - i - 1, by omega⟩
    have hL2 : n - (i + 1) = L := by omega
    have := ih (by omega)
    rw [hL] at this
    obtain ⟨q, w, h1, h2, h3, h4⟩ := h.step L (by omega)
    rw [h.dirs h1 h2 h3 h4] at this
    rw [hL2, ← List.drop_drop, this]
    rfl
def outS (t : GTables) (fr to : Int) (n L : Nat) : List Int := (dirsS t to n fr).take (n - L)
theorem Trail.out {t : GTables} {fr to : Int} {n : Nat} {K : Nat → Int} (h : Trail t fr to n K) {L q : Nat} {w : GWay} (hL : L + 1 ≤ n) (h1 : (waysAt t (K (L + 1)))[q]? = some w) (h2 : w.To = K L) (h3 : farS t (K L) to L = L) (h4 : ∀ (k : Nat) (v : GWay), k < q → (waysAt t (K (L + 1)))[k]? = some v → farS t v.To to L ≠ L) :
    outS t fr to n L = outS t fr to n (L + 1) ++ [w.Dir] := by
  have h5 := h.drop (n - (L + 1)) (by omega)
  rw [show n - (n - (L + 1)) = L + 1 by omega, h.dirs h1 h2 h3 h4] at h5
  unfold outS
  rw [show n - L = n - (L + 1) + 1 by omega, List.take_add_one]
  congr 1
  have : ((dirsS t to n fr).drop (n - (L + 1)))[0]? = some w.Dir := by rw [h5]; rfl
  rw [List.getElem?_drop, Nat.add_zero] at this
  rw [this]; rfl
theorem Trail.len {t : GTables} {fr to : Int} {n : Nat} {K : Nat → Int} (h : Trail t fr to n K) : ∀ L, L ≤ n → (dirsS t to L (K L)).length = L := by
  intro L
  induction L with
  | zero => intro _; rfl
  | succ L ih =>
    intro hL
    obtain ⟨q, w, h1, h2, h3, h4⟩ := h.step L hL
    rw [h.dirs h1 h2 h3 h4, List.length_cons, ih (by omega)]
def keyB (N : List BE) (i : Nat) : Int := (N[i]?.getD ⟨0, 0, 0, 0, 0, 0⟩).key
theorem keyB_some {N : List BE} {i : Nat} {e : BE} (h : N[i]? = some e) : keyB N i = e.key := by simp [keyB, h]
theorem BInv.trail {t : GTables} {fr : Int} {N : List BE} (h : BInv t fr N N.length 0) (hF : fitsB t = true) (hfr : 0 ≤ fr ∧ fr < t.Things.length) {j : Nat} {e : BE} (hj : N[j]? = some e) : Trail t fr e.key e.far.toNat (fun i => keyB N (ancB N j i)) where
  k0 := by simp only [ancB]; exact keyB_some hj
  kn := by
    obtain ⟨f, hf, hff⟩ := h.anc hj e.far.toNat (Nat.le_refl _)
    have h0 := (h.far_le j e hj).1
    have h1 : f.far = 0 := by omega
    have h2 := (h.dist hf).1
    rw [h1] at h2
    simp only [Int.toNat_zero, nowS, List.mem_singleton] at h2
    simp only [keyB_some hf, h2]
  bnd := by
    intro L hL
    obtain ⟨f, hf, hff⟩ := h.anc hj L hL
    simp only [keyB_some hf]
    exact h.bound hF hfr _ (List.mem_map.2 ⟨f, List.mem_of_getElem? hf, rfl⟩)
  ne := by
    intro L h1 hL
    obtain ⟨f, hf, hff⟩ := h.anc hj L hL
    simp only [keyB_some hf]
    intro hk
    have := getB_inj h.nodup hf hj hk
    rw [this, hj] at hf
    obtain rfl := Option.some.inj hf
    omega
  step := by
    intro L hL
    obtain ⟨f, hf, hff⟩ := h.anc hj (L + 1) hL
    obtain ⟨g, hg, hgf⟩ := h.anc hj L (by omega)
    obtain ⟨q, w, h1, h2, h3, h4, h5, h6⟩ := h.step hj L hL hf hg
    simp only [keyB_some hf, keyB_some hg]
    exact ⟨q, w, h1, h2, by rw [← h2]; exact h5, h6⟩

attribute [simp] pathV
theorem pathM_no {t : GTables} {fr to : Int} (h : isB t fr = false ∨ isB t to = false) : pathM t fr to = ([], false) := by
  rcases h with h | h
  · exact pathM_no1 (by simp [h])
  · exact pathM_no2 (by simp [h])

set_option maxRecDepth 20000 in
theorem refPath_ok (t : GTables) (ht : t.wf) (hF : fitsB t = true) (fr to : Int) : Pure Try.prog 14 [.agg (t.enc.map .d), .d (.v (.int .i64 fr)), .d (.v (.int .i64 to))] (pathV (pathM t fr to)) := by
  have hn := fits_things hF
  refine Pure.run Try.func14 rfl (by simp [Try.f14]) ?_; simp [-condC_bool, Try.f14]
  intro bs
  repeat' (first
    | (with_reducible refine And.intro ?_ ?_)
    | (refine condC_split (fun h => ?_) (fun h => ?_) <;> (try simp at h) <;> (try simp [-condC_bool, *]))
    | (refine AOps.pureC rfl (refRoom55_ok t (fits_zero hF) fr) rfl rfl (by simp) rfl ?_ <;> (try simp [-condC_bool, *]))
    | (refine AOps.pureC rfl (refRoom55_ok t (fits_zero hF) to) rfl rfl (by simp) rfl ?_ <;> (try simp [-condC_bool, *]))
    | (refine AOps.lendC rfl (refRoom55_ok t (fits_zero hF) fr) rfl (by simp) rfl rfl (by simp) rfl ?_ <;> (try simp [-condC_bool, *]))
    | (refine AOps.lendC rfl (refRoom55_ok t (fits_zero hF) to) rfl (by simp) rfl rfl (by simp) rfl ?_ <;> (try simp [-condC_bool, *]))
    | (refine AOps.pureG rfl (fun h => refRoom55_ok t (fits_zero hF) fr) rfl (by first | rfl | (simp; rfl)) (by simp) (by simp) rfl ?_ <;> (try simp [-condC_bool, *]))
    | (refine AOps.pureG rfl (fun h => refRoom55_ok t (fits_zero hF) to) rfl (by first | rfl | (simp; rfl)) (by simp) (by simp) rfl ?_ <;> (try simp [-condC_bool, *]))
    | (with_reducible intro _))
  · rw [pathM_no h]; rfl
  · rw [pathM_no h]
  · obtain ⟨h1, h2⟩ := h
    have hi := isB_iff.1 h1
    have hfr : 0 ≤ fr ∧ fr < t.Things.length := by omega
    refine AOps.pureC rfl (far_ok t ht hF fr to hfr t.Things.length (by omega)) rfl rfl (by simp) rfl ?_
    simp [-condC_bool]
    have hinv := bfsB_inv t fr t.Things.length
    have hN : bfsB t fr t.Things.length = metB t fr := rfl
    have hlen := bfsB_len hF hfr t.Things.length
    rw [hN] at hinv hlen
    have hend : ¬ (metB t fr).length < (metB t fr).length := by omega
    have hfull : BInv t fr (metB t fr) (metB t fr).length 0 := by rw [Nat.min_eq_right hlen] at hinv; exact hinv
    by_cases hin : to ∈ keysB (metB t fr)
    · obtain ⟨e, he, hek⟩ := List.mem_map.1 hin
      obtain ⟨j, hj⟩ := List.getElem?_of_mem he
      obtain ⟨hfar, hfl⟩ := hfull.farM hlen hj
      have hT := hfull.trail hF hfr hj
      rw [hek] at hfar hT
      have he0 := (hfull.far_le j e hj).1
      have hfn : farS t fr to t.Things.length = e.far.toNat := by omega
      have hpm := pathM_yes h1 h2 (by omega)
      rw [hfn] at hpm ⊢
      generalize e.far.toNat = n at *
      generalize (fun i => keyB (metB t fr) (ancB (metB t fr) j i)) = K at hT
      have hnl : ¬ (t.Things.length < n) := by omega
      simp [-condC_bool, hnl, hpm]
      try intro (_ : Nat → Nat)
      refine AWP.weaken (Wk.own' (t := 9) (h := 90) (k := 1) (ty := 3) rfl (by simp)) ?_
      refine AWP.loopW n (fun i => ⟨[(1, .d (.v (.int .i64 (K (n - i))))), (2, .d (.v (.int .i64 to))), (3, .bp 3 0), (8, .d (.v (.int .i64 ((n - i : Nat) : Int)))), (9, .rv 90)], [(90, .row 3 1 (dd (encI (outS t fr to n (n - i))))), (3, .box (bs 0 + 1) 28 (t.enc.map .d))]⟩) (fun _ => True) ⟨trivial, ?_⟩ ?_
      · simp only [Nat.sub_zero, hT.kn, outS, Nat.sub_self, List.take_zero]
        exact Wk.pick [1, 2, 3, 8, 9] [90, 3] rfl (by simp) rfl
      intro i hin2 _
      generalize hLi : n - i = L
      cases L with
      | zero =>
        have hK := hT.k0
        have hO : outS t fr to n 0 = dirsS t to n fr := by
          have h7 := hT.len n (Nat.le_refl _)
          rw [hT.kn] at h7
          unfold outS
          rw [List.take_of_length_le (by omega)]
        simp [-condC_bool, hK, hO]
      | succ L =>
        have hne := hT.ne (L + 1) (by omega) (by omega)
        have hL2 : n - (i + 1) = L := by omega
        have hb := hT.bnd (L + 1) (by omega)
        obtain ⟨q, w, g1, g2, g3, g4⟩ := hT.step L (by omega)
        have hout := hT.out (by omega) g1 g2 g3 g4
        have hge := thingAt_elem hb
        have hget := thingAt_get hb
        have hkb2 : 0 ≤ K (L + 1) ∧ (K (L + 1)).toNat < t.Things.length := by omega
        have hwl := fits_ways12 hF (thingAt_mem hb)
        have hwt := BdS.ways hF hb
        have hne2 : (K (L + 1) != to) = true := by simpa using hne
        have hws : (thingAt t (K (L + 1))).Ways = waysAt t (K (L + 1)) := rfl
        have hql := (List.getElem?_eq_some_iff.1 g1).1
        have hqe := (List.getElem?_eq_some_iff.1 g1).2
        rw [hws] at hwl
        simp [-condC_bool, hne, hne2, hkb2, hge, hget, hws]
        generalize waysAt t (K (L + 1)) = ws at *
        refine AWP.loopS [2, 3, 8, 9, 10, 11] q (fun k => [(11, .d (.v (.int .i64 k)))]) (fun _ => []) (fun _ => True) (by rfl) (by simp) ?_
        intro k hk _
        have hkl : k < ws.length := by omega
        have hv := hwt ws[k] (List.getElem_mem _)
        have hfk := far_ok t ht hF ws[k].To to (by omega) L (by omega)
        have g5 := g4 k ws[k]
        generalize hvk : ws[k] = v at *
        refine AWP.regionD [.d (.v (.int .i64 (farS t v.To to L)))] Try.mixed (by kernel_rfl) (by rfl) ?_
        rcases Nat.lt_or_eq_of_le hk with hkq | rfl
        · have hne3 := g5 hkq (by rw [List.getElem?_eq_getElem hkl, hvk])
          have hne4 : ((farS t v.To to L : Int) != (L : Int)) = true := by simp; omega
          have hok := hfk.ok [(90, Res.row 3 1 (dd (encI (outS t fr to n (L + 1))))), (3, Res.box (bs 0 + 1) 28 (List.map V.d t.enc))]
          generalize (farS t v.To to L : Int) = fv at *
          have a1 : inR .i64 (L : Int) := by rw [inR_i64]; omega
          have a2 : inR .i64 ((k : Int) + 1) := by rw [inR_i64]; omega
          simp [-condC_bool, hkl, hvk, hne4, hok, hkq, a1, a2]
        · have hvw : v = w := by rw [← hvk, ← hqe]
          subst hvw
          have hok := hfk.ok [(90, Res.row 3 1 (dd (encI (outS t fr to n (L + 1))))), (3, Res.box (bs 0 + 1) 28 (List.map V.d t.enc))]
          rw [← g2] at g3
          rw [g3] at hok ⊢
          have hol : (outS t fr to n (L + 1)).length ≤ n := by
            have := hT.len n (Nat.le_refl _)
            rw [hT.kn] at this
            unfold outS
            rw [List.length_take, this]; omega
          have a1 : inR .i64 (L : Int) := by rw [inR_i64]; omega
          rw [g2] at hok
          simp [-condC_bool, hkl, hvk, hok, hL2, g2, hout, a1]
          exact ⟨by omega, by omega, Wk.pick [1, 2, 3, 8, 9] [90, 3] rfl (by simp) (by simp)⟩
    · have hfn := hfull.farN hin t.Things.length
      have hpm := pathM_no3 (t := t) (fr := fr) (to := to) (by omega)
      simp [-condC_bool, hfn, hpm]

set_option maxRecDepth 20000 in
theorem path_ok (t : GTables) (ht : t.wf) (hF : fitsB t = true) (fr to : Int) : Pure Try.prog 13 [.agg (t.enc.map .d), .d (.v (.int .i64 fr)), .d (.v (.int .i64 to))] (pathV (pathM t fr to)) := by
  have hn := fits_things hF
  refine Pure.run Try.func13 rfl (by simp [Try.f13]) ?_; simp [-condC_bool, Try.f13]
  intro bs
  repeat' (first
    | (with_reducible refine And.intro ?_ ?_)
    | (refine condC_split (fun h => ?_) (fun h => ?_) <;> (try simp at h) <;> (try simp [-condC_bool, *]))
    | (refine AOps.pureC rfl (is_ok t fr) rfl rfl (by simp) rfl ?_ <;> (try simp [-condC_bool, *]))
    | (refine AOps.pureC rfl (is_ok t to) rfl rfl (by simp) rfl ?_ <;> (try simp [-condC_bool, *]))
    | (refine AOps.lendC rfl (is_ok t fr) rfl (by simp) rfl rfl (by simp) rfl ?_ <;> (try simp [-condC_bool, *]))
    | (refine AOps.lendC rfl (is_ok t to) rfl (by simp) rfl rfl (by simp) rfl ?_ <;> (try simp [-condC_bool, *]))
    | (refine AOps.pureG rfl (fun h => is_ok t fr) rfl (by first | rfl | (simp; rfl)) (by simp) (by simp) rfl ?_ <;> (try simp [-condC_bool, *]))
    | (refine AOps.pureG rfl (fun h => is_ok t to) rfl (by first | rfl | (simp; rfl)) (by simp) (by simp) rfl ?_ <;> (try simp [-condC_bool, *]))
    | (with_reducible intro _))
  · rw [pathM_no h]; rfl
  · rw [pathM_no h]
  · obtain ⟨h1, h2⟩ := h
    have hi := isB_iff.1 h1
    have hfr : 0 ≤ fr ∧ fr < t.Things.length := by omega
    refine AOps.effD [] rfl (steps_ok t ht hF fr hfr) (by simp) rfl (by simp) rfl (by kernel_rfl) (by simp) (by simp) (by simp) (by simp) (by simp) ?_
    simp [-condC_bool]
    have hinv := bfsB_inv t fr t.Things.length
    have hN : bfsB t fr t.Things.length = metB t fr := rfl
    have hlen := bfsB_len hF hfr t.Things.length
    rw [hN] at hinv hlen
    have hfull : BInv t fr (metB t fr) (metB t fr).length 0 := by rw [Nat.min_eq_right hlen] at hinv; exact hinv
    by_cases hin : to ∈ keysB (metB t fr)
    · obtain ⟨e, he, hek⟩ := List.mem_map.1 hin
      obtain ⟨j, hj⟩ := List.getElem?_of_mem he
      obtain ⟨hfar, hfl⟩ := hfull.farM hlen hj
      have hlw := metM_some hfull.nodup hj
      rw [hek] at hfar hlw
      have he0 := (hfull.far_le j e hj).1
      have hfn : farS t fr to t.Things.length = e.far.toNat := by omega
      have hpm := pathM_yes h1 h2 (by omega)
      rw [hfn] at hpm
      simp [-condC_bool, hlw, hpm]
      intro bs2
      have hsf : (stepOf e).far.toNat = e.far.toNat := rfl
      have hsf2 : (stepOf e).far = e.far := rfl
      have hanc := fun i => hfull.anc hj i
      have hstep := fun L h1 f1 g hf hg => hfull.step hj L h1 (f1 := f1) (g := g) hf hg
      have hT := hfull.trail hF hfr hj
      rw [hek] at hstep hT
      have hKn := hT.kn
      have hK0 := hT.k0
      have hn0 : ((e.far.toNat : Nat) : Int) = e.far := by omega
      have hnl : e.far.toNat < 128 := by omega
      refine ⟨⟨by omega, by unfold maxLen; omega, by omega⟩, ?_⟩
      rw [hsf]
      generalize hnn : e.far.toNat = n at *
      have hz : ∀ (m : Nat) (d : Int) (l : List Int), (List.replicate (m + 1) 0 ++ l).set m d = List.replicate m 0 ++ d :: l := by
        intro m d l
        induction m with
        | zero => rfl
        | succ m ih => rw [List.replicate_succ, List.cons_append, List.set_cons_succ, ih]; rfl
      have hf0 : (metB t fr)[ancB (metB t fr) j 0]?.getD ⟨0, 0, 0, 0, 0, 0⟩ = e := by simp [ancB, hj]
      refine AWP.loopS [8, 9, 11] n (fun _ => []) (fun i => [(35, .row 3 1 (dd (encI (List.replicate (n - i) 0 ++ dirsS t to i (keyB (metB t fr) (ancB (metB t fr) j i)))))), (9, .box (bs2 0 + 1) 73 ((stepOf ((metB t fr)[ancB (metB t fr) j i]?.getD ⟨0, 0, 0, 0, 0, 0⟩)).enc.map .d))]) (fun _ => True) (by rfl) (by simp [hf0, dirsS]) ?_
      intro i hi2 _
      obtain ⟨g, hg, hgf⟩ := hanc i hi2
      rcases Nat.lt_or_eq_of_le hi2 with hlt | rfl
      · obtain ⟨f, hf, hff⟩ := hanc (i + 1) hlt
        obtain ⟨q, w, h3, h4, h5, h6, h7, h8⟩ := hstep i hlt f g hf hg
        have hds := dirsS_step h3 h7 h8
        rw [h4, h5] at hds
        have hlf := metM_some hfull.nodup hf
        rw [← h6] at hlf
        obtain ⟨m, hm⟩ : ∃ m, n - i = m + 1 := ⟨n - i - 1, by omega⟩
        have hm2 : n - (i + 1) = m := by omega
        have hgm : g.far = (m : Int) + 1 := by omega
        have hmr : inR .i64 (m : Int) := by rw [inR_i64]; omega
        have hfm : f.far = (m : Int) := by omega
        simp [-condC_bool, hg, hf, keyB, stepOf, Gstep.enc, hm, hm2, hgm, hlf, hmr, hz, hds, hfm]
        omega
      · have hg0 : g.far = 0 := by omega
        have hgk : g.key = fr := by simpa [keyB, hg] using hKn
        simp [-condC_bool, hg, keyB, stepOf, Gstep.enc, hg0, hgk]
    · have hfn := hfull.farN hin t.Things.length
      have hpm := pathM_no3 (t := t) (fr := fr) (to := to) (by omega)
      have hlw := metM_none.2 hin
      simp [-condC_bool, hlw, hpm]
end Go.Ab

set_option linter.unusedSimpArgs false
set_option linter.unusedVariables false
namespace Go.Ab
open Go.Proofs

def hallT : GTables := ⟨0, 0, 0, 0, [⟨#[72, 97, 108, 108]⟩, ⟨#[67, 97, 118, 101]⟩], 4, [], [], [⟨0, -1, 0, 0, false, [], [], [], []⟩, ⟨0, -1, 2, 0, false, [], [], [], []⟩, ⟨0, -1, 0, 0, true, [], [], [], [⟨1, 3, -1, -1⟩]⟩, ⟨1, -1, 0, 0, true, [], [], [], []⟩], [], [], [], [], [], []⟩
def thC (ti te pa : Int) (r : Bool) (ws : D) : List D := [.v (.int .i64 ti), .v (.int .i64 te), .v (.int .i64 pa), .v (.int .i64 0), .v (.bool r), .v (.slice none 0 0), .v (.slice none 0 0), .v (.slice none 0 0), ws]
def nilD : D := .v (.slice none 0 0)
theorem hall_wf : hallT.wf := by
  simp [hallT, GTables.wf, GThing.wf, GWay.wf, inR_i64]
  decide
theorem hall_fits : fitsB hallT = true := by decide +kernel
theorem hall_p1 : pathM hallT 2 3 = ([1], true) := by decide +kernel
theorem hall_p2 : pathM hallT 3 2 = ([], false) := by decide +kernel
theorem hall_r : roomsM hallT.Things 0 = [2, 3] := by decide +kernel
theorem hall_re : reachM hallT 2 = [2, 3] := by decide +kernel
theorem hall_o : oneWayM hallT = [⟨2, 3, ⟨0, 0, 0, 0, 1⟩⟩] := by decide +kernel
theorem hall_d : drawM hallT = ⟨#[72, 97, 108, 108, 58, 32, 110, 111, 114, 116, 104, 32, 67, 97, 118, 101, 10, 67, 97, 118, 101, 58, 10]⟩ := by decide +kernel

set_option maxRecDepth 20000 in
theorem two_ok : Pure Try.prog 44 [] (.agg (hallT.enc.map .d)) := by
  refine Pure.runA Try.func44 rfl (by simp [Try.f44]) ?_
  refine AWP.seqK ?_
  simp [Try.f44]
  intro bs
  refine AWP.seq (AWP.regionS (AOps.stop 8 [] (by rfl) ?_))
  simp
  refine AOps.weaken (Wk.freezeN 5 (ys := [[.v (.int .i64 1), .v (.int .i64 3), .v (.int .i64 (-1)), .v (.int .i64 (-1))]]) rfl) ?_
  simp
  refine AOps.weaken (Wk.freezeN 8 (ys := [thC 0 (-1) 0 false nilD, thC 0 (-1) 2 false nilD, thC 0 (-1) 0 true (.sl [[.v (.int .i64 1), .v (.int .i64 3), .v (.int .i64 (-1)), .v (.int .i64 (-1))]]), thC 1 (-1) 0 true nilD]) rfl) ?_
  simp [thC, nilD]
  refine AOps.weaken (Wk.freezeN 1 (ys := [[.v (.string ⟨#[72, 97, 108, 108]⟩)], [.v (.string ⟨#[67, 97, 118, 101]⟩)]]) rfl) ?_
  simp
  refine runC_sound _ _ [] (by rfl) ?_
  simp
  refine AWP.ret ?_
  simp [hallT, GThing.enc, GTables.enc, GWay.enc, encI, encS]

set_option maxRecDepth 20000 in
theorem awake55_ok : Pure Try.prog 12 [] (.d (.v (.bool true))) := by
  have c1 := path_ok hallT hall_wf hall_fits 2 3
  have c2 := path_ok hallT hall_wf hall_fits 3 2
  have c3 := oneWay_ok hallT hall_wf hall_fits
  have c4 := rooms_law hallT hall_wf
  have c5 := reach_ok hallT hall_wf hall_fits 2
  have c6 := draw_ok hallT hall_wf hall_fits
  have i1 := refInts_ok [2, 3] [2, 3] (by decide)
  have i2 := refInts_ok [1] [1] (by decide)
  rw [show decide (([2, 3] : List Int) = [2, 3]) = true by simp] at i1
  rw [show decide (([1] : List Int) = [1]) = true by simp] at i2
  rw [hall_p1] at c1
  rw [hall_p2] at c2
  rw [hall_o] at c3
  rw [hall_r] at c4
  rw [hall_re] at c5
  rw [hall_d] at c6
  refine Pure.run Try.func12 rfl (by simp [Try.f12]) ?_; simp [-condC_bool, Try.f12]
  refine AOps.pureC rfl (two_ok) rfl rfl (by simp) rfl ?_
  simp
  intro bs
  refine AOps.pureC rfl (c1) rfl rfl (by simp) rfl ?_
  simp
  refine AOps.pureC rfl (c2) rfl rfl (by simp) rfl ?_
  simp
  refine AOps.pureC rfl (c3) rfl rfl (by simp) rfl ?_
  simp
  refine AOps.pureC rfl (c4) rfl rfl (by simp) rfl ?_
  simp
  refine AOps.weaken (Wk.freezeN 22 (ys := [[.v (.int .i64 2)], [.v (.int .i64 3)]]) rfl) ?_
  simp
  refine AOps.pureC rfl (i1) rfl rfl (by simp) rfl ?_
  simp
  refine AOps.pureG rfl (fun _ => c5) rfl (by first | rfl | (simp; rfl)) (by simp) (by simp) rfl ?_
  simp
  refine AOps.weaken (Wk.freezeN 27 (ys := [[.v (.int .i64 2)], [.v (.int .i64 3)]]) rfl) ?_
  simp
  refine AOps.pureG rfl (fun _ => i1) rfl (by first | rfl | (simp; rfl)) (by simp) (by simp) rfl ?_
  simp
  refine AOps.weaken (Wk.freezeN 32 (ys := [[.v (.int .i64 1)]]) rfl) ?_
  simp
  refine AOps.pureG rfl (fun _ => i2) rfl (by first | rfl | (simp; rfl)) (by simp) (by simp) rfl ?_
  simp [GEdge.enc, eqVs, vals, eqVals, eqV1, fitVs, fits, fit1]
  refine AOps.pureG rfl (fun _ => c6) rfl (by first | rfl | (simp; rfl)) (by simp) (by simp) rfl ?_
  simp
end Go.Ab

set_option linter.unusedSimpArgs false
set_option linter.unusedVariables false
namespace Go.Ab
open Go.Proofs

theorem rooms_le (t : GTables) (hF : fitsB t = true) : (roomsM t.Things 0).length ≤ 128 := by
  have h1 := roomsM_len t.Things 0
  have h2 := fits_things hF
  omega
theorem reach_le (t : GTables) (hF : fitsB t = true) (fr : Int) : (reachM t fr).length ≤ 128 := by
  unfold reachM
  split
  · exact Nat.le_trans (List.length_filter_le _ _) (rooms_le t hF)
  · simp

set_option maxRecDepth 20000 in
theorem chartRooms_ok (t : GTables) (ht : t.wf) (fr d : Int) : Pure Try.prog 5 [.agg (t.enc.map .d), .d (.v (.int .i64 fr)), .d (.v (.int .i64 d))] (.d (.v (.bool true))) := by
  refine Pure.run Try.func5 rfl (by simp [Try.f5]) ?_; simp [-condC_bool, Try.f5]
  intro bs
  refine AOps.pureC rfl (refFits_ok t ht) (by simp) rfl (by simp) rfl ?_
  cases hF : fitsB t with
  | false =>
    simp
    refine AOps.pureC rfl (awake55_ok) (by simp) rfl (by simp) rfl ?_
    simp
  | true =>
    have i1 := refInts_ok (roomsM t.Things 0) (roomsM t.Things 0) (by have := rooms_le t hF; omega)
    have i2 := refInts_ok (reachM t fr) (reachM t fr) (by have := reach_le t hF fr; omega)
    simp only [decide_true] at i1 i2
    have h1 := (oneWay_ok t ht hF).ok
    have h2 := (refOneWay_ok t ht hF).ok
    have h3 := (rooms_law t ht).ok
    have h4 := (refRooms_ok t ht).ok
    have h5 := (reach_ok t ht hF fr).ok
    have h6 := (refReach_ok t ht hF fr).ok
    have h7 := (back_ok d).ok
    have h8 := (refBack_ok d).ok
    have h9 := (draw_ok t ht hF).ok
    have h10 := (refDraw_ok t ht hF).ok
    have i3 := i1.ok
    have i4 := i2.ok
    simp
    refine AWP.regionD [.d (.sl ((oneWayM t).map GEdge.enc)), .d (.sl ((oneWayM t).map GEdge.enc))] Try.mixed (by kernel_rfl) (by rfl) ?_
    simp [h1, h2]
    refine AWP.regionD [.d (.sl (encI (roomsM t.Things 0))), .d (.sl (encI (roomsM t.Things 0))), .d (.v (.bool true)), .d (.sl (encI (reachM t fr))), .d (.sl (encI (reachM t fr))), .d (.v (.bool true)), .d (.v (.int .i64 (backM d))), .d (.v (.int .i64 (backM d))), .d (.v (.string (drawM t))), .d (.v (.string (drawM t)))] Try.mixed (by kernel_rfl) (by rfl) ?_
    simp [h3, h4, h5, h6, h7, h8, h9, h10, i3, i4]
    have hl : (oneWayM t).length ≤ 1536 := by
      have h1 := flat_le (f := edgesAt t) (n := 12) (roomsM t.Things 0) (fun y hy => edgesAt_len hF (by have := roomsM_mem hy; omega))
      have := rooms_le t hF
      unfold oneWayM
      omega
    clear h1 h2 h3 h4 h5 h6 h7 h8 h9 h10 i1 i2 i3 i4
    generalize oneWayM t = l at *
    refine AWP.loopL [7, 8, 9] l (fun pre => [(9, .d (.v (.int .i64 pre.length)))]) (fun _ => []) (fun _ => True) (by rfl) (by omega) (by simp) ?_ ?_
    · rintro pre e post hsp - hlt2 hge2 a5
      clear hsp
      simp [-condC_bool, hlt2, hge2]
      refine AWP.regionD [] Try.mixed (by kernel_rfl) (by rfl) ?_
      simp [hlt2, hge2, a5]
    · intro _
      simp
      refine AOps.pureC rfl (awake55_ok) (by simp) rfl (by simp) rfl ?_
      simp

theorem dirs_le (t : GTables) (to : Int) : ∀ n x, (dirsS t to n x).length ≤ n
  | 0, x => by simp [dirsS]
  | n + 1, x => by
    rw [dirsS]
    split
    · have := dirs_le t to n
      simp [this]
    · simp
theorem path_le (t : GTables) (hF : fitsB t = true) (fr to : Int) : (pathM t fr to).1.length ≤ 128 := by
  have h2 := fits_things hF
  unfold pathM
  split
  · rename_i h
    exact Nat.le_trans (dirs_le _ _ _ _) (by omega)
  · simp
set_option maxRecDepth 20000 in
theorem chartPath_ok (t : GTables) (ht : t.wf) (fr to : Int) : Pure Try.prog 3 [.agg (t.enc.map .d), .d (.v (.int .i64 fr)), .d (.v (.int .i64 to))] (.d (.v (.bool true))) := by
  have b1 := GTables.wl_Things ht
  have hc1 := refFits_ok t ht
  have hc2 := awake55_ok
  by_cases hF : fitsB t = true
  · have h1 := path_ok t ht hF fr to
    have h2 := refPath_ok t ht hF fr to
    have hp := path_le t hF fr to
    have i1 := refInts_ok (pathM t fr to).1 (pathM t fr to).1 (by omega)
    simp only [decide_true] at i1
    rw [hF] at hc1
    generalize pathM t fr to = q at *
    refine Pure.run Try.func3 rfl (by simp [Try.f3]) ?_; simp [-condC_bool, Try.f3]
    try intro (_ : Nat → Nat)
    repeat' (first
      | (with_reducible refine And.intro ?_ ?_)
      | (refine condC_split (fun h => ?_) (fun h => ?_) <;> (try simp at h) <;> (try simp [-condC_bool, *]))
      | (refine AOps.pureC rfl (hc1) rfl rfl (by simp) rfl ?_ <;> (try simp [-condC_bool, *]))
      | (refine AOps.pureC rfl (hc2) rfl rfl (by simp) rfl ?_ <;> (try simp [-condC_bool, *]))
      | (refine AOps.pureC rfl (h1) rfl rfl (by simp) rfl ?_ <;> (try simp [-condC_bool, *]))
      | (refine AOps.pureC rfl (h2) rfl rfl (by simp) rfl ?_ <;> (try simp [-condC_bool, *]))
      | (refine AOps.pureC rfl (i1) rfl rfl (by simp) rfl ?_ <;> (try simp [-condC_bool, *]))
      | (refine AOps.lendC rfl (hc1) rfl (by simp) rfl rfl (by simp) rfl ?_ <;> (try simp [-condC_bool, *]))
      | (refine AOps.lendC rfl (hc2) rfl (by simp) rfl rfl (by simp) rfl ?_ <;> (try simp [-condC_bool, *]))
      | (refine AOps.lendC rfl (h1) rfl (by simp) rfl rfl (by simp) rfl ?_ <;> (try simp [-condC_bool, *]))
      | (refine AOps.lendC rfl (h2) rfl (by simp) rfl rfl (by simp) rfl ?_ <;> (try simp [-condC_bool, *]))
      | (refine AOps.lendC rfl (i1) rfl (by simp) rfl rfl (by simp) rfl ?_ <;> (try simp [-condC_bool, *]))
      | (refine AOps.pureG rfl (fun h => hc1) rfl (by first | rfl | (simp; rfl)) (by simp) (by simp) rfl ?_ <;> (try simp [-condC_bool, *]))
      | (refine AOps.pureG rfl (fun h => hc2) rfl (by first | rfl | (simp; rfl)) (by simp) (by simp) rfl ?_ <;> (try simp [-condC_bool, *]))
      | (refine AOps.pureG rfl (fun h => h1) rfl (by first | rfl | (simp; rfl)) (by simp) (by simp) rfl ?_ <;> (try simp [-condC_bool, *]))
      | (refine AOps.pureG rfl (fun h => h2) rfl (by first | rfl | (simp; rfl)) (by simp) (by simp) rfl ?_ <;> (try simp [-condC_bool, *]))
      | (refine AOps.pureG rfl (fun h => i1) rfl (by first | rfl | (simp; rfl)) (by simp) (by simp) rfl ?_ <;> (try simp [-condC_bool, *]))
      | (with_reducible intro _))
  · have hF' : fitsB t = false := by simpa using hF
    rw [hF'] at hc1
    refine Pure.run Try.func3 rfl (by simp [Try.f3]) ?_; simp [-condC_bool, Try.f3]
    try intro (_ : Nat → Nat)
    repeat' (first
      | (with_reducible refine And.intro ?_ ?_)
      | (refine condC_split (fun h => ?_) (fun h => ?_) <;> (try simp at h) <;> (try simp [-condC_bool, *]))
      | (refine AOps.pureC rfl (hc1) rfl rfl (by simp) rfl ?_ <;> (try simp [-condC_bool, *]))
      | (refine AOps.pureC rfl (hc2) rfl rfl (by simp) rfl ?_ <;> (try simp [-condC_bool, *]))
      | (refine AOps.lendC rfl (hc1) rfl (by simp) rfl rfl (by simp) rfl ?_ <;> (try simp [-condC_bool, *]))
      | (refine AOps.lendC rfl (hc2) rfl (by simp) rfl rfl (by simp) rfl ?_ <;> (try simp [-condC_bool, *]))
      | (refine AOps.pureG rfl (fun h => hc1) rfl (by first | rfl | (simp; rfl)) (by simp) (by simp) rfl ?_ <;> (try simp [-condC_bool, *]))
      | (refine AOps.pureG rfl (fun h => hc2) rfl (by first | rfl | (simp; rfl)) (by simp) (by simp) rfl ?_ <;> (try simp [-condC_bool, *]))
      | (with_reducible intro _))

theorem chartBack_ok (d : Int) : Pure Try.prog 6 [.d (.v (.int .i64 d))] (.d (.v (.bool true))) := by
  have h1 := back_ok d
  have h2 := back_ok (backM d)
  have h3 := awake55_ok
  by_cases hd : d < 1 ∨ 12 < d
  · have hb : backM d = 0 := by simp [backM, hd]
    rw [hb] at h1
    refine Pure.run Try.func6 rfl (by simp [Try.f6]) ?_; simp [-condC_bool, Try.f6]
    repeat' (first
      | (with_reducible refine And.intro ?_ ?_)
      | (refine condC_split (fun h => ?_) (fun h => ?_) <;> (try simp at h) <;> (try simp [-condC_bool, *]))
      | (refine AOps.pureC rfl (h1) rfl rfl (by simp) rfl ?_ <;> (try simp [-condC_bool, *]))
      | (refine AOps.pureC rfl (h3) rfl rfl (by simp) rfl ?_ <;> (try simp [-condC_bool, *]))
      | (refine AOps.lendC rfl (h1) rfl (by simp) rfl rfl (by simp) rfl ?_ <;> (try simp [-condC_bool, *]))
      | (refine AOps.lendC rfl (h3) rfl (by simp) rfl rfl (by simp) rfl ?_ <;> (try simp [-condC_bool, *]))
      | (refine AOps.pureG rfl (fun h => h1) rfl (by first | rfl | (simp; rfl)) (by simp) (by simp) rfl ?_ <;> (try simp [-condC_bool, *]))
      | (refine AOps.pureG rfl (fun h => h3) rfl (by first | rfl | (simp; rfl)) (by simp) (by simp) rfl ?_ <;> (try simp [-condC_bool, *]))
      | (with_reducible intro _))
    all_goals (exfalso; omega)
  · have hb : 1 ≤ backM d ∧ backM d ≤ 12 ∧ backM d ≠ d ∧ backM (backM d) = d := by
      have : d = 1 ∨ d = 2 ∨ d = 3 ∨ d = 4 ∨ d = 5 ∨ d = 6 ∨ d = 7 ∨ d = 8 ∨ d = 9 ∨ d = 10 ∨ d = 11 ∨ d = 12 := by omega
      rcases this with rfl | rfl | rfl | rfl | rfl | rfl | rfl | rfl | rfl | rfl | rfl | rfl <;> decide
    obtain ⟨hb1, hb2, hb3, hb4⟩ := hb
    rw [hb4] at h2
    generalize backM d = b at *
    refine Pure.run Try.func6 rfl (by simp [Try.f6]) ?_; simp [-condC_bool, Try.f6]
    repeat' (first
      | (with_reducible refine And.intro ?_ ?_)
      | (refine condC_split (fun h => ?_) (fun h => ?_) <;> (try simp at h) <;> (try simp [-condC_bool, *]))
      | (refine AOps.pureC rfl (h1) rfl rfl (by simp) rfl ?_ <;> (try simp [-condC_bool, *]))
      | (refine AOps.pureC rfl (h2) rfl rfl (by simp) rfl ?_ <;> (try simp [-condC_bool, *]))
      | (refine AOps.pureC rfl (h3) rfl rfl (by simp) rfl ?_ <;> (try simp [-condC_bool, *]))
      | (refine AOps.lendC rfl (h1) rfl (by simp) rfl rfl (by simp) rfl ?_ <;> (try simp [-condC_bool, *]))
      | (refine AOps.lendC rfl (h2) rfl (by simp) rfl rfl (by simp) rfl ?_ <;> (try simp [-condC_bool, *]))
      | (refine AOps.lendC rfl (h3) rfl (by simp) rfl rfl (by simp) rfl ?_ <;> (try simp [-condC_bool, *]))
      | (refine AOps.pureG rfl (fun h => h1) rfl (by first | rfl | (simp; rfl)) (by simp) (by simp) rfl ?_ <;> (try simp [-condC_bool, *]))
      | (refine AOps.pureG rfl (fun h => h2) rfl (by first | rfl | (simp; rfl)) (by simp) (by simp) rfl ?_ <;> (try simp [-condC_bool, *]))
      | (refine AOps.pureG rfl (fun h => h3) rfl (by first | rfl | (simp; rfl)) (by simp) (by simp) rfl ?_ <;> (try simp [-condC_bool, *]))
      | (with_reducible intro _))
    all_goals (exfalso; omega)
end Go.Ab

import Derived.Test.YticchnalleplcaaAbGwrite
set_option linter.unusedSimpArgs false
set_option linter.unusedVariables false
namespace Go.Ab
open Go.Proofs

def WExpr (x : GExpr) : Prop := ∀ (b : Nat) (l : List GIns) (n : Int), 0 ≤ n ∧ n + 2 * szE x ≤ 100000 ∧ l.length + 6 * szE x ≤ 600000 →
  WCalls 59 [.agg (x.enc.map .d)] b l n (.tup []) (l ++ (genE x n).1) (genE x n).2

theorem wexprs_of (es : List GExpr) (hes : es.length ≤ 2199023255488) (b : Nat) (l : List GIns) (n : Int) (hn : 0 ≤ n ∧ n + 2 * szEs es ≤ 100000 ∧ l.length + 6 * szEs es ≤ 600000) (ih : ∀ x ∈ es, WExpr x) :
    WCalls 94 [.d (.sl (es.map GExpr.enc))] b l n (.tup []) (l ++ (genEs es n).1) (genEs es n).2 := by
  have hbd := fun i => genEs_bd (es.take i) (fun x _ m => genE_bd x m) n
  have hszs : ∀ i, szEs (es.take i) ≤ szEs es := fun i => by
    have := szEs_app (es.take i) (es.drop i); rw [List.take_append_drop] at this; omega
  unfold WCalls wb
  refine ACalls.runP [5001, 5002] (by simp) Try.func94 rfl (by simp [Try.f94]) ?_; simp [Try.f94]
  refine AWP.loopS [0, 6, 7, 8] es.length (fun i => [(8, .d (.v (.int .i64 i)))]) (fun i => [(5001, .box (b + 1) 97 [.rv 5002, .d (.v (.int .i64 (genEs (es.take i) n).2))]), (5002, .row 64 2 (dd ((l ++ (genEs (es.take i) n).1).map GIns.enc)))]) (fun _ => True) (by rfl) (by simp [genEs]) ?_
  intro i hi _
  rcases Nat.lt_or_eq_of_le hi with hlt | rfl
  · have hge : es[i]? = some es[i] := List.getElem?_eq_getElem hlt
    have htk : List.take (i + 1) es = List.take i es ++ [es[i]] := by rw [List.take_add_one, hge]; rfl
    have hS := ih es[i] (List.getElem_mem hlt)
    have hsn := genEs_snoc (es.take i) es[i] n
    have hsz := szEs_app (es.take i) [es[i]]
    rw [← htk] at hsn hsz
    simp only [szEs] at hsz
    have h0 := hszs (i + 1)
    have h1 := hbd i
    generalize hE : es[i] = x at *
    generalize hM : genEs (es.take i) n = k at *
    generalize hM' : genEs (es.take (i + 1)) n = k' at *
    obtain ⟨k1, k2⟩ := k
    simp only at hsn h1
    have a4 : inR .i64 ((i : Int) + 1) := by rw [inR_i64]; omega
    have hC := hS b (l ++ k1) k2 ⟨by omega, by omega, by rw [List.length_append]; omega⟩
    generalize genE x k2 = q at *
    obtain ⟨q1, q2⟩ := q
    simp [hlt, hge, hE]
    intro bs
    refine AOps.effD [5001, 5002] rfl (hC) (by simp [wb]) rfl (by simp) rfl (by kernel_rfl) (by simp [wb]) (by simp [wb]) (by simp [wb]) (by simp [wb]) (by simp [wb]) ?_
    simp [hM', hsn, a4, hlt, wb]
  · simp
end Go.Ab

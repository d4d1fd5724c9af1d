/- A value by value: what reading it gives, and back. -/
import Derived.Test.YtefdkpfndjlpgaaDoorPost
import Derived.Lib.SmallJoins
import Derived.SizedLaws
namespace Go.Proofs.YtefdkpfndjlpgaaDoor
open Go.ChangeShapes Go.WideShapes Go.RowKit Go.Joins
open Go.ChangeMaps (open_string shut_string)
set_option linter.unusedVariables false
theorem v_cells : Tryd.prog.cellsOf 23 = 4 := by kernel_rfl
/-- a value's data -/
def V.data {H : Type} (v : V) : DataW H := .agg [.lit (.int .i64 v.t), .lit (.int .i64 v.n), .lit (.string v.s.data.toList), .lit (.bool v.b)]
/-- its numbers fit, its text is no longer than any -/
structure V.Wf (v : V) : Prop where
  t : (Lit.int .i64 v.t).wf = true
  n : (Lit.int .i64 v.n).wf = true
  s : v.s.size ≤ maxLen
section
variable {H : Type} {enc : TypeId × Value → H} {w : World} {base : Nat} {sp : Nat → Bool} {held : Bool}
set_option maxRecDepth 100000 in
theorem open_value {r : Reach} {b0 : Nat} {v : Value} {d : DataW H} {p : List MemPlace} (hv : Value.okWide Tryd.prog w r b0 23 v) (h : DataW.Trod enc Tryd.prog w base sp held 23 v d p) :
    ∃ a : V, v = a.val ∧ d = a.data ∧ p = [] ∧ a.Wf := by
  obtain ⟨v0, v1, v2, v3, y0, y1, y2, y3, n, rfl, rfl, rfl, h0, h1, h2, h3⟩ := open_agg4 Tryd.underlying23 (by kernel_rfl) v_cells hv h
  obtain ⟨x0, e0, rfl, w0⟩ := DataW.trod_int Tryd.underlying3 h0
  obtain ⟨x1, e1, rfl, w1⟩ := DataW.trod_int Tryd.underlying3 h1
  obtain ⟨x2, e2, rfl, w2⟩ := DataW.trod_string Tryd.underlying9 h2
  obtain ⟨x3, e3, rfl⟩ := DataW.trod_bool Tryd.underlying4 h3
  simp only [List.cons.injEq, and_true] at e0 e1 e2 e3
  subst e0 e1 e2 e3
  exact ⟨⟨x0, x1, x2, x3⟩, rfl, rfl, rfl, w0, w1, w2⟩
set_option maxRecDepth 100000 in
theorem shut_value (a : V) (ha : a.Wf) : DataW.Trod enc Tryd.prog w base sp held 23 a.val a.data [] := by
  have h0 := field_of_Trod (shut_int (enc := enc) (w := w) (base := base) (spare := sp) (held := held) Tryd.underlying3 ha.t) rfl
  have h1 := field_of_Trod (shut_int (enc := enc) (w := w) (base := base) (spare := sp) (held := held) Tryd.underlying3 ha.n) rfl
  have h2 := field_of_Trod (shut_string (enc := enc) (w := w) (base := base) (held := held) (sp := sp) Tryd.underlying9 ha.s) rfl
  have h3 := field_of_Trod (shut_bool (enc := enc) (w := w) (base := base) (spare := sp) (held := held) Tryd.underlying4 a.b) rfl
  exact shut_agg4 Tryd.underlying23 (by kernel_rfl) v_cells h0 h1 h2 h3
end
theorem sized_value {H : Type} {ts : List TypeId} {ds : List (DataW H)} (h : (DataW.weightsEach Tryd.prog ts ds).all (· ≤ reachBytes) = true) {j : Nat} {a : V} (ht : ts[j]? = some 23) (hd : ds[j]? = some a.data) : a.s.size ≤ 140737488355328 := by
  have h1 := List.all_eq_true.1 h _ (DataW.weights_mem_each ht hd a.s.data.toList.length (by
    unfold V.data
    simp [DataW.weights, Tryd.underlying23, DataW.weightsEach]))
  have h2 := reachBytes_lt
  have h3 : a.s.data.toList.length = a.s.size := by simp
  simp only [decide_eq_true_eq] at h1
  omega
end Go.Proofs.YtefdkpfndjlpgaaDoor

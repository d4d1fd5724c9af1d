/- row: lists of rows that came in. -/
import Derived.Test.YtacbhkmkknicoaaDoorOq
import Derived.Test.YtacbhkmkknicoaaDoorLe
namespace Go.Proofs.YtacbhkmkknicoaaDoor
open Go.ChangeShapes Go.WideShapes Go.RowKit Go.Deep Go.Joins
set_option linter.unusedVariables false
set_option linter.unusedSimpArgs false
def wtR (r : Rw) : Nat := (r.l.map wtV).sum
section
variable {H : Type} {enc : TypeId × Value → H} {W W' : World}
/-- a row that came in -/
def RwG (W : World) (x : Rw) : Prop := VAt W x.oa x.l ∧ x.l.length ≤ x.c ∧ (x.oa = none → x.c = 0) ∧ ∀ v ∈ x.l, okI v.t ∧ okI v.n
set_option maxRecDepth 100000 in
theorem read_rw : ∀ cs m y, cs.length = 1 → DataW.trod enc Tryd.prog W 0 (fun _ => true) true m 35 cs = some y → ∃ x : Rw, rF x = cs ∧ RwG W x ∧ wtR x ≤ Rows.uptoBulk y.1 := by
  intro cs m y hlen ht
  match cs, hlen with
  | [u], _ =>
    obtain ⟨oa, c, l, rfl, hat, hl, hc, hg, hw⟩ := open_enc vE (fun x : V => okI x.t ∧ okI x.n) wtV Tryd.underlying35 (by kernel_rfl) read_v rfl ht
    refine ⟨⟨oa, l, c⟩, rfl, ⟨hat, hc, fun h0 => ?_, hg⟩, hw⟩
    simp only at h0
    subst h0
    rcases DataW.trod_slice Tryd.underlying35 ht with ⟨e2, _⟩ | ⟨a, len, cap, elems, rest, m', _, e2, _⟩
    · simp only [List.cons.injEq, and_true, Value.slice.injEq] at e2
      exact e2.2.2
    · simp only [List.cons.injEq, and_true, Value.slice.injEq] at e2
      cases e2.1
set_option maxRecDepth 100000 in
theorem open_rowss {v : Value} {d : DataW H} {p : List MemPlace} {r : _root_.Go.Reach} {b0 : Nat} (hv : Value.okWide Tryd.prog W r b0 48 v) (h : DataW.Trod enc Tryd.prog W 0 (fun _ => true) true 48 v d p) : ∃ oa c l, v = .slice oa l.length c ∧ RAt W oa l ∧ l.length ≤ 9223372036854775807 ∧ l.length ≤ c ∧ (∀ x ∈ l, RwG W x) ∧ (l.map wtR).sum ≤ Rows.uptoBulk d := by
  obtain ⟨a, len, c, rfl⟩ := okWide_slice Tryd.underlying48 hv
  obtain ⟨fuel, h⟩ := h
  obtain ⟨oa, c, l, e, hat, hl, hc, hg, hw⟩ := open_enc rE (RwG W) wtR Tryd.underlying48 (by kernel_rfl) read_rw rfl h
  exact ⟨oa, c, l, e, hat, hl, hc, hg, hw⟩
end
theorem len_wt : ∀ l : List V, 5 * l.length ≤ (l.map wtV).sum
  | [] => Nat.le_refl _
  | v :: r => by
    have := len_wt r
    simp only [List.length_cons, List.map_cons, List.sum_cons]
    unfold wtV at *
    omega
theorem sum_mem {α : Type} (wt : α → Nat) : ∀ {l : List α} {x : α}, x ∈ l → wt x ≤ (l.map wt).sum
  | [], x, h => by cases h
  | y :: r, x, h => by
    simp only [List.map_cons, List.sum_cons]
    rcases List.mem_cons.1 h with rfl | h
    · omega
    · have := sum_mem wt h; omega
theorem rwi_of {W : World} {l : List Rw} (hg : ∀ x ∈ l, RwG W x) (hw : (l.map wtR).sum ≤ 1048576) : ∀ r ∈ l, RwI W r := fun r hr => by
  obtain ⟨h1, h2, h3, _⟩ := hg r hr
  have h4 := sum_mem wtR hr
  have h5 := len_wt r.l
  unfold wtR at h4
  exact ⟨h1, by unfold wtR at hw; omega, h2, h3⟩
end Go.Proofs.YtacbhkmkknicoaaDoor

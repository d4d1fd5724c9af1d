/- row: lists of rows and tables that came in, and what the second form's bound gives of them. -/
import Derived.Test.YtacbhkmkknicoaaDoorOq
import Derived.Test.YtacbhkmkknicoaaDoorLe
import Derived.Test.YtacbhkmkknicoaaDoorBk
namespace Go.Proofs.YtacbhkmkknicoaaDoor
open Go.ChangeShapes Go.WideShapes Go.RowKit Go.Deep Go.Joins
set_option linter.unusedVariables false
set_option linter.unusedSimpArgs false
def wtR (r : Rw) : Nat := (r.l.map wtV).sum
section
variable {H : Type} {enc : TypeId × Value → H} {W W' : World}
/-- a row that came in -/
def RwG (W : World) (x : Rw) : Prop := VAt W x.oa x.l ∧ x.l.length ≤ x.c ∧ (x.oa = none → x.c = 0) ∧ ∀ v ∈ x.l, okI v.t ∧ okI v.n
set_option maxRecDepth 100000 in
theorem read_rw : ∀ cs m y, cs.length = 1 → DataW.trod enc Tryd.prog W 0 (fun _ => true) true m 35 cs = some y → ∃ x : Rw, rF x = cs ∧ RwG W x ∧ wtR x ≤ Rows.uptoBulk y.1 := by
  intro cs m y hlen ht
  match cs, hlen with
  | [u], _ =>
    obtain ⟨oa, c, l, rfl, hat, hl, hc, hg, hw⟩ := open_enc vE (fun x : V => okI x.t ∧ okI x.n) wtV Tryd.underlying35 (by kernel_rfl) read_v rfl ht
    refine ⟨⟨oa, l, c⟩, rfl, ⟨hat, hc, fun h0 => ?_, hg⟩, hw⟩
    simp only at h0
    subst h0
    rcases DataW.trod_slice Tryd.underlying35 ht with ⟨e2, _⟩ | ⟨a, len, cap, elems, rest, m', _, e2, _⟩
    · simp only [List.cons.injEq, and_true, Value.slice.injEq] at e2
      exact e2.2.2
    · simp only [List.cons.injEq, and_true, Value.slice.injEq] at e2
      cases e2.1
set_option maxRecDepth 100000 in
theorem open_rowss {v : Value} {d : DataW H} {p : List MemPlace} {r : _root_.Go.Reach} {b0 : Nat} (hv : Value.okWide Tryd.prog W r b0 48 v) (h : DataW.Trod enc Tryd.prog W 0 (fun _ => true) true 48 v d p) : ∃ oa c l, v = .slice oa l.length c ∧ RAt W oa l ∧ l.length ≤ 9223372036854775807 ∧ l.length ≤ c ∧ (∀ x ∈ l, RwG W x) ∧ (l.map wtR).sum ≤ Rows.uptoBulk d := by
  obtain ⟨a, len, c, rfl⟩ := okWide_slice Tryd.underlying48 hv
  obtain ⟨fuel, h⟩ := h
  obtain ⟨oa, c, l, e, hat, hl, hc, hg, hw⟩ := open_enc rE (RwG W) wtR Tryd.underlying48 (by kernel_rfl) read_rw rfl h
  exact ⟨oa, c, l, e, hat, hl, hc, hg, hw⟩
end
theorem len_wt : ∀ l : List V, 5 * l.length ≤ (l.map wtV).sum
  | [] => Nat.le_refl _
  | v :: r => by
    have := len_wt r
    simp only [List.length_cons, List.map_cons, List.sum_cons]
    unfold wtV at *
    omega
theorem sum_mem {α : Type} (wt : α → Nat) : ∀ {l : List α} {x : α}, x ∈ l → wt x ≤ (l.map wt).sum
  | [], x, h => by cases h
  | y :: r, x, h => by
    simp only [List.map_cons, List.sum_cons]
    rcases List.mem_cons.1 h with rfl | h
    · omega
    · have := sum_mem wt h; omega
theorem rwi_of {W : World} {l : List Rw} (hg : ∀ x ∈ l, RwG W x) (hw : (l.map wtR).sum ≤ 1048576) : ∀ r ∈ l, RwI W r := fun r hr => by
  obtain ⟨h1, h2, h3, _⟩ := hg r hr
  have h4 := sum_mem wtR hr
  have h5 := len_wt r.l
  unfold wtR at h4
  exact ⟨h1, by unfold wtR at hw; omega, h2, h3⟩
/-- what a row weighs is enough for its bytes -/
theorem encV_len (v : V) : (encV v).length ≤ 2 * v.s.size + 9 := by
  unfold encV
  split
  · simp [be8]
  · split
    · unfold encT
      have := esc_len v.s.data.toList
      have h2 : v.s.data.toList.length = v.s.size := by simp
      simp only [List.length_cons, List.length_append, List.length_nil]
      omega
    · split <;> simp
theorem mem_sum {α : Type} (wt : α → Nat) : ∀ {l : List α} {x : α}, x ∈ l → wt x ≤ (l.map wt).sum
  | [], x, h => by cases h
  | y :: r, x, h => by
    simp only [List.map_cons, List.sum_cons]
    rcases List.mem_cons.1 h with rfl | h
    · omega
    · have := mem_sum wt h; omega
theorem join_wt : ∀ l : List V, (joinV l).length ≤ 2 * (l.map wtV).sum
  | [] => by simp [joinV]
  | v :: r => by
    have ih := join_wt r
    have h1 := encV_len v
    have e : joinV (v :: r) = encV v ++ joinV r := rfl
    rw [e, List.length_append, List.map_cons, List.sum_cons]
    unfold wtV at *
    omega
theorem vok_of {l : List V} (hg : ∀ x ∈ l, okI x.t ∧ okI x.n) (hw : (l.map wtV).sum ≤ 1048576) : (∀ v ∈ l, VOk v) ∧ (joinV l).length ≤ 140737488355328 := by
  constructor
  · intro v hv
    have := mem_sum wtV hv
    unfold wtV at this
    exact ⟨(hg v hv).2, by unfold wtV at hw; omega⟩
  · have := join_wt l
    omega
/-- a table that came in is not too long for Schema -/
theorem tab_fit2 {W : World} {t : Tb} (h : TbIn W t) (hw : wtT t ≤ 1048576) : ((joinV (schL t)).length ≤ 1000000000 ∧ (∀ v ∈ schL t, VOk v) ∧ t.cs.length ≤ 2000000 ∧ t.xs.length ≤ 2000000 ∧ t.rs.length ≤ 2000000) ∧ ∀ v ∈ schL t, Cl v := by
  have hC : ∀ l : List Col, l.length ≤ (l.map wtC).sum ∧ (joinV (l.flatMap schC)).length ≤ 60 * (l.map wtC).sum := by
    intro l
    induction l with
    | nil => exact ⟨by simp, by simp [joinV]⟩
    | cons c r ih =>
      have e : (c :: r).flatMap schC = textV c.nm :: numV c.ty :: boolV c.nn :: boolV c.uq :: r.flatMap schC := rfl
      have h1 := encV_len (textV c.nm)
      have h2 : (encV (boolV c.nn)).length ≤ 9 := by cases c.nn <;> decide
      have h3 : (encV (boolV c.uq)).length ≤ 9 := by cases c.uq <;> decide
      have h4 : (textV c.nm).s.size = c.nm.size := rfl
      rw [e]
      simp only [join_cons, List.length_append, List.length_cons, List.map_cons, List.sum_cons, enc_num]
      unfold wtC at *
      omega
  have hX : ∀ l : List Ix, l.length ≤ (l.map wtX).sum ∧ (joinV (l.flatMap schX)).length ≤ 60 * (l.map wtX).sum := by
    intro l
    induction l with
    | nil => exact ⟨by simp, by simp [joinV]⟩
    | cons c r ih =>
      have e : (c :: r).flatMap schX = textV c.nm :: numV c.co :: boolV c.uq :: r.flatMap schX := rfl
      have h1 := encV_len (textV c.nm)
      have h3 : (encV (boolV c.uq)).length ≤ 9 := by cases c.uq <;> decide
      have h4 : (textV c.nm).s.size = c.nm.size := rfl
      rw [e]
      simp only [join_cons, List.length_append, List.length_cons, List.map_cons, List.sum_cons, enc_num]
      unfold wtX at *
      omega
  have hR : ∀ l : List Int, l.length = (l.map fun _ => 1).sum ∧ (joinV (l.map numV)).length = 9 * l.length := by
    intro l
    induction l with
    | nil => exact ⟨by simp, by simp [joinV]⟩
    | cons c r ih =>
      simp only [List.map_cons, join_cons, List.length_append, List.length_cons, List.sum_cons, enc_num]
      omega
  obtain ⟨c1, c2⟩ := hC t.cs
  obtain ⟨x1, x2⟩ := hX t.xs
  obtain ⟨r1, r2⟩ := hR t.rs
  have h1 := encV_len (textV t.nm)
  have h4 : (textV t.nm).s.size = t.nm.size := rfl
  unfold wtT at hw
  have hlen : (joinV (schL t)).length ≤ 200000000 := by
    simp only [schL, sch3, sch2, sch1, join_app, join_cons, List.length_append, enc_num]
    simp only [joinV, List.flatMap_nil, List.length_nil] at *
    omega
  have hcl := cl_sch (t := t) (B := 1048576) (by omega) (by omega) (by omega) (by omega) h.c h.x h.h h.r
  refine ⟨⟨by omega, fun v hv => ?_, by omega, by omega, by omega⟩, hcl⟩
  have h6 := cl_text (hcl v hv)
  have h7 := join_mem hv
  exact ⟨h6.2, by omega⟩
theorem rwb_of {W : World} {l : List Rw} (hg : ∀ x ∈ l, RwG W x) (hw : (l.map wtR).sum ≤ 1048576) : ∀ r ∈ l, RwI W r ∧ (∀ v ∈ r.l, VOk v) ∧ (joinV r.l).length ≤ 140737488355328 := fun r hr => by
  have h4 := sum_mem wtR hr
  unfold wtR at h4
  have h5 := vok_of (hg r hr).2.2.2 (by unfold wtR at hw; omega)
  exact ⟨rwi_of hg hw r hr, h5.1, h5.2⟩
end Go.Proofs.YtacbhkmkknicoaaDoor

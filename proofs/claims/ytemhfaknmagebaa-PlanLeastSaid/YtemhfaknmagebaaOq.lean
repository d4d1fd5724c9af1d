/- Tables, preds and paths that came in. -/
import Derived.Test.YtemhfaknmagebaaPost
import Derived.Test.YtemhfaknmagebaaAw
import Derived.Carry
import Derived.Deep.Slices
import Derived.Deep.Fields
import Derived.Deep.Strs
import Derived.ChangeSame
import Derived.Lib.SmallJoins
namespace Go.Proofs.Ytemhfaknmagebaa
open Go.ChangeShapes Go.WideShapes Go.RowKit Go.Deep Go.Joins
set_option linter.unusedVariables false
theorem laidOut : laidOutB Try.prog = true := by kernel_rfl
theorem list_of {α : Type} (n : Nat) (Q : Nat → α → Prop) (h : ∀ i, i < n → ∃ x, Q i x) : ∃ l : List α, l.length = n ∧ ∀ k (hk : k < l.length), Q k l[k] := by
  induction n with
  | zero => exact ⟨[], rfl, fun k hk => by simp at hk⟩
  | succ n ih =>
    obtain ⟨l, hl, hq⟩ := ih fun i hi => h i (by omega)
    obtain ⟨x, hx⟩ := h n (by omega)
    refine ⟨l ++ [x], by simp [hl], fun k hk => ?_⟩
    by_cases hlt : k < l.length
    · rw [List.getElem_append_left hlt]; exact hq k hlt
    · have : k = n := by simp at hk; omega
      subst this
      rw [List.getElem_append_right (by omega)]
      simpa [hl] using hx
theorem add_lit (b off k : Nat) : (⟨b, off, none⟩ : Addr).add k = ⟨b, off + k, none⟩ := by unfold Addr.add; split <;> simp_all
section
variable {H : Type} {enc : TypeId × Value → H} {W W' : World}
set_option maxRecDepth 100000 in
theorem keep_arg {t : TypeId} (hr : Try.prog.readableRec t = true) (hrow : t < Try.prog.types.size) {v : Value} {d : DataW H} {ps : List MemPlace} (h : DataW.Trod enc Try.prog W 0 (fun _ => true) true t v d ps) (hb : Below W.heap.size W W') (hlt : ∀ x ∈ ps, x.block < W.heap.size) {sp : Nat → Bool} (hs : ∀ p ∈ ps, sp p.block = true) :
    DataW.Trod enc Try.prog W' 0 sp true t v d ps :=
  WideElems.Trod_stays laidOut hr hrow h (fun x hx => hb.same (hlt x hx)) hs
/-- a slice that came in: nil, or a place with its rows -/
theorem open_rows {t e : TypeId} {n : Nat} (hn : 0 < n) (hu : Try.prog.underlying t = some (.slice e)) (hC : Try.prog.cellsOf e = n) {fuel : Nat} {v : Value} {x : DataW H × List MemPlace} {cs0 : List Value} (hv : cs0 = [v]) (h : DataW.trod enc Try.prog W 0 (fun _ => true) true fuel t cs0 = some x) :
    ∃ (oa : Option Addr) (len c : Nat), v = .slice oa len c ∧ (oa = none → c = 0) ∧ len ≤ 9223372036854775807 ∧ (len = 0 ∨ ∃ b off, oa = some ⟨b, off, none⟩ ∧ b < W.heap.size ∧
      ∀ i, i < len → ∃ cs m y, cs.length = n ∧ (∀ j, j < n → W.cell? ⟨b, off + i * n + j, none⟩ = cs[j]?) ∧ DataW.trod enc Try.prog W 0 (fun _ => true) true m e cs = some y) := by
  subst hv
  rcases DataW.trod_slice hu h with ⟨e2, _⟩ | ⟨a, len, cap, elems, rest, m, _, e2, _, _, hl, hm, hel, hi, _⟩
  · simp only [List.cons.injEq, and_true] at e2
    subst e2
    exact ⟨none, 0, 0, rfl, fun _ => rfl, by omega, .inl rfl⟩
  · simp only [List.cons.injEq, and_true] at e2
    subst e2
    rw [hC] at hi
    have hm' : len ≤ 9223372036854775807 := by unfold maxLen at hm; omega
    by_cases hz : len = 0
    · exact ⟨some a, len, cap, rfl, fun h => (by cases h), hm', .inl hz⟩
    · have hall : ∀ i, i < len → ∃ cs m y, cs.length = n ∧ (∀ j, j < n → W.cell? ((a.add (i * n)).add j) = cs[j]?) ∧ DataW.trod enc Try.prog W 0 (fun _ => true) true m e cs = some y := fun i hlt => by
        have h3 := hi i hlt
        rw [List.getElem?_eq_getElem (by omega)] at h3
        obtain ⟨cs, hc, ht⟩ := Option.bind_eq_some_iff.1 h3
        obtain ⟨_, hlen, hcell⟩ := World.cells?_some hc
        exact ⟨cs, m, _, hlen, hcell, ht⟩
      obtain ⟨b, off, spot⟩ := a
      obtain ⟨cs, m1, y, hcl, hcc, _⟩ := hall 0 (by omega)
      have h0 := hcc 0 hn
      rw [List.getElem?_eq_getElem (by omega)] at h0
      have hspot : spot = none := by simpa [Addr.add] using World.cell?_spot h0
      subst hspot
      have hbl : b < W.heap.size := by
        have := World.block_lt_of_cell? _ _ h0
        rwa [add_lit, add_lit] at this
      refine ⟨_, len, cap, rfl, fun h => (by cases h), hm', .inr ⟨b, off, rfl, hbl, fun i hlt => ?_⟩⟩
      obtain ⟨cs, m2, y, h1, h2, h3⟩ := hall i hlt
      exact ⟨cs, m2, y, h1, fun j hj => by have := h2 j hj; rwa [add_lit, add_lit] at this, h3⟩
set_option maxRecDepth 100000 in
/-- a slice of pairs of ints -/
theorem open_pairs {t e : TypeId} (hu : Try.prog.underlying t = some (.slice e)) (hC : Try.prog.cellsOf e = 2) {f0 f1 : Field} (he : Try.prog.underlying e = some (.struct #[f0, f1])) (hf0 : f0.type = 3 ∧ f0.offset = 0) (hf1 : f1.type = 3 ∧ f1.offset = 1) {fuel : Nat} {v : Value} {x : DataW H × List MemPlace} {cs0 : List Value} (hv : cs0 = [v]) (h : DataW.trod enc Try.prog W 0 (fun _ => true) true fuel t cs0 = some x) :
    ∃ oa c l, v = .slice oa l.length c ∧ PAt W oa l ∧ l.length ≤ 9223372036854775807 := by
  obtain ⟨oa, len, c, rfl, _, hm, hr⟩ := open_rows (by omega) hu hC hv h
  rcases hr with rfl | ⟨b, off, rfl, hb, hi⟩
  · exact ⟨oa, c, [], rfl, .inl rfl, by simp⟩
  · have hk3 : Try.prog.cellsOf 3 = 1 := by kernel_rfl
    have hall : ∀ i, i < len → ∃ y : Int × Int, W.cell? ⟨b, off + i * 2, none⟩ = some (.int .i64 y.1) ∧ W.cell? ⟨b, off + i * 2 + 1, none⟩ = some (.int .i64 y.2) := fun i hlt => by
      obtain ⟨cs, m, y, hlen, hcell, ht⟩ := hi i hlt
      obtain ⟨z0, z1, q, _, _, h0, h1⟩ := trod_struct2 he ht
      match cs, hlen, hcell, h0, h1 with
      | [u0, u1], _, hcell, h0, h1 =>
        simp [hk3, hf0, hf1] at h0 h1
        obtain ⟨p, ep, _⟩ := DataW.trod_int Try.underlying3 h0
        obtain ⟨q, eq, _⟩ := DataW.trod_int Try.underlying3 h1
        simp at ep eq
        subst ep eq
        exact ⟨(p, q), by simpa using hcell 0 (by omega), by simpa using hcell 1 (by omega)⟩
    obtain ⟨l, hll, hq⟩ := list_of len _ hall
    exact ⟨_, c, l, by rw [hll], .inr ⟨b, off, rfl, hb, hq⟩, by omega⟩
set_option maxRecDepth 100000 in
theorem open_paths {v : Value} {d : DataW H} {p : List MemPlace} {r : _root_.Go.Reach} {b0 : Nat} (hv : Value.okWide Try.prog W r b0 27 v) (h : DataW.Trod enc Try.prog W 0 (fun _ => true) true 27 v d p) : ∃ oa c l, v = .slice oa l.length c ∧ PAt W oa l ∧ l.length ≤ 9223372036854775807 := by
  obtain ⟨a, len, c, rfl⟩ := okWide_slice Try.underlying27 hv
  obtain ⟨fuel, h⟩ := h
  exact open_pairs Try.underlying27 (by kernel_rfl) Try.underlying39 ⟨rfl, rfl⟩ ⟨rfl, rfl⟩ rfl h
set_option maxRecDepth 100000 in
theorem open_preds {v : Value} {d : DataW H} {p : List MemPlace} {r : _root_.Go.Reach} {b0 : Nat} (hv : Value.okWide Try.prog W r b0 34 v) (h : DataW.Trod enc Try.prog W 0 (fun _ => true) true 34 v d p) : ∃ oa c l, v = .slice oa l.length c ∧ QAt W oa l ∧ l.length ≤ 9223372036854775807 ∧ (oa = none → c = 0) := by
  obtain ⟨a, len, c, rfl⟩ := okWide_slice Try.underlying34 hv
  obtain ⟨fuel, h⟩ := h
  obtain ⟨oa, len, c, e, hnc, hm, hr⟩ := open_rows (n := 4) (by omega) Try.underlying34 (by kernel_rfl) (v := .slice a len c) rfl h
  cases e
  rcases hr with rfl | ⟨b, off, rfl, hb, hi⟩
  · exact ⟨a, c, [], rfl, .inl rfl, by simp, hnc⟩
  · have hk3 : Try.prog.cellsOf 3 = 1 := by kernel_rfl
    have hall : ∀ i, i < len → ∃ y : Pr, W.cell? ⟨b, off + i * 4, none⟩ = some (.int .i64 y.t) ∧ W.cell? ⟨b, off + i * 4 + 1, none⟩ = some (.int .i64 y.c) ∧ W.cell? ⟨b, off + i * 4 + 2, none⟩ = some (.int .i64 y.f) ∧ W.cell? ⟨b, off + i * 4 + 3, none⟩ = some (.int .i64 y.g) := fun i hlt => by
      obtain ⟨cs, m, y, hlen, hcell, ht⟩ := hi i hlt
      obtain ⟨z0, z1, z2, z3, q, _, _, h0, h1, h2, h3⟩ := trod_struct4 Try.underlying33 ht
      match cs, hlen, hcell, h0, h1, h2, h3 with
      | [u0, u1, u2, u3], _, hcell, h0, h1, h2, h3 =>
        simp [hk3] at h0 h1 h2 h3
        obtain ⟨p0, e0, _⟩ := DataW.trod_int Try.underlying3 h0
        obtain ⟨p1, e1, _⟩ := DataW.trod_int Try.underlying3 h1
        obtain ⟨p2, e2, _⟩ := DataW.trod_int Try.underlying3 h2
        obtain ⟨p3, e3, _⟩ := DataW.trod_int Try.underlying3 h3
        simp at e0 e1 e2 e3
        subst e0 e1 e2 e3
        exact ⟨⟨p0, p1, p2, p3⟩, by simpa using hcell 0 (by omega), by simpa using hcell 1 (by omega), by simpa using hcell 2 (by omega), by simpa using hcell 3 (by omega)⟩
    obtain ⟨l, hll, hq⟩ := list_of len _ hall
    exact ⟨_, c, l, by rw [hll], .inr ⟨b, off, rfl, hq⟩, by omega, hnc⟩
set_option maxRecDepth 100000 in
theorem open_stats {v : Value} {d : DataW H} {p : List MemPlace} {r : _root_.Go.Reach} {b0 : Nat} (hv : Value.okWide Try.prog W r b0 31 v) (h : DataW.Trod enc Try.prog W 0 (fun _ => true) true 31 v d p) : ∃ oa c l, v = .slice oa l.length c ∧ SAtW W oa l ∧ l.length ≤ 9223372036854775807 := by
  obtain ⟨a, len, c, rfl⟩ := okWide_slice Try.underlying31 hv
  obtain ⟨fuel, h⟩ := h
  obtain ⟨oa, len, c, e, hnc, hm, hr⟩ := open_rows (n := 3) (by omega) Try.underlying31 (by kernel_rfl) (v := .slice a len c) rfl h
  cases e
  rcases hr with rfl | ⟨b, off, rfl, hb, hi⟩
  · exact ⟨a, c, [], rfl, .inl rfl, by simp⟩
  · have hk3 : Try.prog.cellsOf 3 = 1 := by kernel_rfl
    have hk24 : Try.prog.cellsOf 24 = 1 := by kernel_rfl
    have hall : ∀ i, i < len → ∃ y : Tb, W.cell? ⟨b, off + i * 3, none⟩ = some (.int .i64 y.rows) ∧ W.cell? ⟨b, off + i * 3 + 1, none⟩ = some (.int .i64 y.pages) ∧ W.cell? ⟨b, off + i * 3 + 2, none⟩ = some (.slice y.oi y.ix.length y.ci) ∧ PAt W y.oi y.ix ∧ y.ix.length ≤ 9223372036854775807 ∧ y.rows ≤ 9223372036854775807 := fun i hlt => by
      obtain ⟨cs, m, y, hlen, hcell, ht⟩ := hi i hlt
      obtain ⟨z0, z1, z2, q, _, _, h0, h1, h2⟩ := trod_struct3 Try.underlying26 ht
      match cs, hlen, hcell, h0, h1, h2 with
      | [u0, u1, u2], _, hcell, h0, h1, h2 =>
        simp [hk3, hk24] at h0 h1 h2
        obtain ⟨p0, e0, _, w0⟩ := DataW.trod_int Try.underlying3 h0
        obtain ⟨p1, e1, _, w1⟩ := DataW.trod_int Try.underlying3 h1
        simp at e0 e1
        subst e0 e1
        obtain ⟨oi, ci, ix, e2, hp, hil⟩ := open_pairs Try.underlying24 (by kernel_rfl) Try.underlying23 ⟨rfl, rfl⟩ ⟨rfl, rfl⟩ (v := u2) rfl h2
        subst e2
        refine ⟨⟨p0, p1, oi, ci, ix⟩, by simpa using hcell 0 (by omega), by simpa using hcell 1 (by omega), by simpa using hcell 2 (by omega), hp, hil, ?_⟩
        have h' : IntKind.i64.min ≤ p0 ∧ p0 ≤ 9223372036854775807 := by simpa [Lit.wf] using w0
        exact h'.2
    obtain ⟨l, hll, hq⟩ := list_of len _ hall
    exact ⟨_, c, l, by rw [hll], .inr ⟨b, off, rfl, hq⟩, by omega⟩
end
end Go.Proofs.Ytemhfaknmagebaa

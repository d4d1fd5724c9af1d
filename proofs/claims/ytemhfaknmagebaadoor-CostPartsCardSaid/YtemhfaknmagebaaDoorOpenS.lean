/- A table's statistics that came in. -/
import Derived.Test.YtemhfaknmagebaaDoorOpenP
import Derived.Test.YtemhfaknmagebaaDoorL5
namespace Go.Proofs.YtemhfaknmagebaaDoor
open Go.ChangeShapes Go.WideShapes Go.RowKit Go.Deep Go.Joins
set_option linter.unusedVariables false
theorem list_of {α : Type} (n : Nat) (Q : Nat → α → Prop) (h : ∀ i, i < n → ∃ x, Q i x) : ∃ l : List α, l.length = n ∧ ∀ k (hk : k < l.length), Q k l[k] := by
  induction n with
  | zero => exact ⟨[], rfl, fun k hk => by simp at hk⟩
  | succ n ih =>
    obtain ⟨l, hl, hq⟩ := ih fun i hi => h i (by omega)
    obtain ⟨x, hx⟩ := h n (by omega)
    refine ⟨l ++ [x], by simp [hl], fun k hk => ?_⟩
    by_cases hlt : k < l.length
    · rw [List.getElem_append_left hlt]; exact hq k hlt
    · have : k = n := by simp at hk; omega
      subst this
      rw [List.getElem_append_right (by omega)]
      simpa [hl] using hx
section
variable {H : Type} {enc : TypeId × Value → H} {W W' : World}
theorem add_lit' (b off k : Nat) : (⟨b, off, none⟩ : Addr).add k = ⟨b, off + k, none⟩ := by unfold Addr.add; split <;> simp_all
set_option maxRecDepth 100000 in
theorem open_stat {r : Reach} {b0 : Nat} {v : Value} {d : DataW H} {p : List MemPlace} (hv : Value.okWide Tryd.prog W r b0 34 v) (h : DataW.Trod enc Tryd.prog W 0 (fun _ => true) true 34 v d p) :
    ∃ (R P : Int) (sl : Value) (l : List (Int × Int)), v = .agg #[.int .i64 R, .int .i64 P, sl] ∧ SRow W sl l ∧ R ≤ 9223372036854775807 := by
  have hu : Tryd.prog.underlying 34 = some (.struct (Tryd.prog.fieldsOf 34)) := by kernel_rfl
  have hu' := Tryd.underlying34
  obtain ⟨v0, v1, v2, y0, y1, y2, n, rfl, rfl, rfl, h0, h1, h2⟩ := open_agg3 hu' (by kernel_rfl) (by kernel_rfl) hv h
  obtain ⟨R, e0, _, wR⟩ := DataW.trod_int Tryd.underlying3 h0
  obtain ⟨P, e1, _, wP⟩ := DataW.trod_int Tryd.underlying3 h1
  simp only [List.cons.injEq, and_true] at e0 e1
  subst e0 e1
  have bR := (bd_of_wf wR).2
  rcases DataW.trod_slice Tryd.underlying32 h2 with ⟨e2, _⟩ | ⟨a, len, cap, elems, rest, m, _, e2, _, _, hl, hm, hel, hi, _⟩
  · simp only [List.cons.injEq, and_true] at e2
    subst e2
    exact ⟨R, P, _, [], rfl, ⟨by simp, .inr ⟨rfl, none, 0, rfl⟩⟩, bR⟩
  · simp only [List.cons.injEq, and_true] at e2
    subst e2
    have hC : Tryd.prog.cellsOf 55 = 2 := by kernel_rfl
    rw [hC] at hi
    have hall : ∀ i, i < len → ∃ x : Int × Int, W.cell? (a.add (i * 2)) = some (.int .i64 x.1) ∧ W.cell? ((a.add (i * 2)).add 1) = some (.int .i64 x.2) := by
      intro i hlt
      have h3 := hi i hlt
      rw [List.getElem?_eq_getElem (by omega)] at h3
      obtain ⟨cs, hc, ht⟩ := Option.bind_eq_some_iff.1 h3
      obtain ⟨_, hlen, hcell⟩ := World.cells?_some hc
      obtain ⟨z0, z1, q, _, hcs, hf0, hf1⟩ := trod_struct2 Tryd.underlying55 ht
      match cs, hlen, hcell, hf0, hf1 with
      | [u0, u1], _, hcell, hf0, hf1 =>
        have g0 := hcell 0 (by omega)
        have g1 := hcell 1 (by omega)
        rw [show (0 : Nat) = 0 from rfl] at g0
        have hk3 : Tryd.prog.cellsOf 3 = 1 := by kernel_rfl
        simp [hk3] at hf0 hf1
        obtain ⟨c, ec, _⟩ := DataW.trod_int Tryd.underlying3 hf0
        obtain ⟨d, ed, _⟩ := DataW.trod_int Tryd.underlying3 hf1
        simp at ec ed
        subst ec ed
        refine ⟨(c, d), ?_, ?_⟩
        · have h0 : ((a.add (i * 2)).add 0) = a.add (i * 2) := by unfold Addr.add; simp
          rw [h0] at g0
          simpa using g0
        · simpa using g1
    by_cases hz : len = 0
    · subst hz
      exact ⟨R, P, _, [], rfl, ⟨by simp, .inr ⟨rfl, _, _, rfl⟩⟩, bR⟩
    · obtain ⟨b, off, spot⟩ := a
      obtain ⟨x0, hx0, _⟩ := hall 0 (by omega)
      have hspot : spot = none := by simpa [Addr.add] using World.cell?_spot hx0
      subst hspot
      obtain ⟨l, hll, hq⟩ := list_of len _ hall
      have hbl : b < W.heap.size := by
        have := World.block_lt_of_cell? _ _ hx0
        rwa [add_lit'] at this
      refine ⟨R, P, _, l, rfl, ⟨by unfold maxLen at hm; omega, .inl ⟨b, off, cap, by rw [hll], hbl, fun k hk => ?_⟩⟩, bR⟩
      have := hq k hk
      rw [add_lit', add_lit'] at this
      exact this
end
end Go.Proofs.YtemhfaknmagebaaDoor

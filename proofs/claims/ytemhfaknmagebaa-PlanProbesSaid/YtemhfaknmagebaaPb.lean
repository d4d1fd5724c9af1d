/- plan: the walk of PlanProbes. -/
import Derived.Test.YtemhfaknmagebaaPl
import Derived.Test.YtemhfaknmagebaaAw
namespace Go.Proofs.Ytemhfaknmagebaa
open Go.RowKit
set_option linter.unusedSimpArgs false
set_option linter.unusedVariables false
attribute [local go_sem] run_store_complex
theorem and_m16 (x : Int) : ∃ g : Nat, g ≤ 65535 ∧ bits .and .i64 x 65535 = (g : Int) := by
  have h : (BitVec.ofInt 64 x &&& BitVec.ofInt 64 65535).toNat = (BitVec.ofInt 64 x).toNat % 65536 := by
    rw [BitVec.toNat_and]
    exact Nat.and_two_pow_sub_one_eq_mod _ 16
  refine ⟨(BitVec.ofInt 64 x).toNat % 65536, by omega, ?_⟩
  show IntKind.i64.wrap ((BitVec.ofInt 64 x &&& BitVec.ofInt 64 65535).toNat : Int) = _
  rw [h]
  have h4 : (BitVec.ofInt 64 x).toNat % 65536 < 65536 := Nat.mod_lt _ (by omega)
  generalize (BitVec.ofInt 64 x).toNat % 65536 = g at h4 ⊢
  rw [IntKind.wrap_i64]; omega
theorem and_m12 (x : Int) : ∃ g : Nat, g ≤ 4095 ∧ bits .and .i64 x 4095 = (g : Int) := by
  have h : (BitVec.ofInt 64 x &&& BitVec.ofInt 64 4095).toNat = (BitVec.ofInt 64 x).toNat % 4096 := by
    rw [BitVec.toNat_and]
    exact Nat.and_two_pow_sub_one_eq_mod _ 12
  refine ⟨(BitVec.ofInt 64 x).toNat % 4096, by omega, ?_⟩
  show IntKind.i64.wrap ((BitVec.ofInt 64 x &&& BitVec.ofInt 64 4095).toNat : Int) = _
  rw [h]
  have h4 : (BitVec.ofInt 64 x).toNat % 4096 < 4096 := Nat.mod_lt _ (by omega)
  generalize (BitVec.ofInt 64 x).toNat % 4096 = g at h4 ⊢
  rw [IntKind.wrap_i64]; omega
theorem and_m8 (x : Int) : ∃ g : Nat, g ≤ 255 ∧ bits .and .i64 x 255 = (g : Int) := by
  have h : (BitVec.ofInt 64 x &&& BitVec.ofInt 64 255).toNat = (BitVec.ofInt 64 x).toNat % 256 := by
    rw [BitVec.toNat_and]
    exact Nat.and_two_pow_sub_one_eq_mod _ 8
  refine ⟨(BitVec.ofInt 64 x).toNat % 256, by omega, ?_⟩
  show IntKind.i64.wrap ((BitVec.ofInt 64 x &&& BitVec.ofInt 64 255).toNat : Int) = _
  rw [h]
  have h4 : (BitVec.ofInt 64 x).toNat % 256 < 256 := Nat.mod_lt _ (by omega)
  generalize (BitVec.ofInt 64 x).toNat % 256 = g at h4 ⊢
  rw [IntKind.wrap_i64]; omega
/-- what Best tells of one table -/
theorem best_one_call (rows pages d : Int) (g : Nat) (w : World) (hr : rows ≤ 9223372036854775807) (hp : PAt w (some ⟨g, 0, none⟩) [(0, d)]) (r : Int) (hpr : probeL rows 0 [(0, d)] = some r) (by_ : Int) (CA CB : Nat)
    (h : (by_, CA, CB) = if lessB (bnd (2 + min r 1099511627776)) (bnd r) (bnd pages) (bnd rows) = true then ((0 : Int), Fl.fw (bnd (2 + min r 1099511627776)), Fl.fw (bnd r)) else ((-1 : Int), Fl.fw (bnd pages), Fl.fw (bnd rows))) (W1 W2 : World)
    (h1 : W1 = w.alloc (.cells #[.int .i64 rows, .int .i64 pages, .slice (some ⟨g, 0, none⟩) 1 1] 26)) (h2 : W2 = W1.alloc (.cells #[.int .i64 0, .int .i64 0, .int .i64 (-1), .int .i64 0] 33)) :
    Calls Try.prog 5 #[.slice (some ⟨w.heap.size, 0, none⟩) 1 1, .slice (some ⟨w.heap.size + 1, 0, none⟩) 1 1] W2 fun e w' => ∃ b o cb, e = .returned (.tuple #[.slice (some ⟨b, o, none⟩) 1 cb, .complex .f64 CA CB, .bool true]) ∧ w'.cell? ⟨b, o, none⟩ = some (.int .i64 0) ∧ w'.cell? ⟨b, o + 1, none⟩ = some (.int .i64 by_) ∧ Gr w w' := by
  have g1 : Gr w W1 := by rw [h1]; exact (Gr.refl _).alloc _
  have g2 : Gr w W2 := by rw [h2]; exact g1.alloc _
  have hS : SAt W2 (some ⟨w.heap.size, 0, none⟩) [⟨rows, pages, some ⟨g, 0, none⟩, 1, [(0, d)]⟩] := by
    refine .inr ⟨_, _, rfl, fun k hk => ?_⟩
    have : k = 0 := by simp at hk; omega
    subst this
    refine ⟨?_, ?_, ?_, hp.keep g2, by simp, hr⟩
    all_goals (rw [h2, h1]; go_simp)
  have hQ : QAt W2 (some ⟨w.heap.size + 1, 0, none⟩) [q0] := by
    refine .inr ⟨_, _, rfl, fun k hk => ?_⟩
    have : k = 0 := by simp at hk; omega
    subst this
    refine ⟨?_, ?_, ?_, ?_⟩
    all_goals (rw [h2, h1]; go_simp; try rfl)
  refine (best_any _ _ 1 1 [⟨rows, pages, some ⟨g, 0, none⟩, 1, [(0, d)]⟩] [q0] W2 (by simp) (by simp) (by simp) hS hQ).mono ?_
  rintro e w' ⟨ob, cb, rfl, hpp, hg⟩
  have hb := best_one ⟨rows, pages, some ⟨g, 0, none⟩, 1, [(0, d)]⟩ r hpr
  simp only at hb
  obtain ⟨l1, a1, b1⟩ := add0 (0, -1) (bnd pages) (bnd rows) rows (bnd_le9 _) (bnd_le9 _)
  obtain ⟨l2, a2, b2⟩ := add0 (0, 0) (bnd (2 + min r 1099511627776)) (bnd r) r (bnd_le9 _) (bnd_le9 _)
  have fin : ∀ p : Int × Int, p.1 = 0 → p.2 = by_ → (bestR aheadR [⟨rows, pages, some ⟨g, 0, none⟩, 1, [(0, d)]⟩] [q0]).l = [p] → Fl.fw (bestR aheadR [⟨rows, pages, some ⟨g, 0, none⟩, 1, [(0, d)]⟩] [q0]).a = CA → Fl.fw (bestR aheadR [⟨rows, pages, some ⟨g, 0, none⟩, 1, [(0, d)]⟩] [q0]).b = CB →
      ∃ b o cb', Ending.returned (.tuple #[.slice ob (bestR aheadR [⟨rows, pages, some ⟨g, 0, none⟩, 1, [(0, d)]⟩] [q0]).l.length cb, .complex .f64 (Fl.fw (bestR aheadR [⟨rows, pages, some ⟨g, 0, none⟩, 1, [(0, d)]⟩] [q0]).a) (Fl.fw (bestR aheadR [⟨rows, pages, some ⟨g, 0, none⟩, 1, [(0, d)]⟩] [q0]).b), .bool true]) = .returned (.tuple #[.slice (some ⟨b, o, none⟩) 1 cb', .complex .f64 CA CB, .bool true]) ∧ w'.cell? ⟨b, o, none⟩ = some (.int .i64 0) ∧ w'.cell? ⟨b, o + 1, none⟩ = some (.int .i64 by_) ∧ Gr w w' := fun p p1 p2 hl ha hbb => by
    rw [hl] at hpp
    rcases hpp with hh | ⟨b, off, rfl, hrow⟩
    · cases hh
    · obtain ⟨x0, x1⟩ := hrow.2 0 (by simp)
      exact ⟨b, off, cb, by rw [hl, ha, hbb]; rfl, by simpa [p1] using x0, by simpa [p2] using x1, g2.trans hg⟩
  by_cases hl : lessB (bnd (2 + min r 1099511627776)) (bnd r) (bnd pages) (bnd rows) = true
  · rw [if_pos hl] at h hb
    cases h
    exact fin (0, 0) rfl rfl (by rw [hb]; exact l2) (by rw [hb, a2]) (by rw [hb, b2])
  · rw [if_neg hl] at h hb
    cases h
    exact fin (0, -1) rfl rfl (by rw [hb]; exact l1) (by rw [hb, a1]) (by rw [hb, b1])
def tabs (rows pages d outer : Int) (g : Nat) : List Tb := [⟨rows, pages, some ⟨g, 0, none⟩, 1, [(0, d)]⟩, ⟨outer, 1, none, 0, []⟩]
def tabCells (rows pages outer : Int) (g : Nat) : Obj := .cells #[.int .i64 rows, .int .i64 pages, .slice (some ⟨g, 0, none⟩) 1 1, .int .i64 outer, .int .i64 1, .slice none 0 0] 26
theorem tabs_at {rows pages d outer : Int} {g : Nat} {w W : World} (hr : rows ≤ 9223372036854775807) (ho : outer ≤ 9223372036854775807) (hp : PAt w (some ⟨g, 0, none⟩) [(0, d)]) (h : Gr (w.alloc (tabCells rows pages outer g)) W) : SAt W (some ⟨w.heap.size, 0, none⟩) (tabs rows pages d outer g) := by
  have hw : Gr w W := ((Gr.refl w).alloc _).trans h
  refine .inr ⟨_, _, rfl, fun k hk => ?_⟩
  have hc : ∀ j u, (#[Value.int .i64 rows, .int .i64 pages, .slice (some ⟨g, 0, none⟩) 1 1, .int .i64 outer, .int .i64 1, .slice none 0 0] : Array Value)[j]? = some u → W.cell? ⟨w.heap.size, j, none⟩ = some u := fun j u hu => h.keep (by unfold tabCells; rw [← hu]; go_simp)
  match k, hk with
  | 0, _ => exact ⟨hc 0 _ rfl, hc 1 _ rfl, hc 2 _ rfl, hp.keep hw, by simp [tabs], hr⟩
  | 1, _ => exact ⟨hc 3 _ rfl, hc 4 _ rfl, hc 5 _ rfl, .inl rfl, by simp [tabs], ho⟩
theorem q1_at {w W : World} (h : Gr (w.alloc (.cells #[.int .i64 0, .int .i64 0, .int .i64 1, .int .i64 0] 33)) W) : QAt W (some ⟨w.heap.size, 0, none⟩) [q1] := by
  refine .inr ⟨_, _, rfl, fun k hk => ?_⟩
  have : k = 0 := by simp at hk; omega
  subst this
  have hc : ∀ j u, (#[Value.int .i64 0, .int .i64 0, .int .i64 1, .int .i64 0] : Array Value)[j]? = some u → W.cell? ⟨w.heap.size, j, none⟩ = some u := fun j u hu => h.keep (by rw [← hu]; go_simp)
  exact ⟨hc 0 _ rfl, hc 1 _ rfl, hc 2 _ rfl, hc 3 _ rfl⟩
theorem q1_at2 {w W : World} {n : Nat} (hn : w.heap.size = n) (h : Gr (w.alloc (.cells #[.int .i64 0, .int .i64 0, .int .i64 1, .int .i64 0] 33)) W) : QAt W (some ⟨n, 0, none⟩) [q1] := by
  subst hn
  exact q1_at h
theorem l_at {w W : World} (a b c d : Int) (h : Gr (w.alloc (.cells #[.int .i64 a, .int .i64 b, .int .i64 c, .int .i64 d] 39)) W) : PAt W (some ⟨w.heap.size, 0, none⟩) [(a, b), (c, d)] := by
  have hc : ∀ j u, (#[Value.int .i64 a, .int .i64 b, .int .i64 c, .int .i64 d] : Array Value)[j]? = some u → W.cell? ⟨w.heap.size, j, none⟩ = some u := fun j u hu => h.keep (by rw [← hu]; go_simp)
  refine .inr ⟨_, _, rfl, Nat.lt_of_lt_of_le (by simp) h.size, fun k hk => ?_⟩
  match k, hk with
  | 0, _ => exact ⟨hc 0 _ rfl, hc 1 _ rfl⟩
  | 1, _ => exact ⟨hc 2 _ rfl, hc 3 _ rfl⟩
section
variable {rows pages d outer : Int} {g : Nat} {w : World}
theorem best_two_call (hr : rows ≤ 9223372036854775807) (ho : outer ≤ 9223372036854775807) (hp : PAt w (some ⟨g, 0, none⟩) [(0, d)]) :
    Calls Try.prog 5 #[.slice (some ⟨w.heap.size, 0, none⟩) 2 2, .slice (some ⟨w.heap.size + 1, 0, none⟩) 1 1] ((w.alloc (tabCells rows pages outer g)).alloc (.cells #[.int .i64 0, .int .i64 0, .int .i64 1, .int .i64 0] 33)) fun e w' =>
      ∃ ob cb, e = .returned (.tuple #[.slice ob 2 cb, .complex .f64 (Fl.fw (bestR aheadR (tabs rows pages d outer g) [q1]).a) (Fl.fw (bestR aheadR (tabs rows pages d outer g) [q1]).b), .bool true]) ∧ Gr w w' := by
  refine (best_any _ _ 2 1 (tabs rows pages d outer g) [q1] _ (by simp [tabs]) (by simp [tabs]) (by simp) (tabs_at hr ho hp ((Gr.refl _).alloc _)) (by have := q1_at (w := w.alloc (tabCells rows pages outer g)) (Gr.refl _); simpa using this)).mono ?_
  rintro e w' ⟨ob, cb, rfl, -, hg⟩
  have h2 := (best_spec (ah := aheadR) (stats := tabs rows pages d outer g) (preds := [q1]) (by simp [tabs])).1
  exact ⟨ob, cb, by rw [h2]; rfl, (((Gr.refl w).alloc _).alloc _).trans hg⟩
theorem cost_a_call (hr : rows ≤ 9223372036854775807) (ho : outer ≤ 9223372036854775807) (hp : PAt w (some ⟨g, 0, none⟩) [(0, d)]) :
    ∃ s, runR (tabs rows pages d outer g) [q1] st0 [(1, -1), (0, 0)] = some s ∧
    Calls Try.prog 9 #[.slice (some ⟨w.heap.size, 0, none⟩) 2 2, .slice (some ⟨w.heap.size + 1, 0, none⟩) 1 1, .slice (some ⟨w.heap.size + 1 + 1, 0, none⟩) 2 2] (((w.alloc (tabCells rows pages outer g)).alloc (.cells #[.int .i64 0, .int .i64 0, .int .i64 1, .int .i64 0] 33)).alloc (.cells #[.int .i64 1, .int .i64 (-1), .int .i64 0, .int .i64 0] 39)) fun e w' =>
      e = .returned (.tuple #[.complex .f64 (Fl.fw s.a) (Fl.fw s.b), .int .i64 s.rows, .bool true]) ∧ Gr w w' := by
  obtain ⟨s, hs⟩ := cost_a ⟨rows, pages, some ⟨g, 0, none⟩, 1, [(0, d)]⟩ ⟨outer, 1, none, 0, []⟩ _ (probe_one rows d)
  refine ⟨s, hs, (cost_any _ _ _ 2 1 2 (tabs rows pages d outer g) [q1] [(1, -1), (0, 0)] _ (by simp [tabs]) (by simp) (by simp) (tabs_at hr ho hp (((Gr.refl _).alloc _).alloc _)) (q1_at2 (w := w.alloc (tabCells rows pages outer g)) (by simp) ((Gr.refl _).alloc _)) (by have := l_at (w := (w.alloc (tabCells rows pages outer g)).alloc (.cells #[.int .i64 0, .int .i64 0, .int .i64 1, .int .i64 0] 33)) 1 (-1) 0 0 (Gr.refl _); simpa using this)).mono ?_⟩
  rintro e w' ⟨rfl, hg⟩
  refine ⟨?_, ((((Gr.refl w).alloc _).alloc _).alloc _).trans hg⟩
  unfold costR
  rw [if_pos (by simp [tabs])]
  rw [show runR (tabs rows pages d outer g) [q1] st0 [(1, -1), (0, 0)] = some s from hs]
  rfl
theorem cost_z_call (hr : rows ≤ 9223372036854775807) (ho : outer ≤ 9223372036854775807) (hp : PAt w (some ⟨g, 0, none⟩) [(0, d)]) :
    Calls Try.prog 9 #[.slice (some ⟨w.heap.size, 0, none⟩) 2 2, .slice (some ⟨w.heap.size + 1, 0, none⟩) 1 1, .slice (some ⟨w.heap.size + 1 + 1, 0, none⟩) 2 2] (((w.alloc (tabCells rows pages outer g)).alloc (.cells #[.int .i64 0, .int .i64 0, .int .i64 1, .int .i64 0] 33)).alloc (.cells #[.int .i64 0, .int .i64 0, .int .i64 1, .int .i64 (-1)] 39)) fun e w' =>
      e = .returned (.tuple #[.complex .f64 0 0, .int .i64 0, .bool false]) ∧ Gr w w' := by
  have hs := cost_z ⟨rows, pages, some ⟨g, 0, none⟩, 1, [(0, d)]⟩ ⟨outer, 1, none, 0, []⟩
  refine (cost_any _ _ _ 2 1 2 (tabs rows pages d outer g) [q1] [(0, 0), (1, -1)] _ (by simp [tabs]) (by simp) (by simp) (tabs_at hr ho hp (((Gr.refl _).alloc _).alloc _)) (q1_at2 (w := w.alloc (tabCells rows pages outer g)) (by simp) ((Gr.refl _).alloc _)) (by have := l_at (w := (w.alloc (tabCells rows pages outer g)).alloc (.cells #[.int .i64 0, .int .i64 0, .int .i64 1, .int .i64 0] 33)) 0 0 1 (-1) (Gr.refl _); simpa using this)).mono ?_
  rintro e w' ⟨rfl, hg⟩
  refine ⟨?_, ((((Gr.refl w).alloc _).alloc _).alloc _).trans hg⟩
  unfold costR
  rw [if_pos (by simp [tabs])]
  rw [show runR (tabs rows pages d outer g) [q1] st0 [(0, 0), (1, -1)] = none from hs]
  rfl
theorem cost_b_call (hr : rows ≤ 9223372036854775807) (ho : outer ≤ 9223372036854775807) (hp : PAt w (some ⟨g, 0, none⟩) [(0, d)]) :
    ∃ s, runR (tabs rows pages d outer g) [] st0 [(0, -1), (1, -1)] = some s ∧
    Calls Try.prog 9 #[.slice (some ⟨w.heap.size, 0, none⟩) 2 2, .slice none 0 0, .slice (some ⟨w.heap.size + 1, 0, none⟩) 2 2] ((w.alloc (tabCells rows pages outer g)).alloc (.cells #[.int .i64 0, .int .i64 (-1), .int .i64 1, .int .i64 (-1)] 39)) fun e w' =>
      e = .returned (.tuple #[.complex .f64 (Fl.fw s.a) (Fl.fw s.b), .int .i64 s.rows, .bool true]) ∧ Gr w w' := by
  obtain ⟨s, hs⟩ := cost_b ⟨rows, pages, some ⟨g, 0, none⟩, 1, [(0, d)]⟩ ⟨outer, 1, none, 0, []⟩
  refine ⟨s, hs, (cost_any _ none _ 2 0 2 (tabs rows pages d outer g) [] [(0, -1), (1, -1)] _ (by simp [tabs]) (by simp) (by simp) (tabs_at hr ho hp ((Gr.refl _).alloc _)) (.inl rfl) (by have := l_at (w := w.alloc (tabCells rows pages outer g)) 0 (-1) 1 (-1) (Gr.refl _); simpa using this)).mono ?_⟩
  rintro e w' ⟨rfl, hg⟩
  refine ⟨?_, (((Gr.refl w).alloc _).alloc _).trans hg⟩
  unfold costR
  rw [if_pos (by simp [tabs])]
  rw [show runR (tabs rows pages d outer g) [] st0 [(0, -1), (1, -1)] = some s from hs]
  rfl
end
def Yes (w : World) (e : Ending) (w' : World) : Prop := e = .returned (.bool true) ∧ Gr w w'
set_option maxHeartbeats 4000000 in
set_option maxRecDepth 100000 in
theorem probes_walk (a b c d : Int) (w : World) : Calls Try.prog 3 #[.int .i64 a, .int .i64 b, .int .i64 c, .int .i64 d] w (Yes w) := by
  obtain ⟨ra, hra, e1⟩ := and_m16 a
  obtain ⟨rb, hrb, e2⟩ := and_m12 b
  obtain ⟨rc, hrc, e3⟩ := and_m16 c
  obtain ⟨rd, hrd, e4⟩ := and_m8 d
  go_enter Try.func3, Try.ntmps3
  go_upto_region 3 with (fail)
  have hr : (ra : Int) ≤ 9223372036854775807 := by omega
  have ho : (rd : Int) ≤ 9223372036854775807 := by omega
  clear e1 e2 e3 e4 hra hrb hrc hrd
  generalize (ra : Int) = rows at *
  generalize (rb : Int) + 1 = pages at *
  generalize (rc : Int) + 1 = dist at *
  generalize (rd : Int) = outer at *
  obtain ⟨W, hW⟩ : ∃ W, W = ((w.alloc (.cells #[.int .i64 0, .int .i64 dist] 23)).alloc (.cells #[.int .i64 rows, .int .i64 pages, .slice (some ⟨w.heap.size, 0, none⟩) 1 1] 26)) := ⟨_, rfl⟩
  have gW : Gr w W := by rw [hW]; exact ((Gr.refl _).alloc _).alloc _
  have t0 : W.cell? ⟨w.heap.size + 1, 0, none⟩ = some (.int .i64 rows) := by rw [hW]; go_simp
  have t1 : W.cell? ⟨w.heap.size + 1, 1, none⟩ = some (.int .i64 pages) := by rw [hW]; go_simp
  have t2 : W.cell? ⟨w.heap.size + 1, 2, none⟩ = some (.slice (some ⟨w.heap.size, 0, none⟩) 1 1) := by rw [hW]; go_simp
  have hp : PAt W (some ⟨w.heap.size, 0, none⟩) [(0, dist)] := by
    refine .inr ⟨_, _, rfl, by rw [hW]; simp only [World.size_alloc]; omega, fun k hk => ?_⟩
    have : k = 0 := by simp at hk; omega
    subst this
    have h0 : W.cell? ⟨w.heap.size, 0, none⟩ = some (.int .i64 0) := by rw [hW]; go_simp
    have h1 : W.cell? ⟨w.heap.size, 1, none⟩ = some (.int .i64 dist) := by rw [hW]; go_simp
    exact ⟨h0, h1⟩
  rw [← hW]
  clear hW
  obtain ⟨r, hpr⟩ : ∃ r, probeL rows 0 [(0, dist)] = some r := ⟨_, probe_one rows dist⟩
  have HPr := fun W' (hg : Gr W W') => probe_at rows pages 0 (some ⟨w.heap.size, 0, none⟩) 1 [(0, dist)] W' (by simp) (hp.keep hg) hr
  rw [hpr] at HPr
  unfold probeV at HPr
  simp only [List.length_cons, List.length_nil, Nat.zero_add] at HPr
  have HSc := fun W' => scan_any rows pages (.slice (some ⟨w.heap.size, 0, none⟩) 1 1) W'
  obtain ⟨by_, CA, CB, hby⟩ : ∃ (by_ : Int) (CA CB : Nat), (by_, CA, CB) = if lessB (bnd (2 + min r 1099511627776)) (bnd r) (bnd pages) (bnd rows) = true then ((0 : Int), Fl.fw (bnd (2 + min r 1099511627776)), Fl.fw (bnd r)) else ((-1 : Int), Fl.fw (bnd pages), Fl.fw (bnd rows)) := by
    by_cases h : lessB (bnd (2 + min r 1099511627776)) (bnd r) (bnd pages) (bnd rows) = true
    · exact ⟨0, Fl.fw (bnd (2 + min r 1099511627776)), Fl.fw (bnd r), by rw [if_pos h]⟩
    · exact ⟨-1, Fl.fw (bnd pages), Fl.fw (bnd rows), by rw [if_neg h]⟩
  have HB1 := best_one_call rows pages dist w.heap.size W hr hp r hpr by_ CA CB hby _ _ rfl rfl
  have L1 := fun W' => (less_any (bnd (2 + min r 1099511627776)) (bnd r) (bnd pages) (bnd rows) W' (bnd_le9 _) (bnd_le9 _) (bnd_le9 _) (bnd_le9 _)).mono (fun e w' (h : _ ∧ _) => And.intro h.1 h.2.symm)
  have o1 := ord_eq (bnd_le9 (2 + min r 1099511627776))
  have o2 := ord_eq (bnd_le9 r)
  have o3 := ord_eq (bnd_le9 pages)
  have o4 := ord_eq (bnd_le9 rows)
  obtain ⟨lb, hlb⟩ : ∃ v, lessB (bnd (2 + min r 1099511627776)) (bnd r) (bnd pages) (bnd rows) = v := ⟨_, rfl⟩
  obtain ⟨PA, hPA⟩ : ∃ v, Fl.fw (bnd (2 + min r 1099511627776)) = v := ⟨_, rfl⟩
  obtain ⟨PB, hPB⟩ : ∃ v, Fl.fw (bnd r) = v := ⟨_, rfl⟩
  obtain ⟨SA, hSA⟩ : ∃ v, Fl.fw (bnd pages) = v := ⟨_, rfl⟩
  obtain ⟨SB, hSB⟩ : ∃ v, Fl.fw (bnd rows) = v := ⟨_, rfl⟩
  rw [hlb] at L1 hby
  rw [hPA] at L1 hby HPr o1
  rw [hPB] at L1 hby HPr o2
  rw [hSA] at L1 hby HSc o3
  rw [hSB] at L1 hby HSc o4
  clear hlb hPA hPB hSA hSB
  have Hby := hid hby
  have HP := hid hp
  have HPR := hid HPr
  have zT := lt_of_cell t0
  have zT1 : w.heap.size + 1 < W.heap.size + 1 := by omega
  clear hby hpr hp HPr
  go_wp2_with fail
  refine HB1.mono ?_
  rintro e w1 ⟨b, o, cb, rfl, x0, x1, hg1⟩
  have t0 := hg1.keep t0
  have t1 := hg1.keep t1
  have t2 := hg1.keep t2
  have zT := lt_of_cell t0
  clear HB1
  go_wp2_with fail
  refine (HPR.out _ hg1).mono ?_
  rintro e w2 ⟨rfl, hg2⟩
  have t0 := hg2.keep t0
  have t1 := hg2.keep t1
  have t2 := hg2.keep t2
  have x0 := hg2.keep x0
  have x1 := hg2.keep x1
  have zT := lt_of_cell t0
  go_wp2_with fail
  refine (HSc _).mono ?_
  rintro e w3 ⟨rfl, hg3⟩
  have t0 := hg3.keep t0
  have t1 := hg3.keep t1
  have t2 := hg3.keep t2
  have x0 := hg3.keep x0
  have x1 := hg3.keep x1
  have zT := lt_of_cell t0
  have zX := lt_of_cell x0
  have hgW : Gr W w3 := (hg1.trans hg2).trans hg3
  clear hg1 hg2 hg3 HSc
  go_upto_region 6 with (fail)
  go_cut [108] from 63 to 108 (fun s wx => s = .bool false ∧ Gr w3 wx)
  case first =>
    cases lb
    · have hb := Hby.out
      rw [if_neg (by simp)] at hb
      obtain ⟨rfl, rfl, rfl⟩ : by_ = -1 ∧ CA = SA ∧ CB = SB := by simpa using hb
      clear hb Hby
      go_quiet ((first | (with_reducible exact Calls.quiet_of_same (L1 _))))
      go_wp2
      go_meet
      exact ⟨rfl, (Gr.refl _).drewN _⟩
    · have hb := Hby.out
      rw [if_pos rfl] at hb
      obtain ⟨rfl, rfl, rfl⟩ : by_ = 0 ∧ CA = PA ∧ CB = PB := by simpa using hb
      clear hb Hby
      go_quiet ((first | (with_reducible exact Calls.quiet_of_same (L1 _))))
      go_wp2
      go_meet
      exact ⟨rfl, (Gr.refl _).drewN _⟩
  case rest =>
    obtain ⟨rfl, hgc⟩ := hcut
    clear HPR L1 o1 o2 o3 o4 Hby x0 x1
    have t0 := hgc.keep t0
    have t1 := hgc.keep t1
    have t2 := hgc.keep t2
    have zT := lt_of_cell t0
    have hgW5 : Gr W wc := hgW.trans hgc
    clear hgW hgc zX
    go_upto_region 9 with (fail)
    obtain ⟨W5, hW5⟩ : ∃ W5, W5 = wc.alloc (.cells #[.int .i64 outer, .int .i64 1, .slice none 0 0] 26) := ⟨_, rfl⟩
    have g5 : Gr wc W5 := by rw [hW5]; exact (Gr.refl _).alloc _
    have u0 : W5.cell? ⟨wc.heap.size, 0, none⟩ = some (.int .i64 outer) := by rw [hW5]; go_simp
    have u1 : W5.cell? ⟨wc.heap.size, 1, none⟩ = some (.int .i64 1) := by rw [hW5]; go_simp
    have u2 : W5.cell? ⟨wc.heap.size, 2, none⟩ = some (.slice none 0 0) := by rw [hW5]; go_simp
    rw [← hW5]
    clear hW5
    have t0 := g5.keep t0
    have t1 := g5.keep t1
    have t2 := g5.keep t2
    have zT := lt_of_cell t0
    have zU := lt_of_cell u0
    generalize wc.heap.size = gu at *
    have hp5 := hid (HP.out.keep (hgW5.trans g5))
    have gw5 : Gr w W5 := gW.trans (hgW5.trans g5)
    clear HP gW hgW5 g5
    have B2 := best_two_call (w := W5) (pages := pages) hr ho hp5.out
    have hB := best_spec (ah := aheadR) (stats := tabs rows pages dist outer w.heap.size) (preds := [q1]) (by simp [tabs])
    have hBs := best_sm (stats := tabs rows pages dist outer w.heap.size) (preds := [q1]) (by simp [tabs])
    obtain ⟨sa, hsa⟩ := cost_a ⟨rows, pages, some ⟨w.heap.size, 0, none⟩, 1, [(0, dist)]⟩ ⟨outer, 1, none, 0, []⟩ _ (probe_one rows dist)
    obtain ⟨sb, hsb⟩ := cost_b ⟨rows, pages, some ⟨w.heap.size, 0, none⟩, 1, [(0, dist)]⟩ ⟨outer, 1, none, 0, []⟩
    have hsa : runR (tabs rows pages dist outer w.heap.size) [q1] st0 [(1, -1), (0, 0)] = some sa := hsa
    have hsb : runR (tabs rows pages dist outer w.heap.size) [] st0 [(0, -1), (1, -1)] = some sb := hsb
    have ha := hB.2.2 _ sa hsa (by simp [tabs])
    have hb := best_least (e := [q1]) (by simp [tabs]) hsb (by simp [tabs])
    rw [List.nil_append] at hb
    unfold lessS at ha
    have sma := run0_sm hsa
    have smb := run0_sm hsb
    have CAc := fun W' (hg : Gr W5 W') => cost_a_call (w := W') (pages := pages) hr ho (hp5.out.keep hg)
    have CBc := fun W' (hg : Gr W5 W') => cost_b_call (w := W') (pages := pages) hr ho (hp5.out.keep hg)
    have CZ := fun W' (hg : Gr W5 W') => cost_z_call (w := W') (pages := pages) hr ho (hp5.out.keep hg)
    have CA2 : ∀ W', Gr W5 W' → Calls Try.prog 9 #[.slice (some ⟨W'.heap.size, 0, none⟩) 2 2, .slice (some ⟨W'.heap.size + 1, 0, none⟩) 1 1, .slice (some ⟨W'.heap.size + 1 + 1, 0, none⟩) 2 2] (((W'.alloc (tabCells rows pages outer w.heap.size)).alloc (.cells #[.int .i64 0, .int .i64 0, .int .i64 1, .int .i64 0] 33)).alloc (.cells #[.int .i64 1, .int .i64 (-1), .int .i64 0, .int .i64 0] 39)) fun e w' =>
      e = .returned (.tuple #[.complex .f64 (Fl.fw sa.a) (Fl.fw sa.b), .int .i64 sa.rows, .bool true]) ∧ Gr W' w' := fun W' hg => by
      obtain ⟨s', h1, h2⟩ := CAc W' hg
      rw [hsa] at h1
      cases h1
      exact h2
    have CB2 : ∀ W', Gr W5 W' → Calls Try.prog 9 #[.slice (some ⟨W'.heap.size, 0, none⟩) 2 2, .slice none 0 0, .slice (some ⟨W'.heap.size + 1, 0, none⟩) 2 2] ((W'.alloc (tabCells rows pages outer w.heap.size)).alloc (.cells #[.int .i64 0, .int .i64 (-1), .int .i64 1, .int .i64 (-1)] 39)) fun e w' =>
      e = .returned (.tuple #[.complex .f64 (Fl.fw sb.a) (Fl.fw sb.b), .int .i64 sb.rows, .bool true]) ∧ Gr W' w' := fun W' hg => by
      obtain ⟨s', h1, h2⟩ := CBc W' hg
      rw [hsb] at h1
      cases h1
      exact h2
    generalize bestR aheadR (tabs rows pages dist outer w.heap.size) [q1] = B at *
    have LA := fun W' => less_any sa.a sa.b B.a B.b W' sma.1 sma.2 hBs.1 hBs.2
    have LB := fun W' => less_any sb.a sb.b B.a B.b W' smb.1 smb.2 hBs.1 hBs.2
    rw [ha] at LA
    rw [hb] at LB
    obtain ⟨XA, hXA⟩ : ∃ v, Fl.fw sa.a = v := ⟨_, rfl⟩
    obtain ⟨XB, hXB⟩ : ∃ v, Fl.fw sa.b = v := ⟨_, rfl⟩
    obtain ⟨YA, hYA⟩ : ∃ v, Fl.fw sb.a = v := ⟨_, rfl⟩
    obtain ⟨YB, hYB⟩ : ∃ v, Fl.fw sb.b = v := ⟨_, rfl⟩
    obtain ⟨ZA, hZA⟩ : ∃ v, Fl.fw B.a = v := ⟨_, rfl⟩
    obtain ⟨ZB, hZB⟩ : ∃ v, Fl.fw B.b = v := ⟨_, rfl⟩
    rw [hXA, hXB] at LA CA2
    rw [hYA, hYB] at LB CB2
    rw [hZA, hZB] at LA LB B2
    unfold tabCells at B2 CA2 CB2 CZ
    have HCA := hid CA2
    have HCB := hid CB2
    have HCZ := hid CZ
    clear hXA hXB hYA hYB hZA hZB ha hb sma smb hB hBs hsa hsb CAc CBc CA2 CB2 CZ
    go_wp2_with fail
    refine B2.mono ?_
    rintro e w6 ⟨ob, cb2, rfl, hg6⟩
    have t0 := hg6.keep t0
    have t1 := hg6.keep t1
    have t2 := hg6.keep t2
    have u0 := hg6.keep u0
    have u1 := hg6.keep u1
    have u2 := hg6.keep u2
    have zT := lt_of_cell t0
    have zU := lt_of_cell u0
    have hG6 : Gr W5 w6 := hg6
    clear B2 hg6
    go_wp2_with fail
    refine (HCA.out _ hG6).mono ?_
    rintro e w7 ⟨rfl, hg7⟩
    have t0 := hg7.keep t0
    have t1 := hg7.keep t1
    have t2 := hg7.keep t2
    have u0 := hg7.keep u0
    have u1 := hg7.keep u1
    have u2 := hg7.keep u2
    have zT := lt_of_cell t0
    have zU := lt_of_cell u0
    have hG7 := hG6.trans hg7
    clear hg7 hG6
    go_wp2_with fail
    refine (HCB.out _ hG7).mono ?_
    rintro e w8 ⟨rfl, hg8⟩
    have t0 := hg8.keep t0
    have t1 := hg8.keep t1
    have t2 := hg8.keep t2
    have u0 := hg8.keep u0
    have u1 := hg8.keep u1
    have u2 := hg8.keep u2
    have zT := lt_of_cell t0
    have zU := lt_of_cell u0
    have hG8 := hG7.trans hg8
    clear hg8 hG7
    go_wp2_with fail
    refine (HCZ.out _ hG8).mono ?_
    rintro e w9 ⟨rfl, hg9⟩
    have hG9 := hG8.trans hg9
    clear hg9 hG8 t0 t1 t2 u0 u1 u2
    go_wp2_with fail
    refine (LA _).mono ?_
    rintro e w' ⟨rfl, rfl⟩
    go_wp2_with fail
    refine (LB _).mono ?_
    rintro e w' ⟨rfl, rfl⟩
    go_wp2_with fail
    refine (awake_any _).mono ?_
    rintro e w10 ⟨rfl, hg10⟩
    go_wp2
    go_ret
    exact ⟨rfl, gw5.trans (hG9.trans hg10)⟩
end Go.Proofs.Ytemhfaknmagebaa

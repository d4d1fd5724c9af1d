/- ValueTexts: the law's walk. -/
import Derived.Test.YtefdkpfndjlpgaaDoorTy
namespace Go.Proofs.YtefdkpfndjlpgaaDoor
open Go.RowKit
set_option linter.unusedSimpArgs false
set_option linter.unusedVariables false
attribute [local go_sem] Rg.once_normal Rg.once_exit Rg.once_ret Rg.once_panic Rg.once_goto Rg.leads_value Rg.leads_skip Rg.leads_enter Rg.brings_value Rg.brings_skip Rg.brings_enter
/-- a text's value, written out -/
abbrev tx (s : ByteArray) : Value := .agg #[.int .i64 2, .int .i64 0, .string s, .bool false]
theorem cat_text (a b : ByteArray) (w : World) (h : a.size + b.size ≤ 9223372036854775807) : Calls Tryd.prog 24 #[.agg #[.int .i64 2, .int .i64 0, .string a, .bool false], .agg #[.int .i64 2, .int .i64 0, .string b, .bool false]] w fun e w' => e = .returned (.agg #[.int .i64 2, .int .i64 0, .string (a ++ b), .bool false]) ∧ Gr w w' :=
  cat_any (textV a) (textV b) w h
theorem cat_right (a : ByteArray) (w : World) (h : a.size ≤ 9223372036854775807) : Calls Tryd.prog 24 #[.agg #[.int .i64 2, .int .i64 0, .string a, .bool false], .agg #[.int .i64 0, .int .i64 0, .string ⟨#[]⟩, .bool false]] w fun e w' => e = .returned (.agg #[.int .i64 0, .int .i64 0, .string ⟨#[]⟩, .bool false]) ∧ Gr w w' :=
  cat_any (textV a) nul w (by have : nul.s.size = 0 := rfl; show a.size + _ ≤ _; omega)
theorem cat_left (a : ByteArray) (w : World) (h : a.size ≤ 9223372036854775807) : Calls Tryd.prog 24 #[.agg #[.int .i64 0, .int .i64 0, .string ⟨#[]⟩, .bool false], .agg #[.int .i64 2, .int .i64 0, .string a, .bool false]] w fun e w' => e = .returned (.agg #[.int .i64 0, .int .i64 0, .string ⟨#[]⟩, .bool false]) ∧ Gr w w' :=
  cat_any nul (textV a) w (by have : nul.s.size = 0 := rfl; show _ + a.size ≤ _; omega)
theorem leng_new (s : ByteArray) (w : World) (hs : s.size ≤ 9223372036854775807) :
    Calls Tryd.prog 26 #[.string ⟨#[108, 101, 110, 103, 116, 104]⟩, .slice (some ⟨w.heap.size, 0, none⟩) 1 1] (w.alloc (.cells #[.int .i64 2, .int .i64 0, .string s, .bool false] 23)) fun e w' => e = .returned (.tuple #[.agg #[.int .i64 1, .int .i64 s.size, .string ⟨#[]⟩, .bool false], .int .i64 0]) ∧ Gr (w.alloc (.cells #[.int .i64 2, .int .i64 0, .string s, .bool false] 23)) w' :=
  leng_any s _ 1 _ (vrow_new w s) hs
theorem Holds.keep {w w' : World} {g : Nat} {v : V} (h : Holds w g v) (hg : Gr w w') : Holds w' g v :=
  ⟨hg.keep h.1, hg.keep h.2.1, hg.keep h.2.2.1, hg.keep h.2.2.2.1, fun i => (Below.frozen (p := ⟨g, i, none⟩) hg (lt_of_cell h.1)).trans (h.2.2.2.2 i)⟩
def RowG (a b : ByteArray) (u : Value) (w : World) : Prop := ∃ g, u = .slice (some ⟨g, 0, none⟩) 4 4 ∧ VRow w g [nul, nul, textV a, textV b]
def NewG (u : Value) (w : World) : Prop := ∃ g, u = .pointer (some ⟨g, 0, none⟩) ∧ Holds w g nul
theorem gs_keep (a b : ByteArray) (k : Nat) (u : Value) (w w' : World) (h : Rg.Gat [(7, RowG a b), (12, NewG)] k u w) (hu : Gr w w') : Rg.Gat [(7, RowG a b), (12, NewG)] k u w' := by
  simp only [Rg.Gat] at *
  split
  · rename_i h7
    rw [if_pos h7] at h
    obtain ⟨g, e, hr⟩ := h
    exact ⟨g, e, hr.keep hu⟩
  · rename_i h7
    rw [if_neg h7] at h
    split
    · rename_i h12
      rw [if_pos h12] at h
      obtain ⟨g, e, hr⟩ := h
      exact ⟨g, e, hr.keep hu⟩
    · trivial
theorem step_det {P : Program} {ops : Array Oper} {W : World} {F : List Nat} {Ds : List (Nat × List Nat)} {Gs : List (Nat × (Value → World → Prop))} {fr : Nat → Bool} {v : Nat → Value} {c : Value} {i : Nat} {o : Oper} {a : Act}
    (hF : F.contains i = false) (hw : Region.wanted o (yielded ops a.tmps) = true) (h : ∀ w, Rg.Up W w → Rg.facts Gs v w (Rg.Dat Ds i) → Rg.Brings P w c ((execOp a.eval o).run P w)) : Rg.StepOb P ops W F Ds Gs fr v (some c) i o a := by
  unfold Rg.StepOb
  simp only [hF, Bool.false_eq_true, if_false]
  exact Or.inl ⟨hw, h⟩
theorem step_flt {P : Program} {ops : Array Oper} {W : World} {F : List Nat} {Ds : List (Nat × List Nat)} {Gs : List (Nat × (Value → World → Prop))} {fr : Nat → Bool} {v : Nat → Value} {c : Value} {i : Nat} {o : Oper} {a : Act}
    (hF : F.contains i = true) (h : Yields P ops o c a) : Rg.StepOb P ops W F Ds Gs fr v (some c) i o a := by
  unfold Rg.StepOb
  simp only [hF, if_true]
  exact h
theorem step_free {P : Program} {ops : Array Oper} {W : World} {F : List Nat} {Ds : List (Nat × List Nat)} {Gs : List (Nat × (Value → World → Prop))} {fr : Nat → Bool} {v : Nat → Value} {i : Nat} {o : Oper} {a : Act}
    (hF : F.contains i = false) (hw : Region.wanted o (yielded ops a.tmps) = true) (h : ∀ w, Rg.Up W w → Rg.facts Gs v w (Rg.Dat Ds i) → Rg.BringsG P w (Rg.Gat Gs i) (fr i) ((execOp a.eval o).run P w)) : Rg.StepOb P ops W F Ds Gs fr v none i o a := ⟨hF, hw, h⟩
theorem holds_new (W : World) : Holds (W.alloc (.cells #[.int .i64 0, .int .i64 0, .string ⟨#[]⟩, .bool false] 23)) W.heap.size nul := by
  unfold Holds; go_simp; decide
theorem vrow_four (W : World) (a b : ByteArray) : VRow (W.alloc (.cells #[.int .i64 0, .int .i64 0, .string ⟨#[]⟩, .bool false, .int .i64 0, .int .i64 0, .string ⟨#[]⟩, .bool false, .int .i64 2, .int .i64 0, .string a, .bool false, .int .i64 2, .int .i64 0, .string b, .bool false] 23)) W.heap.size [nul, nul, textV a, textV b] := by
  intro k i u hk hu
  have h : i < 4 := by
    have := (Array.getElem?_eq_some_iff.1 hu).1
    simpa [V.cells] using this
  match k, hk, i, h, hu with
  | 0, _, 0, _, hu => simp [V.cells, nul] at hu; subst hu; go_simp
  | 0, _, 1, _, hu => simp [V.cells, nul] at hu; subst hu; go_simp
  | 0, _, 2, _, hu => simp [V.cells, nul] at hu; subst hu; go_simp
  | 0, _, 3, _, hu => simp [V.cells, nul] at hu; subst hu; go_simp
  | 1, _, 0, _, hu => simp [V.cells, nul] at hu; subst hu; go_simp
  | 1, _, 1, _, hu => simp [V.cells, nul] at hu; subst hu; go_simp
  | 1, _, 2, _, hu => simp [V.cells, nul] at hu; subst hu; go_simp
  | 1, _, 3, _, hu => simp [V.cells, nul] at hu; subst hu; go_simp
  | 2, _, 0, _, hu => simp [V.cells, textV] at hu; subst hu; go_simp
  | 2, _, 1, _, hu => simp [V.cells, textV] at hu; subst hu; go_simp
  | 2, _, 2, _, hu => simp [V.cells, textV] at hu; subst hu; go_simp
  | 2, _, 3, _, hu => simp [V.cells, textV] at hu; subst hu; go_simp
  | 3, _, 0, _, hu => simp [V.cells, textV] at hu; subst hu; go_simp
  | 3, _, 1, _, hu => simp [V.cells, textV] at hu; subst hu; go_simp
  | 3, _, 2, _, hu => simp [V.cells, textV] at hu; subst hu; go_simp
  | 3, _, 3, _, hu => simp [V.cells, textV] at hu; subst hu; go_simp
set_option maxHeartbeats 2000000 in
set_option maxRecDepth 100000 in
theorem texts_any (a b c : ByteArray) (m : Int) (w : World) (hm : w.cell? ⟨0, 0, none⟩ = some (.int .i64 m)) (ha : a.size ≤ 140737488355328) (hb : b.size ≤ 140737488355328) (hc0 : c.size ≤ 140737488355328) :
    Calls Tryd.prog 7 #[.string a, .string b, .string c] w (Yes w) := by
  have hpos : 0 < w.heap.size := lt_of_cell hm
  have X1 := fun W => ltext_any a W
  have X2 := fun W => ltext_any b W
  have X3 := fun W => ltext_any c W
  have C1 := fun W => cat_text a b W (by omega)
  have L1 := fun W => leng_new (a ++ b) W (by rw [ByteArray.size_append]; omega)
  go_enter Tryd.func7, Tryd.ntmps7
  go_wp2_with fail
  refine (X1 _).mono ?_
  rintro e w1 ⟨rfl, hg⟩
  have hc := Gr.cells hg
  have hf := Gr.frees hg
  have hz := Gr.size hg
  try simp only [World.size_alloc, World.size_setCell, World.size_drew] at hz
  try have : 0 < w1.heap.size := by omega
  try have : w.heap.size < w1.heap.size := by omega
  try have : w.heap.size + 1 < w1.heap.size := by omega
  try have : w.heap.size + 1 + 1 < w1.heap.size := by omega
  try have : w.heap.size + 1 + 1 + 1 < w1.heap.size := by omega
  try have : w.heap.size + 1 + 1 + 1 + 1 < w1.heap.size := by omega
  try have : w.heap.size + 1 + 1 + 1 + 1 + 1 < w1.heap.size := by omega
  try have : w.heap.size + 1 + 1 + 1 + 1 + 1 + 1 < w1.heap.size := by omega
  try have : w.heap.size + 1 + 1 + 1 + 1 + 1 + 1 + 1 < w1.heap.size := by omega
  go_wp2_with fail
  refine (X2 _).mono ?_
  rintro e w2 ⟨rfl, hg⟩
  have hc := Gr.cells hg
  have hf := Gr.frees hg
  have hz := Gr.size hg
  try simp only [World.size_alloc, World.size_setCell, World.size_drew] at hz
  try have : 0 < w2.heap.size := by omega
  try have : w.heap.size < w2.heap.size := by omega
  try have : w.heap.size + 1 < w2.heap.size := by omega
  try have : w.heap.size + 1 + 1 < w2.heap.size := by omega
  try have : w.heap.size + 1 + 1 + 1 < w2.heap.size := by omega
  try have : w.heap.size + 1 + 1 + 1 + 1 < w2.heap.size := by omega
  try have : w.heap.size + 1 + 1 + 1 + 1 + 1 < w2.heap.size := by omega
  try have : w.heap.size + 1 + 1 + 1 + 1 + 1 + 1 < w2.heap.size := by omega
  try have : w.heap.size + 1 + 1 + 1 + 1 + 1 + 1 + 1 < w2.heap.size := by omega
  try have : w1.heap.size < w2.heap.size := by omega
  try have : w1.heap.size + 1 < w2.heap.size := by omega
  go_wp2_with fail
  refine (X3 _).mono ?_
  rintro e w3 ⟨rfl, hg⟩
  have hc := Gr.cells hg
  have hf := Gr.frees hg
  have hz := Gr.size hg
  try simp only [World.size_alloc, World.size_setCell, World.size_drew] at hz
  try have : 0 < w3.heap.size := by omega
  try have : w.heap.size < w3.heap.size := by omega
  try have : w.heap.size + 1 < w3.heap.size := by omega
  try have : w.heap.size + 1 + 1 < w3.heap.size := by omega
  try have : w.heap.size + 1 + 1 + 1 < w3.heap.size := by omega
  try have : w.heap.size + 1 + 1 + 1 + 1 < w3.heap.size := by omega
  try have : w.heap.size + 1 + 1 + 1 + 1 + 1 < w3.heap.size := by omega
  try have : w.heap.size + 1 + 1 + 1 + 1 + 1 + 1 < w3.heap.size := by omega
  try have : w.heap.size + 1 + 1 + 1 + 1 + 1 + 1 + 1 < w3.heap.size := by omega
  try have : w1.heap.size < w3.heap.size := by omega
  try have : w1.heap.size + 1 < w3.heap.size := by omega
  try have : w2.heap.size < w3.heap.size := by omega
  try have : w2.heap.size + 1 < w3.heap.size := by omega
  go_wp2_with fail
  refine (C1 _).mono ?_
  rintro e w4 ⟨rfl, hg⟩
  have hc := Gr.cells hg
  have hf := Gr.frees hg
  have hz := Gr.size hg
  try simp only [World.size_alloc, World.size_setCell, World.size_drew] at hz
  try have : 0 < w4.heap.size := by omega
  try have : w.heap.size < w4.heap.size := by omega
  try have : w.heap.size + 1 < w4.heap.size := by omega
  try have : w.heap.size + 1 + 1 < w4.heap.size := by omega
  try have : w.heap.size + 1 + 1 + 1 < w4.heap.size := by omega
  try have : w.heap.size + 1 + 1 + 1 + 1 < w4.heap.size := by omega
  try have : w.heap.size + 1 + 1 + 1 + 1 + 1 < w4.heap.size := by omega
  try have : w.heap.size + 1 + 1 + 1 + 1 + 1 + 1 < w4.heap.size := by omega
  try have : w.heap.size + 1 + 1 + 1 + 1 + 1 + 1 + 1 < w4.heap.size := by omega
  try have : w1.heap.size < w4.heap.size := by omega
  try have : w1.heap.size + 1 < w4.heap.size := by omega
  try have : w2.heap.size < w4.heap.size := by omega
  try have : w2.heap.size + 1 < w4.heap.size := by omega
  try have : w3.heap.size < w4.heap.size := by omega
  try have : w3.heap.size + 1 < w4.heap.size := by omega
  go_wp2_with fail
  refine (L1 _).mono ?_
  rintro e w5 ⟨rfl, hg⟩
  have hc := Gr.cells hg
  have hf := Gr.frees hg
  have hz := Gr.size hg
  try simp only [World.size_alloc, World.size_setCell, World.size_drew] at hz
  try have : 0 < w5.heap.size := by omega
  try have : w.heap.size < w5.heap.size := by omega
  try have : w.heap.size + 1 < w5.heap.size := by omega
  try have : w.heap.size + 1 + 1 < w5.heap.size := by omega
  try have : w.heap.size + 1 + 1 + 1 < w5.heap.size := by omega
  try have : w.heap.size + 1 + 1 + 1 + 1 < w5.heap.size := by omega
  try have : w.heap.size + 1 + 1 + 1 + 1 + 1 < w5.heap.size := by omega
  try have : w.heap.size + 1 + 1 + 1 + 1 + 1 + 1 < w5.heap.size := by omega
  try have : w.heap.size + 1 + 1 + 1 + 1 + 1 + 1 + 1 < w5.heap.size := by omega
  try have : w1.heap.size < w5.heap.size := by omega
  try have : w1.heap.size + 1 < w5.heap.size := by omega
  try have : w2.heap.size < w5.heap.size := by omega
  try have : w2.heap.size + 1 < w5.heap.size := by omega
  try have : w3.heap.size < w5.heap.size := by omega
  try have : w3.heap.size + 1 < w5.heap.size := by omega
  try have : w4.heap.size < w5.heap.size := by omega
  try have : w4.heap.size + 1 < w5.heap.size := by omega
  go_wp2_with fail
  obtain ⟨W, hW⟩ : ∃ W : World, W = w5.alloc (.cells #[.int .i64 1, .int .i64 ((a.size : Int) + b.size), .string ⟨#[]⟩, .bool false] 23) := ⟨_, rfl⟩
  have hgW : Gr w W := by
    rw [hW]
    repeat' (first | exact Gr.refl _ | exact Nat.le_refl _ | exact Nat.le_add_right _ _ | refine Gr.setCell ?_ ?_ _ | refine Gr.alloc ?_ _ | refine Gr.drew ?_ | refine Gr.trans ?_ (by assumption) | omega | (dsimp only; omega))
  have d1 : w3.heap.size + 1 + 1 < w5.heap.size := by omega
  have d2 : w3.heap.size + 1 + 1 < w4.heap.size := by omega
  have d3 : w3.heap.size + 1 + 1 < w4.heap.size + 1 := by omega
  have hx1 : w3.heap.size < W.heap.size := by rw [hW]; simp; omega
  have hx2 : w3.heap.size + 1 < W.heap.size := by rw [hW]; simp; omega
  have hx3 : w3.heap.size + 1 + 1 < W.heap.size := by rw [hW]; simp; omega
  have hx4 : w5.heap.size < W.heap.size := by rw [hW]; simp
  have x0 : W.cell? ⟨w3.heap.size, 0, none⟩ = some (.int .i64 2) := by rw [hW]; go_simp
  have x1 : W.cell? ⟨w3.heap.size, 1, none⟩ = some (.int .i64 0) := by rw [hW]; go_simp
  have x2 : W.cell? ⟨w3.heap.size, 2, none⟩ = some (.string a) := by rw [hW]; go_simp
  have x3 : W.cell? ⟨w3.heap.size, 3, none⟩ = some (.bool false) := by rw [hW]; go_simp
  have y0 : W.cell? ⟨w3.heap.size + 1, 0, none⟩ = some (.int .i64 2) := by rw [hW]; go_simp
  have y1 : W.cell? ⟨w3.heap.size + 1, 1, none⟩ = some (.int .i64 0) := by rw [hW]; go_simp
  have y2 : W.cell? ⟨w3.heap.size + 1, 2, none⟩ = some (.string b) := by rw [hW]; go_simp
  have y3 : W.cell? ⟨w3.heap.size + 1, 3, none⟩ = some (.bool false) := by rw [hW]; go_simp
  have z0 : W.cell? ⟨w3.heap.size + 1 + 1, 0, none⟩ = some (.int .i64 2) := by rw [hW]; go_simp
  have z1 : W.cell? ⟨w3.heap.size + 1 + 1, 1, none⟩ = some (.int .i64 0) := by rw [hW]; go_simp
  have z2 : W.cell? ⟨w3.heap.size + 1 + 1, 2, none⟩ = some (.string c) := by rw [hW]; go_simp
  have z3 : W.cell? ⟨w3.heap.size + 1 + 1, 3, none⟩ = some (.bool false) := by rw [hW]; go_simp
  have l0 : W.cell? ⟨w5.heap.size, 0, none⟩ = some (.int .i64 1) := by rw [hW]; go_simp
  have l1 : W.cell? ⟨w5.heap.size, 1, none⟩ = some (.int .i64 ((a.size : Int) + b.size)) := by rw [hW]; go_simp
  have l2 : W.cell? ⟨w5.heap.size, 2, none⟩ = some (.string ⟨#[]⟩) := by rw [hW]; go_simp
  have l3 : W.cell? ⟨w5.heap.size, 3, none⟩ = some (.bool false) := by rw [hW]; go_simp
  rw [← hW]
  clear hc hf hz hg hW d1 d2 d3
  generalize w3.heap.size = gx at *
  generalize w5.heap.size = gl at *
  refine Rg.region_typed (W := W) 13 [10, 11] [(8, [7])] [(7, RowG a b), (12, NewG)] (fun k => k == 7 || k == 12) [7, 12]
    [some (.agg #[.int .i64 0, .int .i64 0, .string ⟨#[]⟩, .bool false]), some (.func (Fn.func 24) #[] #[]), some (.agg #[.int .i64 2, .int .i64 0, .string a, .bool false]), some (.agg #[.int .i64 0, .int .i64 0, .string ⟨#[]⟩, .bool false]),
     some (.agg #[.int .i64 0, .int .i64 0, .string ⟨#[]⟩, .bool false]), some (.agg #[.int .i64 2, .int .i64 0, .string a, .bool false]), some (.agg #[.int .i64 2, .int .i64 0, .string b, .bool false]), none,
     some (.tuple #[.agg #[.int .i64 2, .int .i64 0, .string a, .bool false], .int .i64 0]), some (.tuple #[.agg #[.int .i64 2, .int .i64 0, .string a, .bool false], .int .i64 0]), some (.agg #[.int .i64 2, .int .i64 0, .string a, .bool false]), some (.int .i64 0), none]
    (Below.drew (Below.refl _ _)) (by kernel_rfl) (by kernel_rfl) ⟨rfl, rfl, trivial⟩ (gs_keep a b) (fun _ _ d _ _ h => by cases d <;> exact h) ?_
  intro v
  simp only [List.take_succ_cons, List.take_zero, Rg.wpV, Option.getD_some, Option.getD_none, Act.put, List.setIfInBounds_toArray, List.set_cons_zero, List.set_cons_succ]
  refine ⟨?_, ?_, ?_, ?_, ?_, ?_, ?_, ?_, ?_, ?_, ?_, ?_, ?_, ?_⟩
  all_goals first
    | (refine step_det (by rfl) (by rfl) (fun w' hS hF => ?_)
       have hc := Gr.cells hS
       have hf := Gr.frees hS
       go_simp
       first
       | exact Below.refl _ _
       | (refine ⟨?_, Below.refl _ _⟩; with_reducible rfl)
       | ((with_reducible refine (cat_right a _ (by omega)).mono ?_); rintro e w' ⟨rfl, hg⟩; refine ⟨?_, hg⟩; with_reducible rfl)
       | (obtain ⟨⟨g, e, hr⟩, -⟩ := hF; rw [e]; refine (coal_any a b g 4 _ hr).mono ?_; rintro e w' ⟨rfl, hg⟩; refine ⟨?_, hg⟩; rfl))
    | (refine step_flt (by rfl) (Or.inl ⟨by rfl, fun w' => ?_⟩)
       go_simp
       try with_reducible rfl)
    | (refine step_free (by rfl) (by rfl) (fun w' hS hF => ?_)
       go_simp
       first
       | exact ⟨⟨_, rfl, vrow_four w' a b⟩, (Gr.refl _).alloc _, fun _ g hg => by simp [Rg.blk] at hg; subst hg; simp⟩
       | exact ⟨⟨_, rfl, holds_new w'⟩, (Gr.refl _).alloc _, fun _ g hg => by simp [Rg.blk] at hg; subst hg; simp⟩)
    | skip
  intro w6 hK
  have hup : Gr W w6 := hK.up
  obtain ⟨g13, e13, h13⟩ : NewG (v 12) w6 := hK.fact 12 (by decide) rfl rfl
  have hnew : W.heap.size ≤ g13 ∧ g13 < w6.heap.size := hK.new 12 (by decide) rfl rfl rfl g13 (by rw [e13]; rfl)
  rw [e13]
  clear hK e13
  generalize v 7 = row at *
  obtain ⟨q0, q1, q2, q3, qf⟩ := h13
  simp only [nul] at q0 q1 q2 q3
  obtain ⟨n1, n2⟩ := hnew
  have hc := Gr.cells hup
  have hf := Gr.frees hup
  have nx : ¬ gx = g13 := by omega
  have ny : ¬ gx + 1 = g13 := by omega
  have nz : ¬ gx + 1 + 1 = g13 := by omega
  have nl : ¬ gl = g13 := by omega
  have mx : ¬ g13 = gx := by omega
  have my : ¬ g13 = gx + 1 := by omega
  have mz : ¬ g13 = gx + 1 + 1 := by omega
  have ml : ¬ g13 = gl := by omega
  go_wp2_with fail
  obtain ⟨X, hX⟩ : ∃ X : World, X = ((((w6.setCell { block := g13, off := 0 } (.int .i64 2)).setCell { block := g13, off := 1 } (.int .i64 0)).setCell { block := g13, off := 2 } (.string a)).setCell { block := g13, off := 3 } (.bool false)) := ⟨_, rfl⟩
  have hgX : Gr w X := by
    rw [hX]
    exact ((((hgW.trans hup).setCell (by have := hgW.size; dsimp only; omega) _).setCell (by have := hgW.size; dsimp only; omega) _).setCell (by have := hgW.size; dsimp only; omega) _).setCell (by have := hgW.size; dsimp only; omega) _
  have hsX : X.heap.size = w6.heap.size := by rw [hX]; simp
  have hWs := hup.size
  have xx0 : X.cell? ⟨gx, 0, none⟩ = some (.int .i64 2) := by rw [hX]; go_simp
  have xx1 : X.cell? ⟨gx, 1, none⟩ = some (.int .i64 0) := by rw [hX]; go_simp
  have xx2 : X.cell? ⟨gx, 2, none⟩ = some (.string a) := by rw [hX]; go_simp
  have xx3 : X.cell? ⟨gx, 3, none⟩ = some (.bool false) := by rw [hX]; go_simp
  have yy0 : X.cell? ⟨gx + 1, 0, none⟩ = some (.int .i64 2) := by rw [hX]; go_simp
  have yy1 : X.cell? ⟨gx + 1, 1, none⟩ = some (.int .i64 0) := by rw [hX]; go_simp
  have yy2 : X.cell? ⟨gx + 1, 2, none⟩ = some (.string b) := by rw [hX]; go_simp
  have yy3 : X.cell? ⟨gx + 1, 3, none⟩ = some (.bool false) := by rw [hX]; go_simp
  have zz0 : X.cell? ⟨gx + 1 + 1, 0, none⟩ = some (.int .i64 2) := by rw [hX]; go_simp
  have zz1 : X.cell? ⟨gx + 1 + 1, 1, none⟩ = some (.int .i64 0) := by rw [hX]; go_simp
  have zz2 : X.cell? ⟨gx + 1 + 1, 2, none⟩ = some (.string c) := by rw [hX]; go_simp
  have zz3 : X.cell? ⟨gx + 1 + 1, 3, none⟩ = some (.bool false) := by rw [hX]; go_simp
  have ll0 : X.cell? ⟨gl, 0, none⟩ = some (.int .i64 1) := by rw [hX]; go_simp
  have ll1 : X.cell? ⟨gl, 1, none⟩ = some (.int .i64 ((a.size : Int) + b.size)) := by rw [hX]; go_simp
  have ll2 : X.cell? ⟨gl, 2, none⟩ = some (.string ⟨#[]⟩) := by rw [hX]; go_simp
  have ll3 : X.cell? ⟨gl, 3, none⟩ = some (.bool false) := by rw [hX]; go_simp
  have qq0 : X.cell? ⟨g13, 0, none⟩ = some (.int .i64 2) := by rw [hX]; go_simp
  have qq1 : X.cell? ⟨g13, 1, none⟩ = some (.int .i64 0) := by rw [hX]; go_simp
  have qq2 : X.cell? ⟨g13, 2, none⟩ = some (.string a) := by rw [hX]; go_simp
  have qq3 : X.cell? ⟨g13, 3, none⟩ = some (.bool false) := by rw [hX]; go_simp
  have xm := hgX.keep hm
  have k1 : gx < X.heap.size := by omega
  have k2 : gx + 1 < X.heap.size := by omega
  have k3 : gx + 1 + 1 < X.heap.size := by omega
  have k4 : gl < X.heap.size := by omega
  have k5 : g13 < X.heap.size := by omega
  have k6 : 0 < X.heap.size := by omega
  rw [← hX]
  clear hX hc hf hup n1 n2 hx1 hx2 hx3 hx4 hsX hWs x0 x1 x2 x3 y0 y1 y2 y3 z0 z1 z2 z3 l0 l1 l2 l3 q0 q1 q2 q3 qf nx ny nz nl mx my mz ml hgW hm X1 X2 X3 C1 L1
  have R1 := fun W => cat_text a b W (by omega)
  have R2 : ∀ W, Calls Tryd.prog 24 #[.agg #[.int .i64 2, .int .i64 0, .string (a ++ b), .bool false], .agg #[.int .i64 2, .int .i64 0, .string c, .bool false]] W fun e w' => e = .returned (.agg #[.int .i64 2, .int .i64 0, .string (a ++ (b ++ c)), .bool false]) ∧ Gr W w' := fun W => by
    rw [← ByteArray.append_assoc]
    exact cat_text (a ++ b) c W (by rw [ByteArray.size_append]; omega)
  have R3 := fun W => cat_text b c W (by omega)
  have R4 := fun W => cat_text a (b ++ c) W (by rw [ByteArray.size_append]; omega)
  have R5 := fun W => ltext_any ⟨#[]⟩ W
  have R6 : ∀ W, Calls Tryd.prog 24 #[.agg #[.int .i64 2, .int .i64 0, .string a, .bool false], .agg #[.int .i64 2, .int .i64 0, .string ⟨#[]⟩, .bool false]] W fun e w' => e = .returned (.agg #[.int .i64 2, .int .i64 0, .string a, .bool false]) ∧ Gr W w' := fun W => by
    have h := cat_text a ⟨#[]⟩ W (by have : (⟨#[]⟩ : ByteArray).size = 0 := rfl; omega)
    rw [show a ++ (⟨#[]⟩ : ByteArray) = a from ByteArray.append_empty] at h
    exact h
  have R7 := fun W => cat_left a W (by omega)
  have R8 := fun W => lint_any ((a.size : Int) + b.size) W
  have hsum : IntKind.i64.wrap ((a.size : Int) + b.size) = (a.size : Int) + b.size := by rw [IntKind.wrap_i64]; omega
  have tg := v_guard
  refine Rg.region_text 57 (Below.drew (Below.refl _ _)) (by kernel_rfl) (by kernel_rfl) (fun _ _ d _ _ h => by cases d <;> exact h) ?_
  simp only [List.append_eq, List.cons_append, List.nil_append, List.take_succ_cons, List.take_zero, List.drop_succ_cons, List.drop_zero]
  repeat (first
      | (refine Rg.wpDets_skip (by rfl) ?_; simp only [Act.put, List.setIfInBounds_toArray, List.set_cons_zero, List.set_cons_succ])
      | (refine Rg.wpDets_step ?_ (by rfl) (fun w hS => ?_) ?_
         rotate_left
         · have hc := Gr.cells hS
           have hf := Gr.frees hS
           go_simp
           first
           | (refine ⟨?_, Below.refl _ _⟩; with_reducible rfl)
           | ((with_reducible refine (R1 _).mono ?_); rintro e w' ⟨rfl, hg⟩; refine ⟨?_, hg⟩; with_reducible rfl)
           | ((with_reducible refine (R2 _).mono ?_); rintro e w' ⟨rfl, hg⟩; refine ⟨?_, hg⟩; with_reducible rfl)
           | ((with_reducible refine (R3 _).mono ?_); rintro e w' ⟨rfl, hg⟩; refine ⟨?_, hg⟩; with_reducible rfl)
           | ((with_reducible refine (R4 _).mono ?_); rintro e w' ⟨rfl, hg⟩; refine ⟨?_, hg⟩; with_reducible rfl)
           | ((with_reducible refine (R5 _).mono ?_); rintro e w' ⟨rfl, hg⟩; refine ⟨?_, hg⟩; with_reducible rfl)
           | ((with_reducible refine (R6 _).mono ?_); rintro e w' ⟨rfl, hg⟩; refine ⟨?_, hg⟩; with_reducible rfl)
           | ((with_reducible refine (R7 _).mono ?_); rintro e w' ⟨rfl, hg⟩; refine ⟨?_, hg⟩; with_reducible rfl)
           | ((with_reducible refine (R8 _).mono ?_); rintro e w' ⟨rfl, hg⟩; refine ⟨?_, hg⟩; with_reducible rfl)
           | ((with_reducible refine (awake_any m _ (by go_simp)).mono ?_); rintro e w' ⟨rfl, hg⟩; refine ⟨?_, hg⟩; with_reducible rfl)
         simp only [Act.put, List.setIfInBounds_toArray, List.set_cons_zero, List.set_cons_succ]))
  refine Rg.wpDets_nil ?_
  refine Rg.wpFlts_nil ?_
  refine Rg.wpLays_nil ?_
  intro w' hK
  have hg : Gr _ w' := hK.up
  have hc := hg.cells
  have hf := hg.frees
  have hz := hg.size
  try simp only [World.size_alloc, World.size_setCell, World.size_drew] at hz
  try have : 0 < w'.heap.size := by omega
  try have : w.heap.size < w'.heap.size := by omega
  try have : w.heap.size + 1 < w'.heap.size := by omega
  try have : w.heap.size + 1 + 1 < w'.heap.size := by omega
  try have : w.heap.size + 1 + 1 + 1 < w'.heap.size := by omega
  try have : w.heap.size + 1 + 1 + 1 + 1 < w'.heap.size := by omega
  try have : w.heap.size + 1 + 1 + 1 + 1 + 1 < w'.heap.size := by omega
  try have : w.heap.size + 1 + 1 + 1 + 1 + 1 + 1 < w'.heap.size := by omega
  try have : w.heap.size + 1 + 1 + 1 + 1 + 1 + 1 + 1 < w'.heap.size := by omega
  go_wp2
  all_goals
    (try (go_step3; (try simp only [Exit.then]); (try change Rg.once _ _ _ _ _ _); rw [Rg.once_goto]; go_wp2))
    (try rw [Rg.once_ret])
    (try rw [Exit.noGoto_ret])
    (try change bodyPost _ _ _ _ _ _)
    first
    | (go_returns; refine ⟨?_, ?_⟩)
    | (refine bodyPost_ret (by simp [results, Tryd.results7, go_sem, *]; try rfl) rfl ⟨?_, ?_⟩)
    rotate_left
    · repeat' (first | exact Gr.refl _ | exact Nat.le_refl _ | exact Nat.le_add_right _ _ | refine Gr.setCell ?_ ?_ _ | refine Gr.alloc ?_ _ | refine Gr.drew ?_ | refine Gr.trans ?_ (by assumption) | omega | (dsimp only; omega))
  all_goals rfl
end Go.Proofs.YtefdkpfndjlpgaaDoor

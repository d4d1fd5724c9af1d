/- ValueTexts: the law's closure, value.first, value.Call. -/
import Derived.Test.YtefdkpfndjlpgaaDoorRv
import Derived.Test.YtefdkpfndjlpgaaDoorLc
import Derived.Deep.DeepCutAuto
import Derived.Deep.RegionHeld3
namespace Go.Proofs.YtefdkpfndjlpgaaDoor
open Go.RowKit
set_option linter.unusedSimpArgs false
set_option linter.unusedVariables false
attribute [local go_sem] Rg.once_normal Rg.once_exit Rg.once_ret Rg.once_panic Rg.once_goto Rg.leads_value Rg.leads_skip Rg.leads_enter Rg.brings_value Rg.brings_skip Rg.brings_enter
set_option maxHeartbeats 2000000 in
set_option maxRecDepth 100000 in
theorem cat_any (a b : V) (w : World) (hs : a.s.size + b.s.size ≤ 9223372036854775807) : Calls Tryd.prog 24 #[a.val, b.val] w fun e w' => e = .returned (mathIn 23 a b 2).1.val ∧ Gr w w' := by
  have S := fun W => math_cat a b W hs
  clear hs
  generalize mathIn 23 a b 2 = R at *
  obtain ⟨t, n, s, b'⟩ := a
  obtain ⟨t2, n2, s2, b2'⟩ := b
  obtain ⟨⟨rt, rn, rs, rb⟩, re⟩ := R
  simp only [pairR, V.val] at S ⊢
  go_enter Tryd.func24, Tryd.ntmps24
  go_wp2_with fail
  refine (S _).mono ?_
  rintro e w1 ⟨rfl, hg⟩
  have hc := Gr.cells hg
  have hf := Gr.frees hg
  have hz := Gr.size hg
  try simp only [World.size_alloc, World.size_setCell, World.size_drew] at hz
  try have : 0 < w1.heap.size := by omega
  try have : w.heap.size < w1.heap.size := by omega
  try have : w.heap.size + 1 < w1.heap.size := by omega
  try have : w.heap.size + 1 + 1 < w1.heap.size := by omega
  go_wp2
  all_goals
    (try (go_step3; (try simp only [Exit.then]); (try change Rg.once _ _ _ _ _ _); rw [Rg.once_goto]; go_wp2))
    (try rw [Rg.once_ret])
    (try rw [Exit.noGoto_ret])
    (try change bodyPost _ _ _ _ _ _)
    first
    | (go_returns; refine ⟨?_, ?_⟩)
    | (refine bodyPost_ret (by simp [results, Tryd.results24, go_sem, *]; try rfl) rfl ⟨?_, ?_⟩)
    rotate_left
    · repeat' (first | exact Gr.refl _ | exact Nat.le_refl _ | exact Nat.le_add_right _ _ | refine Gr.setCell ?_ ?_ _ | refine Gr.alloc ?_ _ | refine Gr.drew ?_ | refine Gr.trans ?_ (by assumption) | omega | (dsimp only; omega))
  all_goals rfl
/-- a block that holds a value -/
def Holds (w : World) (g : Nat) (v : V) : Prop := w.cell? ⟨g, 0, none⟩ = some (.int .i64 v.t) ∧ w.cell? ⟨g, 1, none⟩ = some (.int .i64 v.n) ∧ w.cell? ⟨g, 2, none⟩ = some (.string v.s) ∧ w.cell? ⟨g, 3, none⟩ = some (.bool v.b) ∧ ∀ i, w.frozen? ⟨g, i, none⟩ = false
set_option maxHeartbeats 2000000 in
set_option maxRecDepth 100000 in
theorem first_any (s t : ByteArray) (g c : Nat) (w : World) (hrow : VRow w g [nul, nul, textV s, textV t]) :
    Calls Tryd.prog 47 #[.slice (some ⟨g, 0, none⟩) 4 c] w fun e w' => e = pairR (textV s, 0) ∧ Gr w w' := by
  have q : ∀ k i u (h : k < 4), ([nul, nul, textV s, textV t][k]'h).cells[i]? = some u → w.cell? ⟨g, k * 4 + i, none⟩ = some u := fun k i u h => hrow k i u h
  have a0 : w.cell? ⟨g, 0, none⟩ = some (.int .i64 0) := q 0 0 _ (by decide) rfl
  have a1 : w.cell? ⟨g, 1, none⟩ = some (.int .i64 0) := q 0 1 _ (by decide) rfl
  have a2 : w.cell? ⟨g, 2, none⟩ = some (.string ⟨#[]⟩) := q 0 2 _ (by decide) rfl
  have a3 : w.cell? ⟨g, 3, none⟩ = some (.bool false) := q 0 3 _ (by decide) rfl
  have a4 : w.cell? ⟨g, 4, none⟩ = some (.int .i64 0) := q 1 0 _ (by decide) rfl
  have a5 : w.cell? ⟨g, 5, none⟩ = some (.int .i64 0) := q 1 1 _ (by decide) rfl
  have a6 : w.cell? ⟨g, 6, none⟩ = some (.string ⟨#[]⟩) := q 1 2 _ (by decide) rfl
  have a7 : w.cell? ⟨g, 7, none⟩ = some (.bool false) := q 1 3 _ (by decide) rfl
  have a8 : w.cell? ⟨g, 8, none⟩ = some (.int .i64 2) := q 2 0 _ (by decide) rfl
  have a9 : w.cell? ⟨g, 9, none⟩ = some (.int .i64 0) := q 2 1 _ (by decide) rfl
  have a10 : w.cell? ⟨g, 10, none⟩ = some (.string s) := q 2 2 _ (by decide) rfl
  have a11 : w.cell? ⟨g, 11, none⟩ = some (.bool false) := q 2 3 _ (by decide) rfl
  have a12 : w.cell? ⟨g, 12, none⟩ = some (.int .i64 2) := q 3 0 _ (by decide) rfl
  have a13 : w.cell? ⟨g, 13, none⟩ = some (.int .i64 0) := q 3 1 _ (by decide) rfl
  have a14 : w.cell? ⟨g, 14, none⟩ = some (.string t) := q 3 2 _ (by decide) rfl
  have a15 : w.cell? ⟨g, 15, none⟩ = some (.bool false) := q 3 3 _ (by decide) rfl
  clear hrow q
  have hgw : g < w.heap.size := lt_of_cell a0
  go_enter Tryd.func47, Tryd.ntmps47
  go_wp2
  go_loopw [9] (fun i wr => ∃ k : Nat, i = .int .i64 k ∧ k ≤ 4 ∧ Gr w wr ∧ w.heap.size + 2 ≤ wr.heap.size ∧ Holds wr w.heap.size nul ∧ Holds wr (w.heap.size + 1) (if k ≤ 2 then nul else textV s)) (fun i _ => 4 - (intOf i).toNat)
  case atStart =>
    refine ⟨0, rfl, by omega, ((Gr.refl w).alloc _).alloc _, by simp, ?_, ?_⟩ <;> (unfold Holds; go_simp; decide)
  case round =>
    obtain ⟨k, rfl, hk, hg, hz, h0, h1⟩ := hrel
    have b0 := hg.keep a0
    have b1 := hg.keep a1
    have b2 := hg.keep a2
    have b3 := hg.keep a3
    have b4 := hg.keep a4
    have b5 := hg.keep a5
    have b6 := hg.keep a6
    have b7 := hg.keep a7
    have b8 := hg.keep a8
    have b9 := hg.keep a9
    have b10 := hg.keep a10
    have b11 := hg.keep a11
    have b12 := hg.keep a12
    have b13 := hg.keep a13
    have b14 := hg.keep a14
    have b15 := hg.keep a15
    have hk' : k = 0 ∨ k = 1 ∨ k = 2 ∨ k = 3 ∨ k = 4 := by omega
    obtain ⟨z0, z1, z2, z3, zf⟩ := h0
    obtain ⟨y0, y1, y2, y3, yf⟩ := h1
    clear a0 a1 a2 a3 a4 a5 a6 a7 a8 a9 a10 a11 a12 a13 a14 a15
    rcases hk' with rfl | rfl | rfl | rfl | rfl <;> simp only [nul, textV, Nat.zero_le, Nat.le_refl, if_true, show (1:Nat) ≤ 2 from by decide, show ¬ (3:Nat) ≤ 2 from by decide, show ¬ (4:Nat) ≤ 2 from by decide, if_false] at y0 y1 y2 y3 z0 z1 z2 z3
    all_goals have e0 : w.heap.size < wr.heap.size := by omega
    all_goals have e1 : w.heap.size + 1 < wr.heap.size := by omega
    all_goals have e2 : g < wr.heap.size := by omega
    all_goals go_wp2
    all_goals first
      | (refine ⟨⟨1, rfl, by decide, hg.alloc _, by simp; omega, ?_, ?_⟩, by simp [intOf]⟩ <;> (unfold Holds; simp only [nul, textV, Nat.le_refl, if_true, show (1:Nat) ≤ 2 from by decide]; go_simp; done))
      | (refine ⟨⟨2, rfl, by decide, hg.alloc _, by simp; omega, ?_, ?_⟩, by simp [intOf]⟩ <;> (unfold Holds; simp only [nul, textV, Nat.le_refl, if_true]; go_simp; done))
      | (refine ⟨⟨4, rfl, by decide, hg.alloc _, by simp; omega, ?_, ?_⟩, by simp [intOf]⟩ <;> (unfold Holds; simp only [nul, textV, Nat.le_refl, show ¬ (4:Nat) ≤ 2 from by decide, if_false]; go_simp; done))
      | (refine ⟨⟨3, rfl, by decide, ((((hg.setCell (by simp) _).setCell (by simp) _).setCell (by simp) _).setCell (by simp) _).alloc _, by simp; omega, ?_, ?_⟩, by simp [intOf]⟩ <;> (unfold Holds; simp only [nul, textV, Nat.le_refl, show ¬ (3:Nat) ≤ 2 from by decide, if_false]; go_simp; done))
      | (refine bodyPost_ret (by simp [results, Tryd.results47, go_sem, z0, z1, z2, z3, e0]; exact ⟨rfl, rfl, rfl, rfl⟩) rfl ⟨rfl, (((hg.setCell (by simp) _).setCell (by simp) _).setCell (by simp) _).setCell (by simp) _⟩)
end Go.Proofs.YtefdkpfndjlpgaaDoor

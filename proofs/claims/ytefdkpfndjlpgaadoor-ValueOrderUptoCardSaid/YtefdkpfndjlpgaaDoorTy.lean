/- ValueTexts: value.Call. -/
import Derived.Test.YtefdkpfndjlpgaaDoorTx
namespace Go.Proofs.YtefdkpfndjlpgaaDoor
open Go.RowKit
set_option linter.unusedSimpArgs false
set_option linter.unusedVariables false
attribute [local go_sem] Rg.once_normal Rg.once_exit Rg.once_ret Rg.once_panic Rg.once_goto Rg.leads_value Rg.leads_skip Rg.leads_enter Rg.brings_value Rg.brings_skip Rg.brings_enter
def coalS : ByteArray := ⟨#[99, 111, 97, 108, 101, 115, 99, 101]⟩
def lengS : ByteArray := ⟨#[108, 101, 110, 103, 116, 104]⟩
theorem vrow_new (W : World) (s : ByteArray) : VRow (W.alloc (.cells #[.int .i64 2, .int .i64 0, .string s, .bool false] 23)) W.heap.size [textV s] := by
  intro k i u hk hu
  obtain rfl : k = 0 := by simp at hk; omega
  simp only [List.getElem_cons_zero, V.cells, textV] at hu
  rw [Nat.zero_mul, Nat.zero_add]
  have h : i < 4 := by have := (Array.getElem?_eq_some_iff.1 hu).1; simpa using this
  match i, h with
  | 0, _ => simp at hu; subst hu; go_simp
  | 1, _ => simp at hu; subst hu; go_simp
  | 2, _ => simp at hu; subst hu; go_simp
  | 3, _ => simp at hu; subst hu; go_simp
set_option maxHeartbeats 2000000 in
set_option maxRecDepth 100000 in
theorem coal_any (s t : ByteArray) (g c : Nat) (w : World) (hrow : VRow w g [nul, nul, textV s, textV t]) :
    Calls Tryd.prog 26 #[.string ⟨#[99, 111, 97, 108, 101, 115, 99, 101]⟩, .slice (some ⟨g, 0, none⟩) 4 c] w fun e w' => e = pairR (textV s, 0) ∧ Gr w w' := by
  have S := fun W (h : Gr w W) => first_any s t g c W (hrow.keep h)
  simp only [pairR, textV] at S ⊢
  clear hrow
  go_enter Tryd.func26, Tryd.ntmps26
  go_wp2_with fail
  refine (S _ ((Gr.refl w).alloc _)).mono ?_
  rintro e w1 ⟨rfl, hg⟩
  have hc := Gr.cells hg
  have hf := Gr.frees hg
  have hz := Gr.size hg
  try simp only [World.size_alloc, World.size_setCell, World.size_drew] at hz
  try have : 0 < w1.heap.size := by omega
  try have : w.heap.size < w1.heap.size := by omega
  try have : w.heap.size + 1 < w1.heap.size := by omega
  try have : w.heap.size + 1 + 1 < w1.heap.size := by omega
  go_wp2
  all_goals
    (try (go_step3; (try simp only [Exit.then]); (try change Rg.once _ _ _ _ _ _); rw [Rg.once_goto]; go_wp2))
    (try rw [Rg.once_ret])
    (try rw [Exit.noGoto_ret])
    (try change bodyPost _ _ _ _ _ _)
    first
    | (go_returns; refine ⟨?_, ?_⟩)
    | (refine bodyPost_ret (by simp [results, Tryd.results26, go_sem, *]; try rfl) rfl ⟨?_, ?_⟩)
    rotate_left
    · repeat' (first | exact Gr.refl _ | exact Nat.le_refl _ | exact Nat.le_add_right _ _ | refine Gr.setCell ?_ ?_ _ | refine Gr.alloc ?_ _ | refine Gr.drew ?_ | refine Gr.trans ?_ (by assumption) | omega | (dsimp only; omega))
  all_goals rfl
set_option maxHeartbeats 2000000 in
set_option maxRecDepth 100000 in
theorem leng_any (s : ByteArray) (g c : Nat) (w : World) (hrow : VRow w g [textV s]) (hs : s.size ≤ 9223372036854775807) :
    Calls Tryd.prog 26 #[.string ⟨#[108, 101, 110, 103, 116, 104]⟩, .slice (some ⟨g, 0, none⟩) 1 c] w fun e w' => e = pairR (numV s.size, 0) ∧ Gr w w' := by
  have q : ∀ k i u (h : k < 1), ([textV s][k]'h).cells[i]? = some u → w.cell? ⟨g, k * 4 + i, none⟩ = some u := fun k i u h => hrow k i u h
  have a0 : w.cell? ⟨g, 0, none⟩ = some (.int .i64 2) := q 0 0 _ (by decide) rfl
  have a1 : w.cell? ⟨g, 1, none⟩ = some (.int .i64 0) := q 0 1 _ (by decide) rfl
  have a2 : w.cell? ⟨g, 2, none⟩ = some (.string s) := q 0 2 _ (by decide) rfl
  have a3 : w.cell? ⟨g, 3, none⟩ = some (.bool false) := q 0 3 _ (by decide) rfl
  have hgw : g < w.heap.size := lt_of_cell a0
  have T := fun W o g2 (h : W = o) => (typed_any 2 [textV s] g2 1 W (by simp))
  have T2 : Calls Tryd.prog 33 #[.int .i64 2, .slice (some ⟨w.heap.size + 1, 0, none⟩) 1 1] ((w.alloc (.cells #[.int .i64 0, .int .i64 0, .string ⟨#[]⟩, .bool false] 23)).alloc (.cells #[.int .i64 2, .int .i64 0, .string s, .bool false] 23)) fun e w' => e = .returned (.tuple #[.bool true, .bool false]) ∧ Gr ((w.alloc (.cells #[.int .i64 0, .int .i64 0, .string ⟨#[]⟩, .bool false] 23)).alloc (.cells #[.int .i64 2, .int .i64 0, .string s, .bool false] 23)) w' := by
    have h := vrow_new (w.alloc (.cells #[.int .i64 0, .int .i64 0, .string ⟨#[]⟩, .bool false] 23)) s
    rw [World.size_alloc] at h
    exact typed_any 2 [textV s] _ 1 _ (by simp) h
  have M := fun W => number_any s.size W
  clear hrow q T
  have hw : (s.size : Int) ≤ 9223372036854775807 := by omega
  have g0 : g < w.heap.size + 1 := by omega
  have g1 : g < w.heap.size + 1 + 1 := by omega
  simp only [pairR, numV]
  go_enter Tryd.func26, Tryd.ntmps26
  go_wp2_with fail
  refine (T2).mono ?_
  rintro e w1 ⟨rfl, hg⟩
  have hc := Gr.cells hg
  have hf := Gr.frees hg
  have hz := Gr.size hg
  try simp only [World.size_alloc, World.size_setCell, World.size_drew] at hz
  try have : 0 < w1.heap.size := by omega
  try have : w.heap.size < w1.heap.size := by omega
  try have : w.heap.size + 1 < w1.heap.size := by omega
  try have : w.heap.size + 1 + 1 < w1.heap.size := by omega
  have v0 : _ = some (Value.int .i64 0) := hg.keep (g := w.heap.size) (k := 0) (by go_simp)
  have v1 : _ = some (Value.int .i64 0) := hg.keep (g := w.heap.size) (k := 1) (by go_simp)
  have v2 : _ = some (Value.string ⟨#[]⟩) := hg.keep (g := w.heap.size) (k := 2) (by go_simp)
  have v3 : _ = some (Value.bool false) := hg.keep (g := w.heap.size) (k := 3) (by go_simp)
  go_wp2_with fail
  refine (M _).mono ?_
  rintro e w2 ⟨rfl, hg⟩
  have hc := Gr.cells hg
  have hf := Gr.frees hg
  have hz := Gr.size hg
  try simp only [World.size_alloc, World.size_setCell, World.size_drew] at hz
  try have : 0 < w2.heap.size := by omega
  try have : w.heap.size < w2.heap.size := by omega
  try have : w.heap.size + 1 < w2.heap.size := by omega
  try have : w.heap.size + 1 + 1 < w2.heap.size := by omega
  try have : w1.heap.size < w2.heap.size := by omega
  try have : w1.heap.size + 1 < w2.heap.size := by omega
  replace v0 := hg.keep v0
  replace v1 := hg.keep v1
  replace v2 := hg.keep v2
  replace v3 := hg.keep v3
  go_wp2
  have e0 : w.heap.size < w2.heap.size := by omega
  clear hc hf
  refine bodyPost_ret (by simp [results, Tryd.results26, go_sem, v0, v1, v2, v3, e0]) rfl ⟨rfl, ?_⟩
  repeat' (first | exact Gr.refl _ | exact Nat.le_refl _ | exact Nat.le_add_right _ _ | refine Gr.setCell ?_ ?_ _ | refine Gr.alloc ?_ _ | refine Gr.drew ?_ | refine Gr.trans ?_ (by assumption) | omega | (dsimp only; omega))
end Go.Proofs.YtefdkpfndjlpgaaDoor

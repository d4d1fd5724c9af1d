/- row: the writer's methods. (By mkS1.py.) -/
import Derived.Test.YtacbhkmkknicoaaDoorK1
import Derived.RangeFuncBox
namespace Go.Proofs.YtacbhkmkknicoaaDoor
open Go.RowKit
set_option linter.unusedSimpArgs false
set_option linter.unusedVariables false
attribute [local go_sem] Rg.leads_value Rg.leads_skip Rg.leads_enter Rg.brings_value Rg.brings_skip Rg.brings_enter Rg.bringsG_value Rg.bringsG_enter
/-- a writer stands in a block; its list is a row of its own -/
structure WS (p : Nat) (w : World) (l : List V) : Prop where
  ex : ∃ v, w.cell? ⟨p, 0, none⟩ = some v ∧ w.ownsRow p 32 4 v l.length (cellsF vF l)
  fz : w.frozen? ⟨p, 0, none⟩ = false
  ty : Ty 79 w p
/-- old blocks below p stand, and all blocks but the writer's and rows of values -/
structure Wk (p : Nat) (w w' : World) : Prop where
  b : Below p w w'
  o : ∀ b e, Ty e w b → e ≠ 79 → e ≠ 32 → w'.heap[b]? = w.heap[b]?
theorem Wk.cell {p : Nat} {w w' : World} {e : TypeId} {g k : Nat} {v : Value} (h : Wk p w w') (ht : Ty e w g) (h1 : e ≠ 79) (h2 : e ≠ 32) (hc : w.cell? ⟨g, k, none⟩ = some v) : w'.cell? ⟨g, k, none⟩ = some v := by
  rw [World.cell?_of_block (w := w) (h.o g e ht h1 h2)]; exact hc
theorem Wk.ty {p : Nat} {w w' : World} {e : TypeId} {g : Nat} (h : Wk p w w') (ht : Ty e w g) (h1 : e ≠ 79) (h2 : e ≠ 32) : Ty e w' g := by
  obtain ⟨cur, fz, hh⟩ := ht
  exact ⟨cur, fz, by rw [h.o g e ⟨cur, fz, hh⟩ h1 h2]; exact hh⟩
theorem WS.keep {p : Nat} {w w' : World} {l : List V} (h : WS p w l) (hg : Gr w w') : WS p w' l := by
  obtain ⟨v, hv, hown⟩ := h.ex
  exact ⟨⟨v, hg.keep hv, own_keep hown hg⟩, by rw [hg.frees p 0 (lt_of_cell hv)]; exact h.fz, h.ty.gr hg⟩
theorem cell_setCell_same {w : World} {p : Nat} {u v : Value} (h : w.cell? ⟨p, 0, none⟩ = some u) : (w.setCell ⟨p, 0, none⟩ v).cell? ⟨p, 0, none⟩ = some v := by
  go_simp
theorem WS.put {p : Nat} {w w3 : World} {l : List V} {x : V} {v v' : Value} (h : WS p w l) (hv : w.cell? ⟨p, 0, none⟩ = some v) (hown : w.ownsRow p 32 4 v l.length (cellsF vF l)) (hp : p < w.heap.size) (hq : Gz v w w3) (h3 : w3.ownsRow p 32 4 v' (l ++ [x]).length (cellsF vF (l ++ [x]))) :
    w3.cell? ⟨p, 0, none⟩ = some v ∧ w3.frozen? ⟨p, 0, none⟩ = false ∧ p < w3.heap.size ∧ WS p (w3.setCell ⟨p, 0, none⟩ v') (l ++ [x]) ∧ Wk p w (w3.setCell ⟨p, 0, none⟩ v') := by
  have hne := h.ty.ne hown (by decide)
  have c3 := Gz.cell hq hv (fun g hg e => hne (by rw [hg, e]))
  have ty3 := h.ty.gz hq hne
  have f3 : w3.frozen? ⟨p, 0, none⟩ = false := by
    have hb : w3.heap[p]? = w.heap[p]? := hq.block p hp (fun e => hne e.symm)
    rw [World.frozen?_of_block (w := w) hb]; exact h.fz
  have hne3 := ty3.ne h3 (by decide)
  have G := grownBy_setCell' w3 p v'
  refine ⟨c3, f3, lt_of_cell c3, ⟨⟨v', cell_setCell_same c3, h3.kept G (.inr hne3)⟩, ?_, ?_⟩, ?_⟩
  · rw [World.frozen?_setCell]; exact f3
  · obtain ⟨cur, fz, hh⟩ := ty3
    exact ⟨cur.setIfInBounds 0 v', fz, by simp [World.setCell, Array.getElem?_modify, hh]⟩
  · refine ⟨((Below.refl p w).grown hq (Nat.le_of_lt hp) (fun g hg => (World.ownsRow.lt hown g hg).1)).setCell (Nat.le_refl _) _, fun b e ht h1 h2 => ?_⟩
    have hbp : b ≠ p := fun hh => by
      subst hh
      obtain ⟨c1, f1, k1⟩ := ht
      obtain ⟨c2, f2, k2⟩ := h.ty
      rw [k1] at k2
      simp at k2
      exact h1 k2.2.1
    have hbo := ht.ne hown h2
    rw [Below.heap_setCell _ _ _ b hbp]
    exact hq.block b ht.lt (fun e => hbo e.symm)
def wbox (v : V) : List Value := vF v
set_option maxHeartbeats 4000000 in
set_option maxRecDepth 100000 in
theorem wtext_any (p : Nat) (x : ByteArray) (l : List V) (w : World) (h : WS p w l) (hl : l.length ≤ 1000000000) : Calls Tryd.prog 41 #[.pointer (some ⟨p, 0, none⟩), .string x] w fun e w' => e = .returned (.tuple #[]) ∧ WS p w' (l ++ [textV x]) ∧ Wk p w w' := by
  obtain ⟨v, hv, hown⟩ := h.ex
  have hp := lt_of_cell hv
  have HW := hid h
  have HO := hid hown
  obtain ⟨i0, hi0, hz0, hz1, hz2⟩ := info_parts v_info
  clear h hown
  go_enter Tryd.func41, Tryd.ntmps41
  go_wp2_with (at_builtin; refine wpList_append_own _ rfl _ _ 35 rfl p 32 i0 (.agg #[.int .i64 0, .int .i64 0, .string ⟨#[]⟩, .bool false]) 4 40 Tryd.underlying35 hi0 hz0 hz1 hz2 rfl (by decide) _ _ _ rfl (HO.out.alloc _) ⟨w.heap.size, 0, none⟩ 1 1 (vF (textV x)) rfl rfl ?ma1 ?ma2 ?ma3 ?ma4 ?ma5 ?_)
  case ma1 =>
    intro q u hu
    rw [addN, Nat.zero_add, Rg.blk_cells (heap_alloc_new _ _) q]
    simpa [vF, textV] using hu
  case ma2 => exact vE.one _
  case ma3 => unfold maxLen; omega
  case ma4 => omega
  case ma5 => first | omega | (simp; omega)
  intro v' w3 hown3 hq8 _
  obtain ⟨g', cap', rfl, _, _, _⟩ := own_form hown3 (by omega)
  have hq : Gz v w w3 := Gz.trans (.of ((Gr.refl w).alloc (.cells (vF (textV x)).toArray 32))) hq8
  have hown4 : w3.ownsRow p 32 4 (.slice (some ⟨g', 0, none⟩) (l.length + 1) cap') (l ++ [textV x]).length (cellsF vF (l ++ [textV x])) := by rw [List.length_append, cellsF_snoc]; exact hown3
  obtain ⟨c3, f3, z3, hws, hbl⟩ := HW.out.put hv HO.out hp hq hown4
  have HWS := hid hws
  have HBL := hid hbl
  clear hown3 hown4 hq8 hq hws hbl HO HW hv
  go_wp2
  exact ⟨rfl, .tuple #[], by simp [results, Tryd.results41, go_sem], rfl, HWS.out, HBL.out⟩
set_option maxHeartbeats 4000000 in
set_option maxRecDepth 100000 in
theorem wnum_any (p : Nat) (x : Int) (l : List V) (w : World) (h : WS p w l) (hl : l.length ≤ 1000000000) : Calls Tryd.prog 42 #[.pointer (some ⟨p, 0, none⟩), .int .i64 x] w fun e w' => e = .returned (.tuple #[]) ∧ WS p w' (l ++ [numV x]) ∧ Wk p w w' := by
  obtain ⟨v, hv, hown⟩ := h.ex
  have hp := lt_of_cell hv
  have HW := hid h
  have HO := hid hown
  obtain ⟨i0, hi0, hz0, hz1, hz2⟩ := info_parts v_info
  clear h hown
  go_enter Tryd.func42, Tryd.ntmps42
  go_wp2_with (at_builtin; refine wpList_append_own _ rfl _ _ 35 rfl p 32 i0 (.agg #[.int .i64 0, .int .i64 0, .string ⟨#[]⟩, .bool false]) 4 40 Tryd.underlying35 hi0 hz0 hz1 hz2 rfl (by decide) _ _ _ rfl (HO.out.alloc _) ⟨w.heap.size, 0, none⟩ 1 1 (vF (numV x)) rfl rfl ?ma1 ?ma2 ?ma3 ?ma4 ?ma5 ?_)
  case ma1 =>
    intro q u hu
    rw [addN, Nat.zero_add, Rg.blk_cells (heap_alloc_new _ _) q]
    simpa [vF, numV] using hu
  case ma2 => exact vE.one _
  case ma3 => unfold maxLen; omega
  case ma4 => omega
  case ma5 => first | omega | (simp; omega)
  intro v' w3 hown3 hq8 _
  obtain ⟨g', cap', rfl, _, _, _⟩ := own_form hown3 (by omega)
  have hq : Gz v w w3 := Gz.trans (.of ((Gr.refl w).alloc (.cells (vF (numV x)).toArray 32))) hq8
  have hown4 : w3.ownsRow p 32 4 (.slice (some ⟨g', 0, none⟩) (l.length + 1) cap') (l ++ [numV x]).length (cellsF vF (l ++ [numV x])) := by rw [List.length_append, cellsF_snoc]; exact hown3
  obtain ⟨c3, f3, z3, hws, hbl⟩ := HW.out.put hv HO.out hp hq hown4
  have HWS := hid hws
  have HBL := hid hbl
  clear hown3 hown4 hq8 hq hws hbl HO HW hv
  go_wp2
  exact ⟨rfl, .tuple #[], by simp [results, Tryd.results42, go_sem], rfl, HWS.out, HBL.out⟩
set_option maxHeartbeats 4000000 in
set_option maxRecDepth 100000 in
theorem wyes_any (p : Nat) (x : Bool) (l : List V) (w : World) (h : WS p w l) (hl : l.length ≤ 1000000000) : Calls Tryd.prog 43 #[.pointer (some ⟨p, 0, none⟩), .bool x] w fun e w' => e = .returned (.tuple #[]) ∧ WS p w' (l ++ [boolV x]) ∧ Wk p w w' := by
  obtain ⟨v, hv, hown⟩ := h.ex
  have hp := lt_of_cell hv
  have HW := hid h
  have HO := hid hown
  obtain ⟨i0, hi0, hz0, hz1, hz2⟩ := info_parts v_info
  clear h hown
  go_enter Tryd.func43, Tryd.ntmps43
  go_wp2_with (at_builtin; refine wpList_append_own _ rfl _ _ 35 rfl p 32 i0 (.agg #[.int .i64 0, .int .i64 0, .string ⟨#[]⟩, .bool false]) 4 40 Tryd.underlying35 hi0 hz0 hz1 hz2 rfl (by decide) _ _ _ rfl (HO.out.alloc _) ⟨w.heap.size, 0, none⟩ 1 1 (vF (boolV x)) rfl rfl ?ma1 ?ma2 ?ma3 ?ma4 ?ma5 ?_)
  case ma1 =>
    intro q u hu
    rw [addN, Nat.zero_add, Rg.blk_cells (heap_alloc_new _ _) q]
    simpa [vF, boolV] using hu
  case ma2 => exact vE.one _
  case ma3 => unfold maxLen; omega
  case ma4 => omega
  case ma5 => first | omega | (simp; omega)
  intro v' w3 hown3 hq8 _
  obtain ⟨g', cap', rfl, _, _, _⟩ := own_form hown3 (by omega)
  have hq : Gz v w w3 := Gz.trans (.of ((Gr.refl w).alloc (.cells (vF (boolV x)).toArray 32))) hq8
  have hown4 : w3.ownsRow p 32 4 (.slice (some ⟨g', 0, none⟩) (l.length + 1) cap') (l ++ [boolV x]).length (cellsF vF (l ++ [boolV x])) := by rw [List.length_append, cellsF_snoc]; exact hown3
  obtain ⟨c3, f3, z3, hws, hbl⟩ := HW.out.put hv HO.out hp hq hown4
  have HWS := hid hws
  have HBL := hid hbl
  clear hown3 hown4 hq8 hq hws hbl HO HW hv
  go_wp2
  exact ⟨rfl, .tuple #[], by simp [results, Tryd.results43, go_sem], rfl, HWS.out, HBL.out⟩
end Go.Proofs.YtacbhkmkknicoaaDoor

/- lex.Words: what an append does to what is read. -/
import Derived.Test.YthmihhjpilpcpaaL3
import Derived.Deep.DeepCutAuto
namespace Go.Proofs.Ythmihhjpilpcpaa
open Go.RowKit
set_option linter.unusedVariables false
theorem tok_info : (Try.prog.info? 29).map (fun i => (i.zero, i.size, i.bytes)) = some (some (.agg #[.int .i64 0, .string ⟨#[]⟩, .int .i64 0, .int .i64 0]), 4, 40) := by kernel_rfl
theorem only_of_below {a w : World} (h : Below a.heap.size a w) (row : Option Nat) : a.grownBy w row := ⟨h.os, h.tape, h.output, h.size, fun i hi _ => h.block i hi⟩
theorem WInv.below {w wr w' : World} {out : Value} {acc : List Lx.Tok} (h : WInv w wr out acc) (hb : Below wr.heap.size wr w') : WInv w w' out acc := by
  obtain ⟨h1, ⟨a, b, c, d, h2⟩, h3, h4⟩ := h
  refine ⟨h1.kept (row := none) (only_of_below hb _) ?_, ⟨a, b, c, d, (hb.block _ (by omega)).trans h2⟩, h3.trans (hb.mono (by omega)), Nat.le_trans h4 hb.size⟩
  rcases h1.2 with ⟨hv, _⟩ | ⟨g, cap, cur, hv, _⟩
  · left; rw [hv]; rfl
  · right; rw [hv]; simp [Value.ownBlock]
theorem WInv.set {w wr : World} {out : Value} {acc : List Lx.Tok} (h : WInv w wr out acc) (i : Nat) (u : Value) : WInv w (wr.setCell ⟨w.heap.size, i, none⟩ u) out acc := by
  obtain ⟨h1, ⟨a, b, c, d, h2⟩, h3, h4⟩ := h
  refine ⟨ownsRow_setCell_below h1 (a := ⟨w.heap.size, i, none⟩) (by show w.heap.size < w.heap.size + 1; omega) u, ?_, below_at h3 (Nat.le_refl _), by simpa [World.setCell] using h4⟩
  have : (wr.setCell ⟨w.heap.size, i, none⟩ u).heap[w.heap.size]? = some (.cells (#[a, b, c, d].setIfInBounds i u) 29 (0, 0)) := by
    simp [World.setCell, Array.getElem?_modify, h2]
  rw [this]
  match i with
  | 0 => exact ⟨u, b, c, d, rfl⟩
  | 1 => exact ⟨a, u, c, d, rfl⟩
  | 2 => exact ⟨a, b, u, d, rfl⟩
  | 3 => exact ⟨a, b, c, u, rfl⟩
  | i + 4 => exact ⟨a, b, c, d, by rw [Array.setIfInBounds_eq_of_size_le (by simp)]⟩
/-- an append of one token's cells -/
theorem WInv.more {w W w2 : World} {out out' : Value} {acc : List Lx.Tok} {t : Lx.Tok} {o : Obj} (h : WInv w W out acc) (hown : w2.ownsRow (w.heap.size + 1) 29 4 out' (acc.length + 1) (toksCells acc ++ (tkCells t.tk (t.pos : Int)).toList)) (hg : (W.alloc o).grownBy w2 out.ownBlock) :
    WInv w w2 out' (acc ++ [t]) := by
  obtain ⟨h1, ⟨a, b, c, d, h2⟩, h3, h4⟩ := h
  have hlt : w.heap.size < W.heap.size := by omega
  refine ⟨by rw [toksCells_snoc, List.length_append]; exact hown, ⟨a, b, c, d, ?_⟩, ?_, ?_⟩
  · rw [hg.block _ (by rw [World.size_alloc]; omega) (fun e => ?_), Below.heap_alloc W _ _ hlt]
    · exact h2
    · have := (h1.lt _ e.symm).1; omega
  · exact (h3.alloc (by omega) _).grown hg (by rw [World.size_alloc]; omega) (fun k hk => by have := (h1.lt k hk).1; omega)
  · have := hg.size; rw [World.size_alloc] at this; omega
theorem stored4 {w : World} {g : Nat} {a b c d : Value} {T : TypeId} (h : w.heap[g]? = some (.cells #[a, b, c, d] T (0, 0))) (x y z u v : Value) :
    (((((w.setCell ⟨g, 0, none⟩ x).setCell ⟨g, 1, none⟩ y).setCell ⟨g, 2, none⟩ z).setCell ⟨g, 3, none⟩ u).setCell ⟨g, 3, none⟩ v).heap[g]? = some (.cells #[x, y, z, v] T (0, 0)) := by
  simp [World.setCell, Array.getElem?_modify, h]
theorem cell_one (W : World) (cs : Array Value) (T : TypeId) (l : List Value) (h : cs.toList = l) : ∀ j u, l[j]? = some u → (W.alloc (.cells cs T)).cell? ((⟨W.heap.size, 0, none⟩ : Addr).add j) = some u := by
  intro j u hu
  rw [add0, Lib.cell_of_heap (heap_new W _), ← hu, ← h]
  simp
end Go.Proofs.Ythmihhjpilpcpaa

/- redo: a region that reads, builds a row of one and appends it. -/
import Derived.Test.YtmanokhadppeeaaAn
namespace Go.Proofs.Ytmanokhadppeeaa
open Go.RowKit
set_option linter.unusedVariables false
/-- a new row of m structs with these cells -/
def Sl (m : Nat) (xs : List Value) (u : Value) (w : World) : Prop := ∃ g, u = .slice (some ⟨g, 0, none⟩) m m ∧ g < w.heap.size ∧ ∀ j x, xs[j]? = some x → w.cell? ⟨g, j, none⟩ = some x
theorem Sl.keep {m : Nat} {xs : List Value} {u : Value} {w w' : World} (h : Sl m xs u w) (hg : Gr w w') : Sl m xs u w' := by
  obtain ⟨g, e, hl, hc⟩ := h
  exact ⟨g, e, Nat.lt_of_lt_of_le hl hg.size, fun j x hx => hg.keep (hc j x hx)⟩
theorem sl_keep (m k : Nat) (xs : List Value) : ∀ i u w w', Rg.Gat [(k, Sl m xs)] i u w → Rg.Up w w' → Rg.Gat [(k, Sl m xs)] i u w' := by
  intro i u w w' h hu
  unfold Rg.Gat at h ⊢
  split at h
  · rename_i hk; rw [if_pos hk]; exact Sl.keep h hu
  · rename_i hk; rw [if_neg hk]; trivial
theorem sl_new (w : World) (m : Nat) (cs : Array Value) (t : TypeId) (xs : List Value) (h : cs.toList = xs) : Sl m xs (.slice (some ⟨w.heap.size, 0, none⟩) m m) (w.alloc (.cells cs t)) ∧ Rg.Up w (w.alloc (.cells cs t)) := by
  refine ⟨⟨_, rfl, by simp, fun j x hx => ?_⟩, (Gr.refl _).alloc _⟩
  rw [Rg.blk_cells (heap_alloc_new _ _) j]
  subst h
  simpa using hx
/-- a new row of m of type e with these cells -/
def St (e : TypeId) (m : Nat) (xs : List Value) (u : Value) (w : World) : Prop := ∃ g, u = .slice (some ⟨g, 0, none⟩) m m ∧ Ty e w g ∧ ∀ j x, xs[j]? = some x → w.cell? ⟨g, j, none⟩ = some x
theorem St.keep {e : TypeId} {m : Nat} {xs : List Value} {u : Value} {w w' : World} (h : St e m xs u w) (hg : Gr w w') : St e m xs u w' := by
  obtain ⟨g, h1, hl, hc⟩ := h
  exact ⟨g, h1, hl.gr hg, fun j x hx => hg.keep (hc j x hx)⟩
theorem st_keep2 (e1 e2 : TypeId) (m1 k1 m2 k2 : Nat) (xs ys : List Value) : ∀ i u w w', Rg.Gat [(k1, St e1 m1 xs), (k2, St e2 m2 ys)] i u w → Rg.Up w w' → Rg.Gat [(k1, St e1 m1 xs), (k2, St e2 m2 ys)] i u w' := by
  intro i u w w' h hu
  unfold Rg.Gat at h ⊢
  split at h
  · rename_i hk; rw [if_pos hk]; exact St.keep h hu
  · rename_i hk; rw [if_neg hk]
    unfold Rg.Gat at h ⊢
    split at h
    · rename_i hk2; rw [if_pos hk2]; exact St.keep h hu
    · rename_i hk2; rw [if_neg hk2]; trivial
theorem st_new (w : World) (m : Nat) (cs : Array Value) (t : TypeId) (xs : List Value) (h : cs.toList = xs) : St t m xs (.slice (some ⟨w.heap.size, 0, none⟩) m m) (w.alloc (.cells cs t)) ∧ Rg.Up w (w.alloc (.cells cs t)) := by
  refine ⟨⟨_, rfl, Ty.new _ _ _, fun j x hx => ?_⟩, (Gr.refl _).alloc _⟩
  rw [Rg.blk_cells (heap_alloc_new _ _) j]
  subst h
  simpa using hx
end Go.Proofs.Ytmanokhadppeeaa

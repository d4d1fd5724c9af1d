/- redo: a region that stores into a struct of one's own, each cell to what it is to be. -/
import Derived.Test.YtmanokhadppeeaaRx
import Derived.Test.YtmanokhadppeeaaPs
namespace Go.Proofs.Ytmanokhadppeeaa
open Go.RowKit
set_option linter.unusedVariables false
section
variable (base e n g : Nat) (Fin : Nat → Value → World → Prop)
abbrev vG : Value := .slice (some ⟨g, 0, none⟩) 1 1
/-- the struct stands there -/
def OwnG (w : World) : Prop := ∃ xs, w.ownsRow base e n (vG g) 1 xs
structure Mv (w w' : World) : Prop where
  own : OwnG base e n g w
  own' : OwnG base e n g w'
  gz : Gz (vG g) w w'
  at' : ∀ xs, w.ownsRow base e n (vG g) 1 xs → ∃ xs', w'.ownsRow base e n (vG g) 1 xs' ∧ ∀ j, xs'[j]? = xs[j]? ∨ ∃ u, xs'[j]? = some u ∧ Fin j u w'
def MvU (w w' : World) : Prop := w = w' ∨ Mv base e n g Fin w w'
def FinOk : Prop := ∀ j u b c, OwnG base e n g b → Gz (vG g) b c → Fin j u b → Fin j u c
end
section
variable {base e n g : Nat} {Fin : Nat → Value → World → Prop}
theorem MvU.refl (w : World) : MvU base e n g Fin w w := .inl rfl
theorem Mv.trans (hF : FinOk base e n g Fin) {a b c : World} (h : Mv base e n g Fin a b) (k : Mv base e n g Fin b c) : Mv base e n g Fin a c := by
  refine ⟨h.own, k.own', h.gz.trans k.gz, fun xs hx => ?_⟩
  obtain ⟨ys, hy, h1⟩ := h.at' xs hx
  obtain ⟨zs, hz, h2⟩ := k.at' ys hy
  refine ⟨zs, hz, fun j => ?_⟩
  rcases h2 j with h2 | h2
  · rcases h1 j with h1 | ⟨u, h1, h3⟩
    · exact .inl (h2.trans h1)
    · exact .inr ⟨u, h2.trans h1, hF j u b c k.own k.gz h3⟩
  · exact .inr h2
theorem MvU.trans (hF : FinOk base e n g Fin) {a b c : World} (h : MvU base e n g Fin a b) (k : MvU base e n g Fin b c) : MvU base e n g Fin a c := by
  rcases h with rfl | h
  · exact k
  · rcases k with rfl | k
    · exact .inr h
    · exact .inr (h.trans hF k)
theorem MvU.size {a b : World} (h : MvU base e n g Fin a b) : a.heap.size ≤ b.heap.size := by
  rcases h with rfl | h
  · exact Nat.le_refl _
  · exact h.gz.size
theorem MvU.own {a b : World} (h : MvU base e n g Fin a b) (ho : OwnG base e n g a) : OwnG base e n g b := by
  rcases h with rfl | h
  · exact ho
  · exact h.own'
theorem MvU.gz {a b : World} (h : MvU base e n g Fin a b) : Gz (vG g) a b := by
  rcases h with rfl | h
  · exact Gz.refl _ _
  · exact h.gz
theorem MvU.cell {a b : World} (h : MvU base e n g Fin a b) {s k : Nat} {u : Value} (hc : a.cell? ⟨s, k, none⟩ = some u) (hne : ¬ s = g) : b.cell? ⟨s, k, none⟩ = some u :=
  h.gz.cell hc (fun g' hg' e => hne (by cases hg'; exact e.symm))
theorem MvU.of_gr {a b : World} (h : Gr a b) (ho : OwnG base e n g a) : MvU base e n g Fin a b := by
  obtain ⟨xs, hx⟩ := ho
  exact .inr ⟨⟨xs, hx⟩, ⟨xs, own_keep hx h⟩, .of h, fun ys hy => ⟨ys, own_keep hy h, fun j => .inl rfl⟩⟩
theorem MvU.store {w : World} (ho : OwnG base e n g w) {j : Nat} {u : Value} (hj : j < n) (hf : Fin j u (w.setCell ⟨g, j, none⟩ u)) : MvU base e n g Fin w (w.setCell ⟨g, j, none⟩ u) := by
  obtain ⟨xs, hx⟩ := ho
  refine .inr ⟨⟨xs, hx⟩, ⟨_, (hx.stored j u).1⟩, (hx.stored j u).2, fun ys hy => ⟨_, (hy.stored j u).1, fun i => ?_⟩⟩
  by_cases e : i = j
  · subst e
    refine .inr ⟨u, ?_, hf⟩
    rw [List.getElem?_set_self]
    rw [hy.1]; omega
  · exact .inl (List.getElem?_set_ne (fun h => e h.symm))
/-- cell j is what it is to be -/
def CellG (base e n g : Nat) (Fin : Nat → Value → World → Prop) (j : Nat) (u' : Value) (w : World) : Prop := ∃ xs, w.ownsRow base e n (vG g) 1 xs ∧ ∃ u, xs[j]? = some u ∧ Fin j u w
theorem CellG.keep (hF : FinOk base e n g Fin) {j : Nat} {u' : Value} {w w' : World} (h : CellG base e n g Fin j u' w) (hg : MvU base e n g Fin w w') : CellG base e n g Fin j u' w' := by
  rcases hg with rfl | hg
  · exact h
  · obtain ⟨xs, hx, u, hu, hf⟩ := h
    obtain ⟨ys, hy, h1⟩ := hg.at' xs hx
    rcases h1 j with h1 | ⟨u2, h1, h2⟩
    · exact ⟨ys, hy, u, h1.trans hu, hF j u w w' hg.own hg.gz hf⟩
    · exact ⟨ys, hy, u2, h1, h2⟩
theorem CellG.store {w : World} (ho : OwnG base e n g w) {j : Nat} {u u' : Value} (hj : j < n) (hf : Fin j u (w.setCell ⟨g, j, none⟩ u)) : CellG base e n g Fin j u' (w.setCell ⟨g, j, none⟩ u) := by
  obtain ⟨xs, hx⟩ := ho
  refine ⟨_, (hx.stored j u).1, u, ?_, hf⟩
  rw [List.getElem?_set_self]
  rw [hx.1]; omega
/-- a new row, and the struct stands -/
def SoG (base e n g : Nat) (t : TypeId) (m : Nat) (xs : List Value) (u : Value) (w : World) : Prop := OwnG base e n g w ∧ St t m xs u w
theorem SoG.keep {t : TypeId} (ht : t ≠ e) {m : Nat} {xs : List Value} {u : Value} {w w' : World} (h : SoG base e n g t m xs u w) (hg : MvU base e n g Fin w w') : SoG base e n g t m xs u w' := by
  obtain ⟨ho, b, h1, h2, h3⟩ := h
  refine ⟨hg.own ho, b, h1, ?_, fun j x hx => ?_⟩
  · obtain ⟨ys, hy⟩ := ho
    exact h2.gz hg.gz (h2.ne hy ht)
  · obtain ⟨ys, hy⟩ := ho
    exact hg.gz.cell (h3 j x hx) (fun g' hg' e' => h2.ne hy ht (by rw [hg', e']))
end
end Go.Proofs.Ytmanokhadppeeaa

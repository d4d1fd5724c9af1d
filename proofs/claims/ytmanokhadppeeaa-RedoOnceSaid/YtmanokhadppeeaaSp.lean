/- redo: sorting loses nothing. -/
import Derived.Test.YtmanokhadppeeaaS2
namespace Go.Proofs.Ytmanokhadppeeaa
theorem swap_perm {α : Type} : ∀ (j : Nat) (l : List α) (x y : α), l[j]? = some y → l[j + 1]? = some x → List.Perm ((l.set (j + 1) y).set j x) l
  | 0, a :: b :: r, x, y, h0, h1 => by
    simp at h0 h1
    subst h0 h1
    exact List.Perm.swap _ _ _
  | 0, [a], x, y, h0, h1 => by simp at h1
  | 0, [], x, y, h0, h1 => by simp at h1
  | j + 1, a :: r, x, y, h0, h1 => by
    have := swap_perm j r x y (by simpa using h0) (by simpa using h1)
    simpa using this
  | j + 1, [], x, y, h0, h1 => by simp at h1
theorem sift_perm {α : Type} (key : α → Int) : ∀ (j : Nat) (l : List α), List.Perm (siftF key j l) l
  | 0, _ => List.Perm.refl _
  | j + 1, l => by
    by_cases h : j + 1 < l.length
    · rw [sift_step h]
      split
      · exact (sift_perm key j _).trans (swap_perm j l _ _ (List.getElem?_eq_getElem (by omega)) (List.getElem?_eq_getElem h))
      · exact List.Perm.refl _
    · unfold siftF
      rw [List.getElem?_eq_none (by omega)]
theorem sortFrom_perm {α : Type} (key : α → Int) : ∀ (f i : Nat) (l : List α), List.Perm (sortFrom key f i l) l
  | 0, _, _ => List.Perm.refl _
  | f + 1, i, l => by
    unfold sortFrom
    exact (sortFrom_perm key f (i + 1) _).trans (sift_perm key i l)
theorem sort_perm {α : Type} (key : α → Int) (l : List α) : List.Perm (sortF key l) l := sortFrom_perm _ _ _ _
end Go.Proofs.Ytmanokhadppeeaa

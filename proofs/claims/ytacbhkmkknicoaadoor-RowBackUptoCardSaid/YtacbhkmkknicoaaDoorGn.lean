/- Rows of structs, whatever their cells: in any memory; in a slice of one's own. -/
import Derived.Test.YtacbhkmkknicoaaDoorKit
import Derived.Test.YtacbhkmkknicoaaDoorRv
import Derived.OwnWalk
import Derived.Laws.OwnMore
namespace Go.Proofs.YtacbhkmkknicoaaDoor
open Go.RowKit
set_option linter.unusedSimpArgs false
set_option linter.unusedVariables false
theorem Gr.keepF {w w' : World} {g k : Nat} (h : Gr w w') (hl : g < w.heap.size) (hf : w.frozen? ⟨g, k, none⟩ = false) : w'.frozen? ⟨g, k, none⟩ = false := by rw [h.frees g k hl]; exact hf
theorem Gr.grown {w wr w' : World} {row : Option Nat} (h : Gr w wr) (hg : wr.grownBy w' row) (hrow : ∀ k, row = some k → w.heap.size ≤ k) : Gr w w' :=
  Below.grown h hg h.size hrow
theorem Gr.only {a w : World} (h : Gr a w) (row : Option Nat) : a.grownBy w row := ⟨h.os, h.tape, h.output, h.size, fun i hi _ => h.block i hi⟩
theorem addN (b off k : Nat) : (⟨b, off, none⟩ : Addr).add k = ⟨b, off + k, none⟩ := by unfold Addr.add; split <;> simp_all
section
variable {α : Type}
/-- how a struct is written into cells -/
structure Enc (f : α → List Value) (n : Nat) : Prop where
  len : ∀ x, (f x).length = n
  one : ∀ x, ∀ u ∈ f x, u.oneCell' = true
  pos : 0 < n
def cellsF (f : α → List Value) (l : List α) : List Value := l.flatMap f
variable {f : α → List Value} {n : Nat}
theorem cellsF_cons (x : α) (l : List α) : cellsF f (x :: l) = f x ++ cellsF f l := rfl
theorem cellsF_append (l m : List α) : cellsF f (l ++ m) = cellsF f l ++ cellsF f m := by simp [cellsF]
theorem cellsF_snoc (l : List α) (x : α) : cellsF f (l ++ [x]) = cellsF f l ++ f x := by simp [cellsF]
theorem Enc.cells_len (h : Enc f n) : ∀ l : List α, (cellsF f l).length = l.length * n
  | [] => by simp [cellsF]
  | x :: r => by rw [cellsF_cons, List.length_append, h.len, h.cells_len r, List.length_cons, Nat.add_mul]; omega
theorem Enc.cells_one (h : Enc f n) (l : List α) : ∀ u ∈ cellsF f l, u.oneCell' = true := by
  intro u hu
  obtain ⟨x, _, hm⟩ := List.mem_flatMap.1 hu
  exact h.one x u hm
theorem Enc.cells_get (h : Enc f n) : ∀ (l : List α) (k : Nat) (hk : k < l.length) (j : Nat), j < n → (cellsF f l)[k * n + j]? = (f l[k])[j]?
  | [], k, hk, _, _ => by simp at hk
  | x :: r, 0, _, j, hj => by rw [cellsF_cons, Nat.zero_mul, Nat.zero_add, List.getElem?_append_left (by rw [h.len]; exact hj)]; rfl
  | x :: r, k + 1, hk, j, hj => by
    have := h.cells_get r k (by simpa using hk) j hj
    rw [cellsF_cons, List.getElem?_append_right (by rw [h.len, Nat.add_mul]; omega), h.len, show (k + 1) * n + j - n = k * n + j by rw [Nat.add_mul]; omega, this]
    rfl
theorem Enc.cells_at (h : Enc f n) (l : List α) (i : Nat) (u : Value) (hu : (cellsF f l)[i]? = some u) : ∃ k, ∃ hk : k < l.length, ∃ j, j < n ∧ i = k * n + j ∧ (f l[k])[j]? = some u := by
  have hi : i < (cellsF f l).length := (List.getElem?_eq_some_iff.1 hu).1
  rw [h.cells_len] at hi
  have hk : i / n < l.length := (Nat.div_lt_iff_lt_mul h.pos).2 hi
  have hm := Nat.mod_lt i h.pos
  have hd := Nat.div_add_mod i n
  rw [Nat.mul_comm] at hd
  refine ⟨i / n, hk, i % n, hm, hd.symm, ?_⟩
  rw [← h.cells_get l (i / n) hk (i % n) hm, hd]
  exact hu
theorem Enc.cells_set (h : Enc f n) : ∀ (l : List α) (k : Nat) (x : α) (j : Nat) (u : Value) (hk : k < l.length), j < n → f x = (f l[k]).set j u → cellsF f (l.set k x) = (cellsF f l).set (k * n + j) u
  | [], k, _, _, _, hk, _, _ => by simp at hk
  | y :: r, 0, x, j, u, _, hj, e => by
    rw [List.set_cons_zero, cellsF_cons, cellsF_cons, Nat.zero_mul, Nat.zero_add, List.set_append_left _ _ (by rw [h.len]; exact hj)]
    rw [e]; rfl
  | y :: r, k + 1, x, j, u, hk, hj, e => by
    have := h.cells_set r k x j u (by simpa using hk) hj (by simpa using e)
    rw [List.set_cons_succ, cellsF_cons, cellsF_cons, this, List.set_append_right _ _ (by rw [h.len, Nat.add_mul]; omega), h.len, show (k + 1) * n + j - n = k * n + j by rw [Nat.add_mul]; omega]
/-- a row of structs in memory -/
def RowF (f : α → List Value) (n : Nat) (w : World) (b off : Nat) (l : List α) : Prop := ∀ k (h : k < l.length) (j : Nat) (u : Value), (f l[k])[j]? = some u → w.cell? ⟨b, off + k * n + j, none⟩ = some u
def AtF (f : α → List Value) (n : Nat) (w : World) (oa : Option Addr) (l : List α) : Prop := l = [] ∨ ∃ b off, oa = some ⟨b, off, none⟩ ∧ b < w.heap.size ∧ RowF f n w b off l
theorem RowF.keep {w w' : World} {b off : Nat} {l : List α} (h : RowF f n w b off l) (hg : Gr w w') : RowF f n w' b off l := fun k hk j u hu => hg.keep (h k hk j u hu)
theorem AtF.keep {w w' : World} {oa : Option Addr} {l : List α} (h : AtF f n w oa l) (hg : Gr w w') : AtF f n w' oa l := by
  rcases h with h | ⟨b, off, e, hb, h⟩
  · exact .inl h
  · exact .inr ⟨b, off, e, Nat.lt_of_lt_of_le hb hg.size, h.keep hg⟩
theorem AtF.get {w : World} {oa : Option Addr} {l : List α} (h : AtF f n w oa l) (k : Nat) (hk : k < l.length) : ∃ b off, oa = some ⟨b, off, none⟩ ∧ b < w.heap.size ∧ ∀ (j : Nat) (u : Value), (f l[k])[j]? = some u → w.cell? ⟨b, off + k * n + j, none⟩ = some u := by
  rcases h with h | ⟨b, off, e, hb, h⟩
  · subst h; simp at hk
  · exact ⟨b, off, e, hb, h k hk⟩
theorem RowF.cells {w : World} {b off : Nat} {l : List α} (he : Enc f n) (h : RowF f n w b off l) : ∀ i u, (cellsF f l)[i]? = some u → w.cell? ((⟨b, off, none⟩ : Addr).add i) = some u := by
  intro i u hu
  obtain ⟨k, hk, j, hj, rfl, e⟩ := he.cells_at l i u hu
  rw [addN, ← Nat.add_assoc]
  exact h k hk j u e
theorem own_keep {w w' : World} {base n' e : Nat} {m : Nat} {v : Value} {zs : List Value} (h : w.ownsRow base e m v n' zs) (hg : Gr w w') : w'.ownsRow base e m v n' zs :=
  h.kept (row := none) (hg.only _) (by cases v.ownBlock <;> simp)
/-- a slice of one's own is a row -/
theorem own_at {w : World} {base : Nat} {e : TypeId} {v : Value} {l : List α} (he : Enc f n) (h : w.ownsRow base e n v l.length (cellsF f l)) :
    ∃ oa c, v = .slice oa l.length c ∧ AtF f n w oa l ∧ l.length ≤ c ∧ ∀ g o q, oa = some ⟨g, o, q⟩ → base ≤ g := by
  rcases h.2 with ⟨rfl, h0⟩ | ⟨g, cap, cur, rfl, hb, hg, hc, _⟩
  · exact ⟨none, 0, by rw [h0], .inl (List.eq_nil_of_length_eq_zero h0), by omega, by intro _ _ _ e; cases e⟩
  · refine ⟨_, cap, rfl, .inr ⟨g, 0, rfl, (Array.getElem?_eq_some_iff.1 hg).1, fun k hk j u hu => ?_⟩, hc, by intro _ _ _ e; cases e; exact hb⟩
    have hj : j < n := by rw [← he.len l[k]]; exact (List.getElem?_eq_some_iff.1 hu).1
    have d := h.cells (g := g) rfl (k * n + j) u (by rw [he.cells_get l k hk j hj]; exact hu)
    rw [addN, ← Nat.add_assoc] at d
    exact d
theorem own_form {w : World} {base : Nat} {e : TypeId} {v : Value} {m : Nat} {zs : List Value} (h : w.ownsRow base e n v m zs) (hm : 0 < m) : ∃ g cap, v = .slice (some ⟨g, 0, none⟩) m cap ∧ base ≤ g ∧ g < w.heap.size ∧ m ≤ cap := by
  rcases h.2 with ⟨rfl, h0⟩ | ⟨g, cap, cur, rfl, hb, hg, hc, _⟩
  · omega
  · exact ⟨g, cap, rfl, hb, (Array.getElem?_eq_some_iff.1 hg).1, hc⟩
/-- one field is stored -/
theorem own_store {w : World} {base : Nat} {e : TypeId} {g cap : Nat} {l : List α} (he : Enc f n) (h : w.ownsRow base e n (.slice (some ⟨g, 0, none⟩) l.length cap) l.length (cellsF f l)) (k : Nat) (hk : k < l.length) (x : α) (j : Nat) (hj : j < n) (u : Value) (hx : f x = (f l[k]).set j u) :
    (w.setCell ⟨g, k * n + j, none⟩ u).ownsRow base e n (.slice (some ⟨g, 0, none⟩) l.length cap) (l.set k x).length (cellsF f (l.set k x)) ∧ w.grownBy (w.setCell ⟨g, k * n + j, none⟩ u) (some g) := by
  obtain ⟨h1, h2⟩ := h.stored (k * n + j) u
  rw [← he.cells_set l k x j u hk hj hx] at h1
  rw [List.length_set]
  exact ⟨h1, h2⟩
end
end Go.Proofs.YtacbhkmkknicoaaDoor

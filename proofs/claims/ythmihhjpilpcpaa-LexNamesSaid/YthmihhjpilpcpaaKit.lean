/- Words and small lemmas that the walks of this seat share. -/
import Derived.Test.YthmihhjpilpcpaaRows
import Derived.Test.YthmihhjpilpcpaaPlain
import Derived.WalkKit
import Derived.WalkLawsBesides
import Derived.WalkSpells
namespace Go.Proofs.Ythmihhjpilpcpaa
open Go.RowKit
theorem hid {p : Prop} (h : p) : Hid p := h
theorem ret_bool {a b : Bool} (h : a = b) : Ending.returned (.bool a) = .returned (.bool b) := by rw [h]
theorem ret_int {k : IntKind} {a b : Int} (h : a = b) : Ending.returned (.int k a) = .returned (.int k b) := by rw [h]
theorem ret_str {a b : List UInt8} (h : a = b) : Ending.returned (.string ⟨a.toArray⟩) = .returned (.string ⟨b.toArray⟩) := by rw [h]
theorem u8map (W : World) (s : ByteArray) : (convert 9 23 (.string s)).run Try.prog W = .ok (.slice (some ⟨W.heap.size, 0, none⟩) s.size (grownCap W s.size 0 5))
      (W.drew.alloc (.cells (bytesRow s (grownCap W s.size 0 5)) 5 ((bytesRow s (grownCap W s.size 0 5)).size, (bytesRow s (grownCap W s.size 0 5)).size + 1))) :=
  run_bytes_of_string W 9 23 5 s Try.underlying9 Try.underlying23 Try.underlying5
/-- a block whose first cells are bytes, none of them frozen -/
structure BRow (w : World) (g : Nat) (l : List UInt8) : Prop where
  cell : ∀ i c, l[i]? = some c → w.cell? ⟨g, i, none⟩ = some (.int .u8 (c.toNat : Int))
  free : ∀ i, i < l.length → w.frozen? ⟨g, i, none⟩ = false
theorem heap_new (W : World) (o : Obj) : (W.alloc o).heap[W.heap.size]? = some o := by
  show (W.heap.push _)[W.heap.size]? = _
  simp
theorem lt_of_get {α : Type} {l : List α} {i : Nat} {c : α} (h : l[i]? = some c) : i < l.length := (List.getElem?_eq_some_iff.1 h).1
theorem BRow.made (W : World) (s : ByteArray) (cap : Nat) : BRow (W.alloc (.cells (bytesRow s cap) 5 ((bytesRow s cap).size, (bytesRow s cap).size + 1))) W.heap.size s.data.toList := by
  constructor
  · intro i c hc
    rw [World.cell?_alloc_mark]
    have hi : i < s.data.toList.length := lt_of_get hc
    have hi' : i < s.data.size := by simpa using hi
    rw [bytesRow, Array.getElem?_append_left (by simpa using hi')]
    rw [Array.getElem?_toList] at hc
    simp [hc]
  · intro i hi
    have hi' : i < s.size := by simpa using hi
    unfold World.frozen?
    rw [heap_new]
    have : s.size ≤ (bytesRow s cap).size := by
      rw [bytesRow, Array.size_append, Array.size_map, ByteArray.size_data]; omega
    simp
    omega
theorem BRow.drew {w : World} {g : Nat} {l : List UInt8} (h : BRow w g l) : BRow w.drew g l := ⟨h.cell, h.free⟩
theorem BRow.set {w : World} {g : Nat} {l : List UInt8} (h : BRow w g l) (i : Nat) (hi : i < l.length) (c : UInt8) : BRow (w.setCell ⟨g, i, none⟩ (.int .u8 (c.toNat : Int))) g (l.set i c) := by
  constructor
  · intro j d hj
    by_cases e : j = i
    · subst e
      rw [World.cell?_setCell_same _ _ _ (h.cell j _ (List.getElem?_eq_getElem hi))]
      rw [List.getElem?_set_self hi] at hj
      injection hj with hj; subst hj; rfl
    · rw [List.getElem?_set_ne (Ne.symm e)] at hj
      rw [World.cell?_setCell_other _ _ _ _ (by intro e'; injection e' with _ e2; exact e e2.symm), h.cell j _ hj]
  · intro j hj
    simp only [List.length_set] at hj
    rw [World.frozen?_setCell]; exact h.free j hj
theorem add0 (g j : Nat) : (⟨g, 0, none⟩ : Addr).add j = ⟨g, j, none⟩ := by
  unfold Addr.add; split
  · subst_vars; rfl
  · simp
theorem BRow.back {w : World} {g : Nat} {l : List UInt8} (h : BRow w g l) (cap : Nat) :
    (convert 23 9 (.slice (some ⟨g, 0, none⟩) l.length cap)).run Try.prog w = .ok (.string ⟨l.toArray⟩) w :=
  run_convert_bytes_back w 23 9 5 ⟨g, 0, none⟩ cap l Try.underlying23 Try.underlying5 Try.underlying9 (fun j hj => by
    rw [add0]; exact h.cell j _ (List.getElem?_eq_getElem hj))
end Go.Proofs.Ythmihhjpilpcpaa

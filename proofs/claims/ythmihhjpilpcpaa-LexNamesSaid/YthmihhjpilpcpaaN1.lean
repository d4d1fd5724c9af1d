/- reserved words: a search in one long text, and a search in a list, tell the same. -/
import Derived.Test.YthmihhjpilpcpaaPlain
import Derived.Lib.IndexMore
import Derived.Lib.IndexAny
import Derived.Shelf.Strings.Search3
namespace Go.Proofs.Ythmihhjpilpcpaa
open Lx
def wordsB : Bytes := [32, 97, 108, 108, 32, 97, 110, 100, 32, 97, 115, 32, 97, 115, 99, 32, 98, 101, 103, 105, 110, 32, 98, 101, 116, 119, 101, 101, 110, 32, 98, 111, 111, 108, 32, 98, 121, 32, 99, 111, 97, 108, 101, 115, 99, 101, 32, 99, 111, 108, 117, 109, 110, 32, 99, 111, 109, 109, 105, 116, 32, 99, 111, 117, 110, 116, 32, 99, 114, 101, 97, 116, 101, 32, 100, 101, 108, 101, 116, 101, 32, 100, 101, 115, 99, 32, 100, 105, 115, 116, 105, 110, 99, 116, 32, 100, 114, 111, 112, 32, 101, 110, 100, 32, 101, 120, 105, 115, 116, 115, 32, 101, 120, 112, 108, 97, 105, 110, 32, 102, 97, 108, 115, 101, 32, 102, 114, 111, 109, 32, 103, 114, 111, 117, 112, 32, 104, 97, 118, 105, 110, 103, 32, 105, 110, 32, 105, 110, 100, 101, 120, 32, 105, 110, 110, 101, 114, 32, 105, 110, 115, 101, 114, 116, 32, 105, 110, 116, 32, 105, 110, 116, 111, 32, 105, 115, 32, 106, 111, 105, 110, 32, 107, 101, 121, 32, 108, 101, 110, 103, 116, 104, 32, 108, 105, 109, 105, 116, 32, 109, 97, 120, 32, 109, 105, 110, 32, 110, 111, 116, 32, 110, 117, 108, 108, 32, 111, 102, 102, 115, 101, 116, 32, 111, 110, 32, 111, 114, 32, 111, 114, 100, 101, 114, 32, 112, 114, 105, 109, 97, 114, 121, 32, 114, 101, 108, 101, 97, 115, 101, 32, 114, 111, 108, 108, 98, 97, 99, 107, 32, 115, 97, 118, 101, 112, 111, 105, 110, 116, 32, 115, 101, 108, 101, 99, 116, 32, 115, 101, 116, 32, 115, 117, 109, 32, 116, 97, 98, 108, 101, 32, 116, 101, 120, 116, 32, 116, 111, 32, 116, 114, 117, 101, 32, 117, 110, 105, 113, 117, 101, 32, 117, 112, 100, 97, 116, 101, 32, 118, 97, 108, 117, 101, 115, 32, 119, 104, 101, 114, 101, 32]
def keptL : List Bytes := [[97, 108, 108], [97, 110, 100], [97, 115], [97, 115, 99], [98, 101, 103, 105, 110], [98, 101, 116, 119, 101, 101, 110], [98, 111, 111, 108], [98, 121], [99, 111, 97, 108, 101, 115, 99, 101], [99, 111, 108, 117, 109, 110], [99, 111, 109, 109, 105, 116], [99, 111, 117, 110, 116], [99, 114, 101, 97, 116, 101], [100, 101, 108, 101, 116, 101], [100, 101, 115, 99], [100, 105, 115, 116, 105, 110, 99, 116], [100, 114, 111, 112], [101, 110, 100], [101, 120, 105, 115, 116, 115], [101, 120, 112, 108, 97, 105, 110], [102, 97, 108, 115, 101], [102, 114, 111, 109], [103, 114, 111, 117, 112], [104, 97, 118, 105, 110, 103], [105, 110], [105, 110, 100, 101, 120], [105, 110, 110, 101, 114], [105, 110, 115, 101, 114, 116], [105, 110, 116], [105, 110, 116, 111], [105, 115], [106, 111, 105, 110], [107, 101, 121], [108, 101, 110, 103, 116, 104], [108, 105, 109, 105, 116], [109, 97, 120], [109, 105, 110], [110, 111, 116], [110, 117, 108, 108], [111, 102, 102, 115, 101, 116], [111, 110], [111, 114], [111, 114, 100, 101, 114], [112, 114, 105, 109, 97, 114, 121], [114, 101, 108, 101, 97, 115, 101], [114, 111, 108, 108, 98, 97, 99, 107], [115, 97, 118, 101, 112, 111, 105, 110, 116], [115, 101, 108, 101, 99, 116], [115, 101, 116], [115, 117, 109], [116, 97, 98, 108, 101], [116, 101, 120, 116], [116, 111], [116, 114, 117, 101], [117, 110, 105, 113, 117, 101], [117, 112, 100, 97, 116, 101], [118, 97, 108, 117, 101, 115], [119, 104, 101, 114, 101]]
theorem keptL_len : keptL.length = 58 := by rfl
theorem kept_all : keptL.all (fun x => Lib.contains wordsB (32 :: (x ++ [32])) && !(x.contains 32) && !x.isEmpty) = true := by decide +kernel
theorem piece_all : (List.range 331).all (fun i => !((wordsB.drop i).head? == some 32) || (let x := (wordsB.drop (i + 1)).takeWhile (fun c => c != 32); x.isEmpty || keptL.contains x)) = true := by decide +kernel
theorem take_piece (s r : Bytes) (h : s.contains 32 = false) : (s ++ 32 :: r).takeWhile (fun c => c != 32) = s := by
  induction s with
  | nil => simp
  | cons c s ih =>
    simp only [List.contains_cons, Bool.or_eq_false_iff] at h
    have hc : (c != 32) = true := by
      have := h.1
      rw [bne_iff_ne]
      intro e; subst e; simp at this
    rw [List.cons_append, List.takeWhile_cons, if_pos hc, ih h.2]
theorem kept_eq (s : Bytes) (h0 : s ≠ []) (h32 : s.contains 32 = false) : Lib.contains wordsB (32 :: (s ++ [32])) = keptL.contains s := by
  rw [Bool.eq_iff_iff]
  constructor
  · intro h
    unfold Lib.contains at h
    rw [decide_eq_true_eq] at h
    rcases Lib.index_spec wordsB (32 :: (s ++ [32])) with ⟨h1, _⟩ | ⟨i, h1, h2, h3, _⟩
    · omega
    · unfold Lib.occAt at h3
      rw [List.isPrefixOf_iff_prefix] at h3
      obtain ⟨t, ht⟩ := h3
      have hlen : wordsB.length = 331 := by decide +kernel
      have hi : i < 331 := by
        have := congrArg List.length ht
        simp at this; omega
      have hp := List.all_eq_true.1 piece_all i (List.mem_range.2 hi)
      have hd1 : wordsB.drop (i + 1) = s ++ 32 :: t := by
        rw [← List.drop_drop, ← ht]; simp
      rw [hd1, take_piece s t h32, ← ht] at hp
      have he : s.isEmpty = false := by cases s with | nil => exact absurd rfl h0 | cons _ _ => rfl
      simp only [he, List.cons_append, List.head?_cons, beq_self_eq_true, Bool.not_true, Bool.false_or] at hp
      exact hp
  · intro h
    have hm : s ∈ keptL := by simpa using h
    have := List.all_eq_true.1 kept_all s hm
    simp only [Bool.and_eq_true] at this
    exact this.1.1
theorem kept_facts (s : Bytes) (h : keptL.contains s = true) : s ≠ [] ∧ s.contains 32 = false := by
  have hm : s ∈ keptL := by simpa using h
  have := List.all_eq_true.1 kept_all s hm
  simp only [Bool.and_eq_true, Bool.not_eq_true'] at this
  refine ⟨?_, this.1.2⟩
  intro e; subst e; simp at this
/-- what both tell of a word -/
def keptB (s : Bytes) : Bool := keptL.contains s
theorem indexByte_contains (s : Bytes) (c : UInt8) : decide (0 ≤ Lib.indexByte s c) = s.contains c := (Lib.contains_iff_indexByte s c).symm
theorem kept_false (s : Bytes) (h : s = [] ∨ s.contains 32 = true) : keptB s = false := by
  rw [← Bool.not_eq_true]
  intro e
  obtain ⟨h1, h2⟩ := kept_facts s e
  rcases h with h | h
  · exact h1 h
  · rw [h] at h2; cases h2
end Go.Proofs.Ythmihhjpilpcpaa

/- what the document fixes, asked behind every law: it is so. -/
import Derived.Test.YthmihhjpilpcpaaM2
namespace Go.Proofs.Ythmihhjpilpcpaa
open Go.RowKit
set_option linter.unusedVariables false
theorem aw1 : Lx.lexAll [83, 69, 76, 69, 67, 84, 32, 97, 60, 62, 39, 105, 116, 39, 39, 115, 39, 32, 45, 45, 32, 120] = .good [⟨⟨1, [115, 101, 108, 101, 99, 116], 0⟩, 0⟩, ⟨⟨1, [97], 0⟩, 7⟩, ⟨⟨4, [60, 62], 0⟩, 8⟩, ⟨⟨3, [105, 116, 39, 115], 0⟩, 10⟩, ⟨⟨5, [], 0⟩, 22⟩] := by rfl
theorem aw2 : Lx.lexAll [97, 32, 33, 32, 98] = .bad 2 := by rfl
/-- what a call of Words gives, with its tokens' cells -/
def GoodPost (l : List Lx.Tok) (w : World) (e : Ending) (w' : World) : Prop :=
  Below w.heap.size w w' ∧ ∃ g, w.heap.size ≤ g ∧ e = .returned (.tuple #[.slice (some ⟨g, 0, none⟩) l.length l.length, .int .i64 0, .int .i64 0]) ∧ ∀ j u, (toksCells l)[j]? = some u → w'.cell? ⟨g, j, none⟩ = some u
theorem words_good (s : ByteArray) (w : World) (hs : s.size ≤ 4096) (l : List Lx.Tok) (h : Lx.lexAll s.data.toList = .good l) : Calls Try.prog 8 #[.string s] w (GoodPost l w) :=
  (words_any s w hs).mono fun e w' ⟨hb, hp⟩ => ⟨hb, by rw [h] at hp; exact hp⟩
theorem words_bad (s : ByteArray) (w : World) (hs : s.size ≤ 4096) (p : Nat) (h : Lx.lexAll s.data.toList = .bad p) :
    Calls Try.prog 8 #[.string s] w fun e w' => e = .returned (.tuple #[.slice none 0 0, .int .i64 180, .int .i64 (p : Int)]) ∧ Below w.heap.size w w' :=
  (words_any s w hs).mono fun e w' ⟨hb, hp⟩ => ⟨by rw [h] at hp; exact hp, hb⟩
set_option maxHeartbeats 1000000 in
set_option maxRecDepth 100000 in
theorem awake_any (w : World) : Calls Try.prog 7 #[] w fun e w' => e = .returned (.bool true) ∧ Below w.heap.size w w' := by
  go_enter Try.func7, Try.ntmps7
  go_wp2_with fail
  refine (words_good ⟨#[83, 69, 76, 69, 67, 84, 32, 97, 60, 62, 39, 105, 116, 39, 39, 115, 39, 32, 45, 45, 32, 120]⟩ _ (by decide) _ aw1).mono ?_
  rintro e w1 ⟨hb1, g, hg, rfl, hc⟩
  have d1 := hc 1 (.string ⟨#[115, 101, 108, 101, 99, 116]⟩) rfl
  have d9 := hc 9 (.string ⟨#[60, 62]⟩) rfl
  have d13 := hc 13 (.string ⟨#[105, 116, 39, 115]⟩) rfl
  have d16 := hc 16 (.int .i64 5) rfl
  clear hc
  have hlt : g < w1.heap.size := by
    rcases Nat.lt_or_ge g w1.heap.size with h | h
    · exact h
    · simp [World.cell?, Array.getElem?_eq_none h] at d1
  go_wp2_with fail
  refine (words_bad ⟨#[97, 32, 33, 32, 98]⟩ _ (by decide) 2 aw2).mono ?_
  rintro e w2 ⟨rfl, hb2⟩
  rw [← hb2.cell (p := ⟨g, 1, none⟩) hlt] at d1
  rw [← hb2.cell (p := ⟨g, 9, none⟩) hlt] at d9
  rw [← hb2.cell (p := ⟨g, 13, none⟩) hlt] at d13
  rw [← hb2.cell (p := ⟨g, 16, none⟩) hlt] at d16
  have hbel : Below w.heap.size w w2 := hb1.trans (hb2.mono hb1.size)
  clear hb1 hb2
  go_wp2

  go_ret
  exact ⟨rfl, hbel⟩
end Go.Proofs.Ythmihhjpilpcpaa

/- LexWords: the walk, every string. -/
import Derived.Test.YthmihhjpilpcpaaR6
import Derived.Test.YthmihhjpilpcpaaX1
import Derived.Test.YthmihhjpilpcpaaPost
namespace Go.Proofs.Ythmihhjpilpcpaa
open Go.RowKit
set_option linter.unusedVariables false
set_option maxHeartbeats 1000000 in
set_option maxRecDepth 100000 in
theorem rwords_long (s : ByteArray) (w : World) (hs : 4096 < s.size) (hm : s.size ≤ maxLen) :
    Calls Try.prog 9 #[.string s] w fun e w' => e = .returned (.agg #[.slice none 0 0, .int .i64 2, .int .i64 0]) ∧ Below w.heap.size w w' := by
  have hd : decide ((4096 : Int) < (s.size : Int)) = true := by simp; omega
  go_enter Try.func9, Try.ntmps9
  go_wp2
  refine bodyPost_ret (v := .agg #[.slice none 0 0, .int .i64 2, .int .i64 0]) (by simp [results, Try.results9, go_sem]) rfl ⟨rfl, (Below.refl _ _).alloc (Nat.le_refl _) _⟩
theorem lexN_len (s : List UInt8) : ∀ f pos acc l, Lx.lexN f s pos acc = .good l → l.length ≤ acc.length + f := by
  intro f
  induction f with
  | zero => intro pos acc l h; cases h
  | succ f ih =>
    intro pos acc l h
    rw [Lx.lexN] at h
    split at h
    · injection h with h; subst h; simp
    · split at h
      · have := ih _ _ _ h; omega
      · split at h
        · cases h
        · have := ih _ _ _ h; simp at this; omega
theorem lexAll_len (s : List UInt8) (l : List Lx.Tok) (h : Lx.lexAll s = .good l) : l.length ≤ s.length + 1 := by
  have := lexN_len s _ _ _ _ h
  simpa using this
theorem cell_lt {w : World} {g j : Nat} {u : Value} (h : w.cell? ⟨g, j, none⟩ = some u) : g < w.heap.size := by
  rcases Nat.lt_or_ge g w.heap.size with h' | h'
  · exact h'
  · simp [World.cell?, Array.getElem?_eq_none h'] at h
theorem keep_cell {w w' : World} {g j : Nat} {u : Value} (h : w.cell? ⟨g, j, none⟩ = some u) (hb : Below w.heap.size w w') : w'.cell? ⟨g, j, none⟩ = some u :=
  (hb.cell (p := ⟨g, j, none⟩) (cell_lt h)).trans h
theorem below_alloc (w : World) (o : Obj) : Below w.heap.size w (w.alloc o) := (Below.refl _ _).alloc (Nat.le_refl _) _
theorem below_drewN {B : Nat} {a w : World} (h : Below B a w) (n : Nat) : Below B a (w.drewN n) := ⟨h.os, h.tape, h.output, h.size, h.block⟩
set_option maxHeartbeats 1000000 in
set_option maxRecDepth 100000 in
theorem lexwords_good (s : ByteArray) (w : World) (hs : s.size ≤ 4096) (l : List Lx.Tok) (h : Lx.lexAll s.data.toList = .good l) : Calls Try.prog 4 #[.string s] w (Yes w) := by
  have hlen := lexAll_len _ _ h
  simp only [Array.length_toList, ByteArray.size_data] at hlen
  go_enter Try.func4, Try.ntmps4
  go_wp2_with fail
  refine (words_good s _ hs l h).mono ?_
  rintro e w1 ⟨hb1, g1, hg1, rfl, hc1⟩
  have Hc1 := hid hc1; clear hc1
  go_wp2_with fail
  refine (rwords_any s _ hs).mono ?_
  rintro e w2 ⟨hb2, hp⟩
  rw [h] at hp
  obtain ⟨g2, cap, hg2, rfl, hc2⟩ := hp
  have Hc2 := hid hc2; clear hc2
  have hbel : Below w.heap.size w w2 := hb1.trans (hb2.mono hb1.size)
  have Hb2 := hid hb2; clear hb2
  go_wp2_with fail
  refine (same_any _ g1 g2 l.length cap l (by omega) (fun j u hu => keep_cell (keep_cell (Hc1.out j u hu) Hb2.out) (below_alloc _ _)) (fun j u hu => keep_cell (Hc2.out j u hu) (below_alloc _ _))).mono ?_
  rintro e w3 ⟨rfl, n, rfl⟩
  have hsz := hbel.size
  have hblk := heap_new w2 (.cells #[.slice (some ⟨g2, 0, none⟩) l.length cap, .int .i64 0, .int .i64 0] 32)
  obtain ⟨r0, r1, r2, hf⟩ := blk3 hblk
  clear hblk
  have hbel3 : Below w.heap.size w ((w2.alloc (.cells #[.slice (some ⟨g2, 0, none⟩) l.length cap, .int .i64 0, .int .i64 0] 32)).drewN n) := below_drewN (hbel.alloc hsz _) n
  clear hb1 hbel
  go_wp2_with (go_at_call 7; refine (awake_any _).mono ?_; rintro e w4 ⟨rfl, hb4⟩; have hbel4 := hbel3.trans (hb4.mono hbel3.size))
  go_ret
  exact ⟨rfl, hbel4⟩
set_option maxHeartbeats 1000000 in
set_option maxRecDepth 100000 in
theorem lexwords_bad (s : ByteArray) (w : World) (hs : s.size ≤ 4096) (p : Nat) (h : Lx.lexAll s.data.toList = .bad p) : Calls Try.prog 4 #[.string s] w (Yes w) := by
  go_enter Try.func4, Try.ntmps4
  go_wp2_with fail
  refine (words_bad s _ hs p h).mono ?_
  rintro e w1 ⟨rfl, hb1⟩
  go_wp2_with fail
  refine (rwords_any s _ hs).mono ?_
  rintro e w2 ⟨hb2, hp⟩
  rw [h] at hp
  obtain rfl := hp
  have hbel : Below w.heap.size w w2 := hb1.trans (hb2.mono hb1.size)
  clear hb1 hb2
  go_wp2_with fail
  refine (same_nil _).mono ?_
  rintro e w3 ⟨rfl, rfl⟩
  have hsz := hbel.size
  have hblk := heap_new w2 (.cells #[.slice none 0 0, .int .i64 180, .int .i64 (p : Int)] 32)
  obtain ⟨r0, r1, r2, hf⟩ := blk3 hblk
  clear hblk
  have hbel3 : Below w.heap.size w (w2.alloc (.cells #[.slice none 0 0, .int .i64 180, .int .i64 (p : Int)] 32)) := hbel.alloc hsz _
  clear hbel
  go_wp2_with (go_at_call 7; refine (awake_any _).mono ?_; rintro e w4 ⟨rfl, hb4⟩; have hbel4 := hbel3.trans (hb4.mono hbel3.size))
  go_ret
  exact ⟨rfl, hbel4⟩
set_option maxHeartbeats 1000000 in
set_option maxRecDepth 100000 in
theorem lexwords_long (s : ByteArray) (w : World) (hs : 4096 < s.size) (hm : s.size ≤ maxLen) : Calls Try.prog 4 #[.string s] w (Yes w) := by
  go_enter Try.func4, Try.ntmps4
  go_wp2_with fail
  refine (words_long s _ hs hm).mono ?_
  rintro e w1 ⟨rfl, hb1⟩
  go_wp2_with fail
  refine (rwords_long s _ hs hm).mono ?_
  rintro e w2 ⟨rfl, hb2⟩
  have hbel : Below w.heap.size w w2 := hb1.trans (hb2.mono hb1.size)
  clear hb1 hb2
  go_wp2_with fail
  refine (same_nil _).mono ?_
  rintro e w3 ⟨rfl, rfl⟩
  have hsz := hbel.size
  have hblk := heap_new w2 (.cells #[.slice none 0 0, .int .i64 2, .int .i64 0] 32)
  obtain ⟨r0, r1, r2, hf⟩ := blk3 hblk
  clear hblk
  have hbel3 : Below w.heap.size w (w2.alloc (.cells #[.slice none 0 0, .int .i64 2, .int .i64 0] 32)) := hbel.alloc hsz _
  clear hbel
  go_wp2_with (go_at_call 7; refine (awake_any _).mono ?_; rintro e w4 ⟨rfl, hb4⟩; have hbel4 := hbel3.trans (hb4.mono hbel3.size))
  go_ret
  exact ⟨rfl, hbel4⟩
theorem lexwords_any (s : ByteArray) (w : World) (hm : s.size ≤ maxLen) : Calls Try.prog 4 #[.string s] w (Yes w) := by
  by_cases hs : s.size ≤ 4096
  · cases h : Lx.lexAll s.data.toList with
    | good l => exact lexwords_good s w hs l h
    | bad p => exact lexwords_bad s w hs p h
  · exact lexwords_long s w (by omega) hm
end Go.Proofs.Ythmihhjpilpcpaa

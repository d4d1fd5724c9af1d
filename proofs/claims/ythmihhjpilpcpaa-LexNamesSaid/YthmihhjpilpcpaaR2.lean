/- the reference: word. -/
import Derived.Test.YthmihhjpilpcpaaR1
import Derived.Laws.BytesArg
namespace Go.Proofs.Ythmihhjpilpcpaa
open Go.RowKit
set_option linter.unusedVariables false
theorem own_back {W : World} {base : Nat} {v : Value} {a : List UInt8} (h : W.ownsRow base 5 1 v a.length (Lib.byteCells a)) : (convert 23 9 v).run Try.prog W = .ok (.string ⟨a.toArray⟩) W := by
  rcases h.2 with ⟨rfl, h0⟩ | ⟨g, cap, cur, rfl, _⟩
  · have : a = [] := List.eq_nil_of_length_eq_zero h0
    subst this
    exact run_convert_bytes_nil (P := Try.prog) (w := W) 23 5 Try.underlying23 Try.underlying5 0 0 9 Try.underlying9
  · have hc := World.ownsRow.cells h (g := g) rfl
    exact run_convert_bytes_back W 23 9 5 ⟨g, 0, none⟩ cap a Try.underlying23 Try.underlying5 Try.underlying9 (fun j hj => hc j _ (by simp [Lib.byteCells, hj]))
theorem own_form {W : World} {base : Nat} {v : Value} {n : Nat} {xs : List Value} (h : W.ownsRow base 5 1 v n xs) : ∃ ao cap, v = .slice ao n cap := by
  rcases h.2 with ⟨rfl, h0⟩ | ⟨g, cap, cur, rfl, _⟩
  · exact ⟨none, 0, by rw [h0]⟩
  · exact ⟨_, _, rfl⟩
/-- what the reference's readers of one token tell -/
def RefPost (r : Option (Lx.Tk × Nat)) (k : Nat) (w : World) (e : Ending) (w' : World) : Prop :=
  Below w.heap.size w w' ∧ match r with
    | some x => e = .returned (.tuple #[.agg (tkCells x.1 (k : Int)), .int .i64 ((k + x.2 : Nat) : Int), .bool true])
    | none => ∃ (a c d x : Int) (b : ByteArray), e = .returned (.tuple #[.agg #[.int .i64 a, .string b, .int .i64 c, .int .i64 d], .int .i64 x, .bool false])
/-- a call's own bytes, a token's block ahead of them -/
structure RInv (w wr : World) (v : Value) (a : List UInt8) : Prop where
  own : wr.ownsRow (w.heap.size + 1) 5 1 v a.length (Lib.byteCells a)
  blk : wr.heap[w.heap.size]? = some (.cells noCells 29 (0, 0))
  bel : Below w.heap.size w wr
  sz : w.heap.size + 1 ≤ wr.heap.size
theorem RInv.start (w : World) : RInv w (w.alloc (.cells noCells 29)) (.slice none 0 0) [] :=
  ⟨⟨rfl, .inl ⟨rfl, rfl⟩⟩, heap_new w _, (Below.refl _ _).alloc (Nat.le_refl _) _, by simp⟩
theorem RInv.more {w wr w2 : World} {v v' : Value} {a : List UInt8} {c : UInt8} {o : Obj} (h : RInv w wr v a) (hown : w2.ownsRow (w.heap.size + 1) 5 1 v' (a.length + 1) (Lib.byteCells a ++ [.int .u8 (c.toNat : Int)])) (hg : (wr.alloc o).grownBy w2 v.ownBlock) : RInv w w2 v' (a ++ [c]) := by
  obtain ⟨h1, h2, h3, h4⟩ := h
  have hlt : w.heap.size < wr.heap.size := by omega
  refine ⟨by rw [byteCells_snoc, List.length_append]; exact hown, ?_, ?_, ?_⟩
  · rw [hg.block _ (by rw [World.size_alloc]; omega) (fun e => ?_), Below.heap_alloc wr _ _ hlt]
    · exact h2
    · have := (h1.lt _ e.symm).1; omega
  · exact (h3.alloc (by omega) _).grown hg (by rw [World.size_alloc]; omega) (fun k hk => by have := (h1.lt k hk).1; omega)
  · have := hg.size; rw [World.size_alloc] at this; omega
theorem byte_one (W : World) (x : Value) : ∀ j u, [x][j]? = some u → (W.alloc (.cells #[x] 5)).cell? ((⟨W.heap.size, 0, none⟩ : Addr).add j) = some u := by
  intro j u hu
  rw [add0, Lib.cell_of_heap (heap_new W _), ← hu]
  simp
theorem low_up (c : UInt8) (h : Lx.upperB c = true) : (((Lx.low c).toNat : Nat) : Int) = (c.toNat : Int) + 32 := by
  have h' : 65 ≤ c.toNat ∧ c.toNat ≤ 90 := by simpa [Lx.upperB] using h
  simp only [Lx.low, h, if_true, UInt8.toNat_add]
  have : (32 : UInt8).toNat = 32 := rfl
  omega
theorem low_same (c : UInt8) (h : Lx.upperB c = false) : Lx.low c = c := by simp [Lx.low, h]
set_option maxHeartbeats 2000000 in
set_option maxRecDepth 100000 in
theorem rword_any (s : ByteArray) (k : Nat) (w : World) (hs : s.size ≤ 4096) (hk : k ≤ s.size) :
    Calls Try.prog 28 #[.string s, .int .i64 (k : Int)] w (RefPost (Lx.wordL (s.data.toList.drop k)) k w) := by
  obtain ⟨i0, hi, hz0, hz1, hz2⟩ := info_parts byte_info
  generalize hr : Lx.wordL (s.data.toList.drop k) = r
  have Hr := hid hr; clear hr
  go_enter Try.func28, Try.ntmps28
  go_wp2_with fail
  go_loopw [7, 8] (fun i v wr => ∃ (j : Nat) (a : List UInt8), i = .int .i64 j ∧ k ≤ j ∧ j ≤ s.size ∧ RInv w wr v a ∧ Hid (a = ((s.data.toList.drop k).take (j - k)).map Lx.low) ∧ Hid (Lx.runL Lx.innerB (s.data.toList.drop k) = (j - k) + Lx.runL Lx.innerB (s.data.toList.drop j))) (fun i _ _ => s.size - (intOf i).toNat)
  case atStart => exact ⟨k, [], rfl, Nat.le_refl _, hk, RInv.start w, by show [] = _; simp, by show _ = _; omega⟩
  case round =>
    obtain ⟨j, a, rfl, hkj, hj, hI, ha, hrun⟩ := hrel
    have hal : a.length = j - k := by rw [ha.out]; simp; omega
    have hal' : a.length ≤ 4096 := by omega
    have Hal := hid hal; clear hal
    by_cases hlt : j < s.size
    · cases hin : Lx.innerB s[j] with
      | true =>
        have hrun' := hid (show Lx.runL Lx.innerB (s.data.toList.drop k) = (j + 1 - k) + Lx.runL Lx.innerB (s.data.toList.drop (j + 1)) from by
          rw [hrun.out, runL_at Lx.innerB s j hlt, if_pos hin]; omega)
        have ha' := hid (show a ++ [Lx.low s[j]] = ((s.data.toList.drop k).take (j + 1 - k)).map Lx.low from by
          have hl : j - k < (s.data.toList.drop k).length := by simp; omega
          have he : (s.data.toList.drop k)[j - k]'hl = s[j] := by
            have e2 : k + (j - k) = j := by omega
            simp only [List.getElem_drop, e2]; rfl
          rw [show j + 1 - k = (j - k) + 1 from by omega, List.take_succ_eq_append_getElem hl, List.map_append, ← ha.out, he]
          rfl)
        clear hrun ha
        have hI' := hid hI; clear hI
        have hin' : Lx.letterB s[j] = false → Lx.digitB s[j] = true := by intro h; simpa [Lx.innerB, h] using hin
        clear hin
        cases hup : Lx.upperB s[j] with
        | true =>
          have hlow := hid (low_up _ hup)
          have h65 : (65 : Int) ≤ (s[j].toNat : Int) ∧ (s[j].toNat : Int) ≤ 90 := by simp [Lx.upperB] at hup; omega
          obtain ⟨h65, h90⟩ := h65
          have hle : Lx.letterB s[j] = true := by simp [Lx.letterB]; omega
          clear hin' hup
          go_wp2_with (first
            | (go_at_call 27; refine (rletter_any _ _).mono ?_; rintro e w' ⟨rfl, rfl⟩)
            | (at_builtin; refine wpList_append_own _ rfl _ _ 23 rfl (w.heap.size + 1) 5 i0 (.int .u8 0) 1 1 Try.underlying23 hi hz0 hz1 hz2 rfl (by decide) _ _ _ rfl (hI'.out.own.alloc _) ⟨wr.heap.size, 0, none⟩ 1 1 [.int .u8 ((s[j].toNat : Int) + 32)] rfl rfl (by exact byte_one wr _) (by intro u hu; simp at hu; subst hu; rfl) (by unfold maxLen; omega) (by omega) (by have := hI'.out.sz; simp; omega) ?_))
          intro v' w2 hown hg _
          rw [← hlow.out] at hown
          have hI2 := hid (hI'.out.more hown hg)
          clear hown hg
          go_wp2
          go_roundw
          case rel => exact ⟨j + 1, a ++ [Lx.low s[j]], by go_num, by omega, by omega, hI2.out, ha', hrun'⟩
          case measure => simp [intOf]; omega
        | false =>
          have hsame := low_same _ hup
          have hne : (s[j].toNat : Int) < 65 ∨ 90 < (s[j].toNat : Int) := by simp [Lx.upperB] at hup; omega
          clear hup
          rw [hsame] at ha'
          clear hsame
          have h255 : (s[j].toNat : Int) < 256 := by have := s[j].toNat_lt; omega
          rcases hne with hne | hne
          · cases hle : Lx.letterB s[j] with
            | true =>
              clear hin'
              go_wp2_with (first
            | (go_at_call 27; refine (rletter_any _ _).mono ?_; rintro e w' ⟨rfl, rfl⟩)
            | (go_at_call 29; refine (rdigit_any _ _).mono ?_; rintro e w' ⟨rfl, rfl⟩)
            | (at_builtin; refine wpList_append_own _ rfl _ _ 23 rfl (w.heap.size + 1) 5 i0 (.int .u8 0) 1 1 Try.underlying23 hi hz0 hz1 hz2 rfl (by decide) _ _ _ rfl (hI'.out.own.alloc _) ⟨wr.heap.size, 0, none⟩ 1 1 [.int .u8 (s[j].toNat : Int)] rfl rfl (by exact byte_one wr _) (by intro u hu; simp at hu; subst hu; rfl) (by unfold maxLen; omega) (by omega) (by have := hI'.out.sz; simp; omega) ?_))
              intro v' w2 hown hg _
              have hI2 := hid (hI'.out.more (c := s[j]) hown hg)
              clear hown hg
              go_wp2
              go_roundw
              case rel => exact ⟨j + 1, a ++ [s[j]], by go_num, by omega, by omega, hI2.out, ha', hrun'⟩
              case measure => simp [intOf]; omega
            | false =>
              have hdi := hin' hle
              clear hin'
              go_wp2_with (first
            | (go_at_call 27; refine (rletter_any _ _).mono ?_; rintro e w' ⟨rfl, rfl⟩)
            | (go_at_call 29; refine (rdigit_any _ _).mono ?_; rintro e w' ⟨rfl, rfl⟩)
            | (at_builtin; refine wpList_append_own _ rfl _ _ 23 rfl (w.heap.size + 1) 5 i0 (.int .u8 0) 1 1 Try.underlying23 hi hz0 hz1 hz2 rfl (by decide) _ _ _ rfl (hI'.out.own.alloc _) ⟨wr.heap.size, 0, none⟩ 1 1 [.int .u8 (s[j].toNat : Int)] rfl rfl (by exact byte_one wr _) (by intro u hu; simp at hu; subst hu; rfl) (by unfold maxLen; omega) (by omega) (by have := hI'.out.sz; simp; omega) ?_))
              intro v' w2 hown hg _
              have hI2 := hid (hI'.out.more (c := s[j]) hown hg)
              clear hown hg
              go_wp2
              go_roundw
              case rel => exact ⟨j + 1, a ++ [s[j]], by go_num, by omega, by omega, hI2.out, ha', hrun'⟩
              case measure => simp [intOf]; omega
          · cases hle : Lx.letterB s[j] with
            | true =>
              clear hin'
              go_wp2_with (first
            | (go_at_call 27; refine (rletter_any _ _).mono ?_; rintro e w' ⟨rfl, rfl⟩)
            | (go_at_call 29; refine (rdigit_any _ _).mono ?_; rintro e w' ⟨rfl, rfl⟩)
            | (at_builtin; refine wpList_append_own _ rfl _ _ 23 rfl (w.heap.size + 1) 5 i0 (.int .u8 0) 1 1 Try.underlying23 hi hz0 hz1 hz2 rfl (by decide) _ _ _ rfl (hI'.out.own.alloc _) ⟨wr.heap.size, 0, none⟩ 1 1 [.int .u8 (s[j].toNat : Int)] rfl rfl (by exact byte_one wr _) (by intro u hu; simp at hu; subst hu; rfl) (by unfold maxLen; omega) (by omega) (by have := hI'.out.sz; simp; omega) ?_))
              intro v' w2 hown hg _
              have hI2 := hid (hI'.out.more (c := s[j]) hown hg)
              clear hown hg
              go_wp2
              go_roundw
              case rel => exact ⟨j + 1, a ++ [s[j]], by go_num, by omega, by omega, hI2.out, ha', hrun'⟩
              case measure => simp [intOf]; omega
            | false =>
              have hdi := hin' hle
              clear hin'
              go_wp2_with (first
            | (go_at_call 27; refine (rletter_any _ _).mono ?_; rintro e w' ⟨rfl, rfl⟩)
            | (go_at_call 29; refine (rdigit_any _ _).mono ?_; rintro e w' ⟨rfl, rfl⟩)
            | (at_builtin; refine wpList_append_own _ rfl _ _ 23 rfl (w.heap.size + 1) 5 i0 (.int .u8 0) 1 1 Try.underlying23 hi hz0 hz1 hz2 rfl (by decide) _ _ _ rfl (hI'.out.own.alloc _) ⟨wr.heap.size, 0, none⟩ 1 1 [.int .u8 (s[j].toNat : Int)] rfl rfl (by exact byte_one wr _) (by intro u hu; simp at hu; subst hu; rfl) (by unfold maxLen; omega) (by omega) (by have := hI'.out.sz; simp; omega) ?_))
              intro v' w2 hown hg _
              have hI2 := hid (hI'.out.more (c := s[j]) hown hg)
              clear hown hg
              go_wp2
              go_roundw
              case rel => exact ⟨j + 1, a ++ [s[j]], by go_num, by omega, by omega, hI2.out, ha', hrun'⟩
              case measure => simp [intOf]; omega
      | false =>
        have hle : Lx.letterB s[j] = false ∧ Lx.digitB s[j] = false := by simpa [Lx.innerB] using hin
        obtain ⟨hle, hdi⟩ := hle
        have hn : Lx.runL Lx.innerB (s.data.toList.drop k) = j - k := by
          rw [hrun.out, runL_at Lx.innerB s j hlt, hin]; rfl
        have hr2 := Hr.out
        simp only [Lx.wordL, hn, ← ha.out] at hr2
        have Hr2 := hid hr2; clear hr2 hn hin Hr hrun ha
        obtain ⟨ao, cap, rfl⟩ := own_form hI.own
        have hbk := own_back hI.own
        obtain ⟨b0, b1, b2, b3, hf⟩ := blk4 hI.blk
        have hI' := hid hI; clear hI
        by_cases h32 : a.length ≤ 32
        · have hd32 : decide ((a.length : Int) ≤ 32) = true := by simp; omega
          go_wp2_with (first
            | (go_at_call 27; refine (rletter_any _ _).mono ?_; rintro e w' ⟨rfl, rfl⟩)
            | (go_at_call 29; refine (rdigit_any _ _).mono ?_; rintro e w' ⟨rfl, rfl⟩))
          refine bodyPost_ret (v := .tuple #[.agg (tkCells ⟨1, a, 0⟩ k), .int .i64 (j : Int), .bool true]) (by simp [results, Try.results28, go_sem, tkCells, b0, b1, b2, b3]) rfl ⟨?_, ?_⟩
          · repeat (first | exact hI'.out.bel | refine below_at ?_ (Nat.le_refl _))
          · rw [← Hr2.out, if_pos (by rw [← Hal.out]; exact h32)]
            show Ending.returned _ = Ending.returned (.tuple #[.agg (tkCells ⟨1, a, 0⟩ k), .int .i64 ((k + (j - k) : Nat) : Int), .bool true])
            rw [show k + (j - k) = j from by omega]
        · have hd32 : decide ((a.length : Int) ≤ 32) = false := by simp; omega
          go_wp2_with (first
            | (go_at_call 27; refine (rletter_any _ _).mono ?_; rintro e w' ⟨rfl, rfl⟩)
            | (go_at_call 29; refine (rdigit_any _ _).mono ?_; rintro e w' ⟨rfl, rfl⟩))
          refine bodyPost_ret (v := .tuple #[.agg (tkCells ⟨1, a, 0⟩ k), .int .i64 (j : Int), .bool false]) (by simp [results, Try.results28, go_sem, tkCells, b0, b1, b2, b3]) rfl ⟨?_, ?_⟩
          · repeat (first | exact hI'.out.bel | refine below_at ?_ (Nat.le_refl _))
          · rw [← Hr2.out, if_neg (by rw [← Hal.out]; exact h32)]
            exact ⟨_, _, _, _, _, rfl⟩
    · have hjs : s.size = j := by omega
      have hn : Lx.runL Lx.innerB (s.data.toList.drop k) = j - k := by
        rw [hrun.out, List.drop_eq_nil_of_le (by simp; omega)]; rfl
      have hr2 := Hr.out
      simp only [Lx.wordL, hn, ← ha.out] at hr2
      have Hr2 := hid hr2; clear hr2 hn Hr hrun ha
      obtain ⟨ao, cap, rfl⟩ := own_form hI.own
      have hbk := own_back hI.own
      obtain ⟨b0, b1, b2, b3, hf⟩ := blk4 hI.blk
      have hI' := hid hI; clear hI
      subst hjs
      by_cases h32 : a.length ≤ 32
      · have hd32 : decide ((a.length : Int) ≤ 32) = true := by simp; omega
        go_wp2
        refine bodyPost_ret (v := .tuple #[.agg (tkCells ⟨1, a, 0⟩ k), .int .i64 (s.size : Int), .bool true]) (by simp [results, Try.results28, go_sem, tkCells, b0, b1, b2, b3]) rfl ⟨?_, ?_⟩
        · repeat (first | exact hI'.out.bel | refine below_at ?_ (Nat.le_refl _))
        · rw [← Hr2.out, if_pos (by rw [← Hal.out]; exact h32)]
          show Ending.returned _ = Ending.returned (.tuple #[.agg (tkCells ⟨1, a, 0⟩ k), .int .i64 ((k + (s.size - k) : Nat) : Int), .bool true])
          rw [show k + (s.size - k) = s.size from by omega]
      · have hd32 : decide ((a.length : Int) ≤ 32) = false := by simp; omega
        go_wp2
        refine bodyPost_ret (v := .tuple #[.agg (tkCells ⟨1, a, 0⟩ k), .int .i64 (s.size : Int), .bool false]) (by simp [results, Try.results28, go_sem, tkCells, b0, b1, b2, b3]) rfl ⟨?_, ?_⟩
        · repeat (first | exact hI'.out.bel | refine below_at ?_ (Nat.le_refl _))
        · rw [← Hr2.out, if_neg (by rw [← Hal.out]; exact h32)]
          exact ⟨_, _, _, _, _, rfl⟩
end Go.Proofs.Ythmihhjpilpcpaa

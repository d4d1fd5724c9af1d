/- lex.quoted -/
import Derived.Test.YthmihhjpilpcpaaW2
namespace Go.Proofs.Ythmihhjpilpcpaa
open Go.RowKit
theorem byteCells_snoc (l : List UInt8) (c : UInt8) : Lib.byteCells (l ++ [c]) = Lib.byteCells l ++ [.int .u8 (c.toNat : Int)] := by simp [Lib.byteCells]
theorem byteCells_len (l : List UInt8) : (Lib.byteCells l).length = l.length := by simp [Lib.byteCells]
/-- how far a text's reading has come: acc is read, i is the next place -/
def QAt (l : List UInt8) (i : Nat) (acc : List UInt8) : Prop :=
  1 ≤ i ∧ acc.length ≤ i ∧ Lx.quoteL (l.drop 1) = (Lx.quoteL (l.drop i)).map fun x => (acc ++ x.1, x.2 + (i - 1))
theorem QAt.start (l : List UInt8) : QAt l 1 [] := ⟨by omega, by simp, by
  cases Lx.quoteL (l.drop 1) with
  | none => rfl
  | some x => rfl⟩
theorem QAt.plain {l : List UInt8} {i : Nat} {acc : List UInt8} (h : QAt l i acc) (hi : i < l.length) (hc : l[i].toNat ≠ 39) : QAt l (i + 1) (acc ++ [l[i]]) := by
  obtain ⟨h1, h2, h3⟩ := h
  refine ⟨by omega, by simp; omega, ?_⟩
  rw [h3, List.drop_eq_getElem_cons hi]
  rw [show Lx.quoteL (l[i] :: l.drop (i + 1)) = (Lx.quoteL (l.drop (i + 1))).map fun x => (l[i] :: x.1, x.2 + 1) from by
    cases l.drop (i + 1) <;> simp only [Lx.quoteL, if_neg hc]]
  cases Lx.quoteL (l.drop (i + 1)) with
  | none => simp
  | some x => simp; omega
theorem QAt.twice {l : List UInt8} {i : Nat} {acc : List UInt8} (h : QAt l i acc) (hi : i + 1 < l.length) (hc : l[i].toNat = 39) (hd : l[i + 1].toNat = 39) : QAt l (i + 1 + 1) (acc ++ [39]) := by
  obtain ⟨h1, h2, h3⟩ := h
  refine ⟨by omega, by simp; omega, ?_⟩
  rw [h3, List.drop_eq_getElem_cons (by omega : i < l.length), List.drop_eq_getElem_cons hi]
  simp only [Lx.quoteL, if_pos hc, if_pos hd]
  cases Lx.quoteL (l.drop (i + 1 + 1)) with
  | none => simp
  | some x => simp; omega
theorem QAt.shut {l : List UInt8} {i : Nat} {acc : List UInt8} (h : QAt l i acc) (hi : i < l.length) (hc : l[i].toNat = 39) (hd : ∀ h : i + 1 < l.length, l[i + 1].toNat ≠ 39) : Lx.textL (l.drop 1) = some (⟨3, acc, 0⟩, i + 1) := by
  obtain ⟨h1, h2, h3⟩ := h
  unfold Lx.textL
  rw [h3, List.drop_eq_getElem_cons hi]
  by_cases hn : i + 1 < l.length
  · rw [List.drop_eq_getElem_cons hn]
    simp only [Lx.quoteL, if_pos hc, if_neg (hd hn)]
    simp; omega
  · rw [List.drop_eq_nil_of_le (by omega)]
    simp only [Lx.quoteL, if_pos hc]
    simp; omega
theorem QAt.open_ {l : List UInt8} {i : Nat} {acc : List UInt8} (h : QAt l i acc) (hi : l.length ≤ i) : Lx.textL (l.drop 1) = none := by
  obtain ⟨h1, h2, h3⟩ := h
  unfold Lx.textL
  rw [h3, List.drop_eq_nil_of_le hi]
  rfl
theorem get_of (s : ByteArray) (i : Nat) (h : i < s.size) : s.data.toList[i]'(by simpa using h) = s[i] := rfl
set_option maxHeartbeats 1000000 in
set_option maxRecDepth 100000 in
theorem quoted_any (s : ByteArray) (w : World) (hs : s.size ≤ 4096) :
    Calls Try.prog 23 #[.string s] w fun e w' => e = .returned (tokRes (Lx.textL (s.data.toList.drop 1))) ∧ Below w.heap.size w w' := by
  generalize hr : Lx.textL (s.data.toList.drop 1) = r
  have Hr := hid hr; clear hr
  go_enter Try.func23, Try.ntmps23
  go_wp2_with fail
  go_loopw [6] (fun i wr => ∃ (k : Nat) (acc : List UInt8), i = .int .i64 k ∧ Hid (QAt s.data.toList k acc) ∧ k ≤ s.size + 1 ∧ Lib.IsBuilder 50 5 (w.heap.size + 1) (w.heap.size + 1) (Lib.byteCells acc) wr ∧ wr.heap[w.heap.size]? = some (.cells noCells 29 (0, 0)) ∧ Below w.heap.size w wr ∧ w.heap.size + 1 ≤ wr.heap.size) (fun i _ => s.size + 1 - (intOf i).toNat)
  case atStart =>
    refine ⟨1, [], rfl, QAt.start _, by omega, ?_, ?_, ((Below.refl _ _).alloc (Nat.le_refl _) _).alloc (by simp) _, by simp⟩
    · have := bld_fresh (w.alloc (.cells noCells 29)) (w.heap.size + 1) (by simp)
      rw [World.size_alloc] at this
      exact this
    · exact (Below.heap_alloc (w.alloc (.cells noCells 29)) _ w.heap.size (by rw [World.size_alloc]; omega)).trans (heap_new w _)
  case round =>
    obtain ⟨k, acc, rfl, hq, hks, hbld, hblk, hbel, hsz⟩ := hrel
    have hq1 := hq.out.1
    have hq2 := hq.out.2.1
    by_cases hlt : k < s.size
    · have hl : k < s.data.toList.length := by simpa using hlt
      by_cases hc : s[k].toNat = 39
      · by_cases hd : ∃ h : k + 1 < s.size, s[k + 1].toNat = 39
        · obtain ⟨hlt2, hd⟩ := hd
          have hq' := hid (QAt.twice hq.out (by simpa using hlt2) hc hd)
          have t1 : ((s[k].toNat : Int) != 39) = false := by simp [hc]
          have t2 : ((s[k + 1].toNat : Int) == 39) = true := by simp [hd]
          have Hc := hid hc; clear hc
          have Hd := hid hd; clear hd
          go_wp2_with (first | (go_at_call 35; refine (writeByte_any (w.heap.size + 1) (w.heap.size + 1) (Lib.byteCells acc) 39 _ hbld (by rw [byteCells_len]; omega) hsz).mono ?_; rintro e w' ⟨rfl, hbld', hbel'⟩))
          go_roundw
          case rel => exact ⟨k + 1 + 1, acc ++ [39], by go_num, hq', by omega, by rw [byteCells_snoc]; exact hbld', (hbel'.block _ (by omega)).trans hblk, hbel.trans (hbel'.mono (by omega)), Nat.le_trans hsz hbel'.size⟩
          case measure => simp [intOf]; omega
        · have hsh := QAt.shut hq.out hl hc (fun h h' => hd ⟨by simpa using h, h'⟩)
          have t1 : ((s[k].toNat : Int) != 39) = false := by simp [hc]
          have Hc := hid hc; clear hc
          rw [hsh] at Hr
          by_cases hlt2 : k + 1 < s.size
          · have t2 : ((s[k + 1].toNat : Int) == 39) = false := by
              rw [beq_eq_false_iff_ne]; intro h; exact hd ⟨hlt2, by omega⟩
            clear hd hsh
            go_wp2_with (first | (go_at_call 36; refine (Try.Builder_String_any (w.heap.size + 1) (w.heap.size + 1) acc _ hbld hsz).mono ?_; rintro e w' ⟨rfl, hbel'⟩; have hblk' := (hbel'.block _ (by omega)).trans hblk; obtain ⟨c0, c1, c2, c3, hf⟩ := blk4 hblk'))
            rw [← Hr.out]
            refine bodyPost_ret (v := tokRes (some (⟨3, acc, 0⟩, k + 1))) (by simp [results, Try.results23, go_sem, tokRes, tkCells, c0, c1, c2, c3]) rfl ⟨rfl, ?_⟩
            repeat (first | exact hbel.trans (hbel'.mono (by omega)) | refine below_at ?_ (Nat.le_refl _))
          · clear hd hsh
            go_wp2_with (first | (go_at_call 36; refine (Try.Builder_String_any (w.heap.size + 1) (w.heap.size + 1) acc _ hbld hsz).mono ?_; rintro e w' ⟨rfl, hbel'⟩; have hblk' := (hbel'.block _ (by omega)).trans hblk; obtain ⟨c0, c1, c2, c3, hf⟩ := blk4 hblk'))
            rw [← Hr.out]
            refine bodyPost_ret (v := tokRes (some (⟨3, acc, 0⟩, k + 1))) (by simp [results, Try.results23, go_sem, tokRes, tkCells, c0, c1, c2, c3]) rfl ⟨rfl, ?_⟩
            repeat (first | exact hbel.trans (hbel'.mono (by omega)) | refine below_at ?_ (Nat.le_refl _))
      · have hq' := hid (QAt.plain hq.out hl hc)
        have t1 : ((s[k].toNat : Int) != 39) = true := by rw [bne_iff_ne]; intro h; exact hc (by omega)
        have h255 : (s[k].toNat : Int) < 256 := by have := s[k].toNat_lt; omega
        clear hc
        go_wp2_with (first | (go_at_call 35; refine (writeByte_any (w.heap.size + 1) (w.heap.size + 1) (Lib.byteCells acc) _ _ hbld (by rw [byteCells_len]; omega) hsz).mono ?_; rintro e w' ⟨rfl, hbld', hbel'⟩))
        go_roundw
        case rel => exact ⟨k + 1, acc ++ [s[k]], by go_num, hq', by omega, by rw [byteCells_snoc]; exact hbld', (hbel'.block _ (by omega)).trans hblk, hbel.trans (hbel'.mono (by omega)), Nat.le_trans hsz hbel'.size⟩
        case measure => simp [intOf]; omega
    · have hop := QAt.open_ hq.out (by simpa using hlt : s.data.toList.length ≤ k)
      rw [hop] at Hr
      clear hop
      obtain ⟨c0, c1, c2, c3, hf⟩ := blk4 hblk
      go_wp2
      rw [← Hr.out]
      refine bodyPost_ret (v := tokRes none) (by simp [results, Try.results23, go_sem, tokRes, noCells, c0, c1, c2, c3]) rfl ⟨rfl, ?_⟩
      repeat (first | exact hbel | refine below_at ?_ (Nat.le_refl _))
end Go.Proofs.Ythmihhjpilpcpaa

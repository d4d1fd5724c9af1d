/- the reference: text. -/
import Derived.Test.YthmihhjpilpcpaaR2
namespace Go.Proofs.Ythmihhjpilpcpaa
open Go.RowKit
set_option linter.unusedVariables false
theorem dropget (s : ByteArray) (k j : Nat) (hk : k ≤ j) (hj : j < s.size) (hl : j - k < (s.data.toList.drop k).length) : (s.data.toList.drop k)[j - k]'hl = s[j] := by
  have e2 : k + (j - k) = j := by omega
  simp only [List.getElem_drop, e2]; rfl
set_option maxHeartbeats 2000000 in
set_option maxRecDepth 100000 in
theorem rtext_any (s : ByteArray) (k : Nat) (w : World) (hs : s.size ≤ 4096) (hk : k < s.size) :
    Calls Try.prog 31 #[.string s, .int .i64 (k : Int)] w (RefPost (Lx.textL (s.data.toList.drop (k + 1))) k w) := by
  obtain ⟨i0, hi, hz0, hz1, hz2⟩ := info_parts byte_info
  have hl0 : (s.data.toList.drop k).length = s.size - k := by simp
  have hdd : (s.data.toList.drop k).drop 1 = s.data.toList.drop (k + 1) := by rw [List.drop_drop]
  generalize hr : Lx.textL (s.data.toList.drop (k + 1)) = r
  rw [← hdd] at hr
  have Hr := hid hr; clear hr hdd
  have Hl0 := hid hl0; clear hl0
  go_enter Try.func31, Try.ntmps31
  go_wp2_with fail
  go_loopw [7, 8] (fun v i wr => ∃ (j : Nat) (a : List UInt8), i = .int .i64 j ∧ k + 1 ≤ j ∧ j ≤ s.size + 1 ∧ RInv w wr v a ∧ Hid (QAt (s.data.toList.drop k) (j - k) a)) (fun _ i _ => s.size + 1 - (intOf i).toNat)
  case atStart => exact ⟨k + 1, [], by go_num, Nat.le_refl _, by omega, RInv.start w, by rw [show k + 1 - k = 1 from by omega]; exact QAt.start _⟩
  case round =>
    obtain ⟨j, a, rfl, hkj, hj, hI, hq⟩ := hrel
    have hal' : a.length ≤ 5000 := by have := hq.out.2.1; omega
    have hI' := hid hI; clear hI
    by_cases hlt : j < s.size
    · have hl : j - k < (s.data.toList.drop k).length := by rw [Hl0.out]; omega
      have hget := dropget s k j (by omega) hlt hl
      cases hc : (s[j].toNat == 39) with
      | false =>
        have t1 : ((s[j].toNat : Int) != 39) = true := by rw [bne, show ((s[j].toNat : Int) == 39) = (s[j].toNat == 39) from ibeq _ 39, hc]; rfl
        have hq' := QAt.plain hq.out hl (by rw [hget]; simpa using hc)
        rw [hget, show j - k + 1 = j + 1 - k from by omega] at hq'
        have Hq' := hid hq'; clear hq' hq hc hget
        have h255 : (s[j].toNat : Int) < 256 := by have := s[j].toNat_lt; omega
        go_wp2_with (at_builtin; refine wpList_append_own _ rfl _ _ 23 rfl (w.heap.size + 1) 5 i0 (.int .u8 0) 1 1 Try.underlying23 hi hz0 hz1 hz2 rfl (by decide) _ _ _ rfl (hI'.out.own.alloc _) ⟨wr.heap.size, 0, none⟩ 1 1 [.int .u8 (s[j].toNat : Int)] rfl rfl (by exact byte_one wr _) (by intro u hu; simp at hu; subst hu; rfl) (by unfold maxLen; omega) (by omega) (by have := hI'.out.sz; simp; omega) ?_)
        intro v' w2 hown hg _
        have hI2 := hid (hI'.out.more (c := s[j]) hown hg)
        clear hown hg
        go_wp2
        go_roundw
        case rel => exact ⟨j + 1, a ++ [s[j]], by go_num, by omega, by omega, hI2.out, Hq'⟩
        case measure => simp [intOf]; omega
      | true =>
        have t1 : ((s[j].toNat : Int) != 39) = false := by rw [bne, show ((s[j].toNat : Int) == 39) = (s[j].toNat == 39) from ibeq _ 39, hc]; rfl
        have hc39 : s[j].toNat = 39 := by simpa using hc
        by_cases hd : ∃ h : j + 1 < s.size, s[j + 1].toNat = 39
        · obtain ⟨hlt2, hd⟩ := hd
          have hl2 : j - k + 1 < (s.data.toList.drop k).length := by rw [Hl0.out]; omega
          have hget2 : (s.data.toList.drop k)[j - k + 1]'hl2 = s[j + 1] := by
            have := dropget s k (j + 1) (by omega) hlt2 (by rw [Hl0.out]; omega)
            simp only [show j + 1 - k = j - k + 1 from by omega] at this
            exact this
          have t2 : ((s[j + 1].toNat : Int) == 39) = true := by simp [hd]
          have hq' := QAt.twice hq.out hl2 (by rw [hget]; exact hc39) (by rw [hget2]; exact hd)
          rw [show j - k + 1 + 1 = j + 1 + 1 - k from by omega] at hq'
          have Hq' := hid hq'; clear hq' hq hc hget hget2 hd hc39
          go_wp2_with (at_builtin; refine wpList_append_own _ rfl _ _ 23 rfl (w.heap.size + 1) 5 i0 (.int .u8 0) 1 1 Try.underlying23 hi hz0 hz1 hz2 rfl (by decide) _ _ _ rfl (hI'.out.own.alloc _) ⟨wr.heap.size, 0, none⟩ 1 1 [.int .u8 39] rfl rfl (by exact byte_one wr _) (by intro u hu; simp at hu; subst hu; rfl) (by unfold maxLen; omega) (by omega) (by have := hI'.out.sz; simp; omega) ?_)
          intro v' w2 hown hg _
          have hI2 := hid (hI'.out.more (c := 39) hown hg)
          clear hown hg
          go_wp2
          go_roundw
          case rel => exact ⟨j + 1 + 1, a ++ [39], by go_num, by omega, by omega, hI2.out, Hq'⟩
          case measure => simp [intOf]; omega
        · have hsh := QAt.shut hq.out hl (by rw [hget]; exact hc39) (fun h h' => hd ⟨by rw [Hl0.out] at h; omega, by
            have := dropget s k (j + 1) (by omega) (by rw [Hl0.out] at h; omega) (by rw [Hl0.out] at h ⊢; omega)
            simp only [show j + 1 - k = j - k + 1 from by omega] at this
            rw [← this]; exact h'⟩)
          rw [Hr.out] at hsh
          have Hsh := hid hsh; clear hsh hq hget hc Hr
          obtain ⟨ao, cap, rfl⟩ := own_form hI'.out.own
          have hbk := own_back hI'.out.own
          obtain ⟨b0, b1, b2, b3, hf⟩ := blk4 hI'.out.blk
          by_cases hlt2 : j + 1 < s.size
          · have t2 : ((s[j + 1].toNat : Int) == 39) = false := by
              rw [beq_eq_false_iff_ne]; intro h; exact hd ⟨hlt2, by omega⟩
            clear hd hc39
            go_wp2
            refine bodyPost_ret (v := .tuple #[.agg (tkCells ⟨3, a, 0⟩ k), .int .i64 ((j : Int) + 1), .bool true]) (by simp [results, Try.results31, go_sem, tkCells, b0, b1, b2, b3]) rfl ⟨?_, ?_⟩
            · repeat (first | exact hI'.out.bel | refine below_at ?_ (Nat.le_refl _))
            · rw [Hsh.out]
              show Ending.returned _ = Ending.returned (.tuple #[.agg (tkCells ⟨3, a, 0⟩ k), .int .i64 ((k + (j - k + 1) : Nat) : Int), .bool true])
              rw [show k + (j - k + 1) = j + 1 from by omega]; rfl
          · clear hd hc39
            go_wp2
            refine bodyPost_ret (v := .tuple #[.agg (tkCells ⟨3, a, 0⟩ k), .int .i64 ((j : Int) + 1), .bool true]) (by simp [results, Try.results31, go_sem, tkCells, b0, b1, b2, b3]) rfl ⟨?_, ?_⟩
            · repeat (first | exact hI'.out.bel | refine below_at ?_ (Nat.le_refl _))
            · rw [Hsh.out]
              show Ending.returned _ = Ending.returned (.tuple #[.agg (tkCells ⟨3, a, 0⟩ k), .int .i64 ((k + (j - k + 1) : Nat) : Int), .bool true])
              rw [show k + (j - k + 1) = j + 1 from by omega]; rfl
    · have hop := QAt.open_ hq.out (by rw [Hl0.out]; omega)
      rw [Hr.out] at hop
      have Hop := hid hop; clear hop Hr hq
      obtain ⟨b0, b1, b2, b3, hf⟩ := blk4 hI'.out.blk
      go_wp2
      refine bodyPost_ret (v := .tuple #[.agg noCells, .int .i64 (k : Int), .bool false]) (by simp [results, Try.results31, go_sem, noCells, b0, b1, b2, b3]) rfl ⟨?_, ?_⟩
      · repeat (first | exact hI'.out.bel | refine below_at ?_ (Nat.le_refl _))
      · rw [Hop.out]
        exact ⟨0, 0, 0, _, ⟨#[]⟩, rfl⟩
end Go.Proofs.Ythmihhjpilpcpaa

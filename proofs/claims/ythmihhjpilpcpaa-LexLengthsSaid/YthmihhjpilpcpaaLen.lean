/- LexLengths: the walk, for every three ints. -/
import Derived.Test.YthmihhjpilpcpaaGp
import Derived.Test.YthmihhjpilpcpaaPost
namespace Go.Proofs.Ythmihhjpilpcpaa
open Go.RowKit
set_option linter.unusedVariables false
def rep (n : Nat) (c : UInt8) : ByteArray := ⟨(List.replicate n c).toArray⟩
theorem rep_list (n : Nat) (c : UInt8) : (rep n c).data.toList = List.replicate n c := by simp [rep]
theorem rep_size (n : Nat) (c : UInt8) : (rep n c).size = n := by rw [Lib.size_eq, rep_list]; simp
theorem rep_snoc (n : Nat) (c : UInt8) : rep n c ++ ⟨#[c]⟩ = rep (n + 1) c := by
  apply ByteArray.ext
  apply Array.ext'
  simp [rep, List.replicate_succ']
theorem run_add_rep (W : World) (n : Nat) (c : UInt8) (h : n ≤ 5000) : (Op.stringOp .add (rep n c) ⟨#[c]⟩).run Try.prog W = .ok (.string (rep (n + 1) c)) W := by
  rw [← rep_snoc]
  exact run_string_add_sum W _ _ (by rw [rep_size]; show n + 1 ≤ _; omega)
theorem run_add_sp (W : World) (n : Nat) (h : n ≤ 5000) : (Op.stringOp .add ⟨#[32]⟩ (rep n 49)).run Try.prog W = .ok (.string (⟨#[32]⟩ ++ rep n 49)) W :=
  run_string_add_sum W _ _ (by rw [rep_size]; show 1 + n ≤ _; omega)
theorem byte_info' : (Try.prog.info? 5).map (fun i => (i.zero, i.size, i.bytes)) = some (some (.int .u8 0), 1, 1) := by kernel_rfl
theorem run_make_rowN' (c : Nat) (W : World) (hc : c ≤ 4200) :
    (Instr.makeSlice 23 (.int .i64 (c : Int)) (.int .i64 (c : Int))).run Try.prog W = .ok (.slice (some ⟨W.heap.size, 0, none⟩) c c) (W.alloc (.cells (madeCells #[.int .u8 0] c) 5)) := by
  obtain ⟨i0, hi, hz0, hz1, hz2⟩ := info_parts byte_info'
  have := run_make (P := Try.prog) W 23 5 i0 (.int .u8 0) Try.underlying23 hi hz0 .i64 .i64 (c : Int) (c : Int) (by omega) (by omega) (by rw [hz2]; omega) (by omega)
  simp only [Int.toNat_natCast, hz1, Nat.mul_one] at this
  exact this
theorem brow_zero (W : World) (c : Nat) : BRow (W.alloc (.cells (madeCells #[.int .u8 0] c) 5)) W.heap.size (List.replicate c 0) := by
  constructor
  · intro i d hd
    have hi := lt_of_get hd
    simp at hi
    rw [Lib.cell_of_heap (heap_new W _), ← Array.getElem?_toList, toList_madeCells_one]
    simp [hi] at hd ⊢
    subst hd; rfl
  · intro i _
    rw [Lib.frozen_of_heap (heap_new W _)]
theorem BRow.below {w w' : World} {g B : Nat} {l : List UInt8} (h : BRow w g l) (hb : Below B w w') (hg : g < B) : BRow w' g l :=
  ⟨fun i c hc => (hb.cell (p := ⟨g, i, none⟩) hg).trans (h.cell i c hc), fun i hi => (hb.frozen (p := ⟨g, i, none⟩) hg).trans (h.free i hi)⟩
def fillK (k c : Nat) : List UInt8 := List.replicate k 32 ++ List.replicate (c - k) 0
theorem fillK_set (k c : Nat) (h : k < c) : (fillK k c).set k 32 = fillK (k + 1) c := by
  unfold fillK
  rw [List.set_append_right _ _ (by simp), List.length_replicate, Nat.sub_self]
  obtain ⟨m, hm⟩ : ∃ m, c - k = m + 1 := ⟨c - k - 1, by omega⟩
  rw [hm, List.replicate_succ, List.set_cons_zero, List.replicate_succ', show c - (k + 1) = m from by omega]
  simp
theorem fillK_len (k c : Nat) (h : k ≤ c) : (fillK k c).length = c := by simp [fillK]; omega
/-- Words at a word of Q's -/
theorem call_q (a : Nat) (h1 : 1 ≤ a) (h2 : a ≤ 40) : ∃ e1 : Int, Hid ((e1 == 0) = decide ((a : Int) ≤ 32)) ∧ ∀ W, Calls Try.prog 8 #[.string (rep a 81)] W fun e w' => ∃ v p, e = .returned (.tuple #[v, .int .i64 e1, .int .i64 p]) ∧ Below W.heap.size W w' := by
  have hq := qs a h1
  rw [← rep_list] at hq
  by_cases h : a ≤ 32
  · rw [if_pos h] at hq
    refine ⟨0, by show (((0 : Int) == 0) = _); simp; omega, fun W => (words_good (rep a 81) W (by rw [rep_size]; omega) _ hq).mono ?_⟩
    rintro e w' ⟨hb, g, _, rfl, _⟩
    exact ⟨_, _, rfl, hb⟩
  · rw [if_neg h] at hq
    refine ⟨180, by show (((180 : Int) == 0) = _); simp; omega, fun W => (words_bad (rep a 81) W (by rw [rep_size]; omega) _ hq).mono ?_⟩
    rintro e w' ⟨rfl, hb⟩
    exact ⟨_, _, rfl, hb⟩
/-- Words at white alone -/
theorem call_sp (c : Nat) (h : c ≤ 4096) (W : World) : Calls Try.prog 8 #[.string (rep c 32)] W fun e w' => ∃ v p, e = .returned (.tuple #[v, .int .i64 0, .int .i64 p]) ∧ Below W.heap.size W w' := by
  have hq := sps c
  rw [← rep_list] at hq
  refine (words_good (rep c 32) W (by rw [rep_size]; exact h) _ hq).mono ?_
  rintro e w' ⟨hb, g, _, rfl, _⟩
  exact ⟨_, _, rfl, hb⟩
theorem call_long (c : Nat) (h : 4096 < c) (h2 : c ≤ 4200) (W : World) : Calls Try.prog 8 #[.string (rep c 32)] W fun e w' => ∃ v p, e = .returned (.tuple #[v, .int .i64 2, .int .i64 p]) ∧ Below W.heap.size W w' := by
  refine (words_long (rep c 32) W (by rw [rep_size]; exact h) (by rw [rep_size]; unfold maxLen; omega)).mono ?_
  rintro e w' ⟨rfl, hb⟩
  exact ⟨_, _, rfl, hb⟩
theorem sp_list (b : Nat) : ((⟨#[32]⟩ : ByteArray) ++ rep b 49).data.toList = 32 :: List.replicate b 49 := by simp [rep]
theorem sp_size (b : Nat) : ((⟨#[32]⟩ : ByteArray) ++ rep b 49).size = b + 1 := by rw [Lib.size_eq, sp_list]; simp
theorem call_one (b : Nat) (h1 : 1 ≤ b) (h : b ≤ 19) (W : World) : Calls Try.prog 8 #[.string ((⟨#[32]⟩ : ByteArray) ++ rep b 49)] W fun e w' => ∃ g, e = .returned (.tuple #[.slice (some ⟨g, 0, none⟩) 2 2, .int .i64 0, .int .i64 0]) ∧ w'.cell? ⟨g, 2, none⟩ = some (.int .i64 (V b : Int)) ∧ Below W.heap.size W w' := by
  have hq := nums b h1
  rw [if_pos h, ← sp_list] at hq
  refine (words_good _ W (by rw [sp_size]; omega) _ hq).mono ?_
  rintro e w' ⟨hb, g, _, rfl, hc⟩
  exact ⟨g, rfl, hc 2 _ rfl, hb⟩
theorem call_many (b : Nat) (h1 : 19 < b) (h : b ≤ 25) (W : World) : Calls Try.prog 8 #[.string ((⟨#[32]⟩ : ByteArray) ++ rep b 49)] W fun e w' => e = .returned (.tuple #[.slice none 0 0, .int .i64 180, .int .i64 1]) ∧ Below W.heap.size W w' := by
  have hq := nums b (by omega)
  rw [if_neg (by omega), ← sp_list] at hq
  exact words_bad _ W (by rw [sp_size]; omega) _ hq
theorem fill_rep (c : Nat) : (⟨(fillK c c).toArray⟩ : ByteArray) = rep c 32 := by simp [fillK, rep]
set_option maxHeartbeats 4000000 in
set_option maxRecDepth 100000 in
theorem len_in (a b c : Nat) (w : World) (ha : 1 ≤ a) (ha' : a ≤ 40) (hb : 1 ≤ b) (hb' : b ≤ 25) (hc : c ≤ 4200) : Calls Try.prog 3 #[.int .i64 (a : Int), .int .i64 (b : Int), .int .i64 (c : Int)] w (Yes w) := by
  obtain ⟨e1, he1, hq1'⟩ := call_q a ha ha'
  have hq1 := hid hq1'; clear hq1'
  go_enter Try.func3, Try.ntmps3
  go_wp2_with fail
  go_loop [7, 9] (fun s i => ∃ k : Nat, k ≤ a ∧ i = .int .i64 k ∧ s = .string (rep k 81)) (fun _ i => a - (intOf i).toNat)
  case atStart => exact ⟨0, Nat.zero_le _, rfl, rfl⟩
  case round =>
    obtain ⟨k, hk, rfl, rfl⟩ := hrel
    by_cases hka : k < a
    · have hadd := fun W => run_add_rep W k 81 (by omega)
      go_wp2
      go_round
      case rel => exact ⟨k + 1, by omega, by go_num, rfl⟩
      case measure => simp [intOf]; omega
    · have hka' : a = k := by omega
      subst hka'
      clear hka hk
      go_wp2_with fail
      go_loop [8, 10] (fun s i => ∃ k : Nat, k ≤ b ∧ i = .int .i64 k ∧ s = .string (rep k 49)) (fun _ i => b - (intOf i).toNat)
      case atStart => exact ⟨0, Nat.zero_le _, rfl, rfl⟩
      case round =>
        obtain ⟨j, hj, rfl, rfl⟩ := hrel
        by_cases hjb : j < b
        · have hadd := fun W => run_add_rep W j 49 (by omega)
          go_wp2
          go_round
          case rel => exact ⟨j + 1, by omega, by go_num, rfl⟩
          case measure => simp [intOf]; omega
        · have hjb' : b = j := by omega
          subst hjb'
          clear hjb hj
          have hmk := fun W => run_make_rowN' c W hc
          have hsp := fun W => run_add_sp W b (by omega)
          go_wp2_with fail
          clear hmk
          go_loopw [12, 65] (fun _ i wr => ∃ j : Nat, j ≤ c ∧ i = .int .i64 j ∧ BRow wr w.heap.size (fillK j c) ∧ Below w.heap.size w wr ∧ w.heap.size < wr.heap.size) (fun _ i _ => c - (intOf i).toNat)
          case atStart => exact ⟨0, Nat.zero_le _, rfl, by have := brow_zero w c; simpa [fillK] using this, (Below.refl _ _).alloc (Nat.le_refl _) _, by simp⟩
          case round =>
            obtain ⟨j, hj, rfl, hrow, hbel, hsz⟩ := hrel
            by_cases hjc : j < c
            · have hl : j < (fillK j c).length := by rw [fillK_len _ _ hj]; exact hjc
              have hcell := hrow.cell j _ (List.getElem?_eq_getElem hl)
              have hfr := hrow.free j hl
              have hset := hrow.set j hl 32
              rw [fillK_set j c hjc] at hset
              have Hset := hid hset; clear hset
              go_wp2
              go_roundw
              case rel => exact ⟨j + 1, by omega, by go_num, Hset.out, hbel.setCell (Nat.le_refl _) _, by simpa [World.setCell] using hsz⟩
              case measure => simp [intOf]; omega
            · have hjc' : c = j := by omega
              subst hjc'
              clear hjc hj
              have Hrow := hid hrow; clear hrow
              go_wp2_with fail
              refine (hq1.out _).mono ?_
              rintro e w1 ⟨v1, p1, rfl, hb1⟩
              have Hrow1 := hid (Hrow.out.below hb1 hsz)
              have hbel1 := hbel.trans (hb1.mono (by omega))
              have hsz1 : w.heap.size < w1.heap.size := Nat.lt_of_lt_of_le hsz hb1.size
              have he1' : (e1 == 0) = decide ((a : Int) ≤ 32) := he1.out
              clear hb1 Hrow hbel hsz
              by_cases h19 : b ≤ 19
              · go_wp2_with fail
                refine (call_one b hb h19 _).mono ?_
                rintro e w2 ⟨g2, rfl, hv2, hb2⟩
                have hrow2 := Hrow1.out.below hb2 hsz1
                have hbel2 := hbel1.trans (hb2.mono (by omega))
                have hsz2 : w.heap.size < w2.heap.size := Nat.lt_of_lt_of_le hsz1 hb2.size
                have hbk := hrow2.back c
                rw [fillK_len _ _ (Nat.le_refl _), fill_rep] at hbk
                have hg2 : g2 < w2.heap.size := by
                  rcases Nat.lt_or_ge g2 w2.heap.size with h | h
                  · exact h
                  · simp [World.cell?, Array.getElem?_eq_none h] at hv2
                clear hb2 hrow2 hbel1 hsz1 Hrow1
                by_cases hc4 : c ≤ 4096
                · go_wp2_with fail
                  refine (call_sp c hc4 _).mono ?_
                  rintro e w3 ⟨v3, p3, rfl, hb3⟩
                  rw [← hb3.cell (p := ⟨g2, 2, none⟩) hg2] at hv2
                  have hbel3 := hbel2.trans (hb3.mono (by omega))
                  clear hb3 hbk hbel2
                  go_wp2
                  go_loop [22, 23] (fun v i => ∃ k : Nat, k ≤ b ∧ i = .int .i64 k ∧ v = .int .i64 (V k : Int)) (fun _ i => b - (intOf i).toNat)
                  case atStart => exact ⟨0, Nat.zero_le _, rfl, rfl⟩
                  case round =>
                    obtain ⟨k, hk, rfl, rfl⟩ := hrel
                    by_cases hkb : k < b
                    · have hV := V_mono (k + 1) (by omega)
                      have hVs := hid (V_succ k)
                      rw [hVs.out] at hV
                      generalize V k = X at *
                      have hX : (X : Int) ≤ 111111111111111111 := by omega
                      clear hV
                      go_wp2
                      go_round
                      case rel => exact ⟨k + 1, by omega, by go_num, by rw [hVs.out]; go_num⟩
                      case measure => simp [intOf]; omega
                    · have hkb' : b = k := by omega
                      subst hkb'
                      clear hkb hk
                      go_wp2_with (go_at_call 7; refine (awake_any _).mono ?_; rintro e w4 ⟨rfl, hb4⟩; have hbel4 := hbel3.trans (hb4.mono hbel3.size))
                      go_ret
                      exact ⟨rfl, hbel4⟩
                · have hd40 : decide ((c : Int) ≤ 4096) = false := by simp; omega
                  go_wp2_with fail
                  refine (call_long c (by omega) hc _).mono ?_
                  rintro e w3 ⟨v3, p3, rfl, hb3⟩
                  rw [← hb3.cell (p := ⟨g2, 2, none⟩) hg2] at hv2
                  have hbel3 := hbel2.trans (hb3.mono (by omega))
                  clear hb3 hbk hbel2
                  go_wp2
                  go_loop [22, 23] (fun v i => ∃ k : Nat, k ≤ b ∧ i = .int .i64 k ∧ v = .int .i64 (V k : Int)) (fun _ i => b - (intOf i).toNat)
                  case atStart => exact ⟨0, Nat.zero_le _, rfl, rfl⟩
                  case round =>
                    obtain ⟨k, hk, rfl, rfl⟩ := hrel
                    by_cases hkb : k < b
                    · have hV := V_mono (k + 1) (by omega)
                      have hVs := hid (V_succ k)
                      rw [hVs.out] at hV
                      generalize V k = X at *
                      have hX : (X : Int) ≤ 111111111111111111 := by omega
                      clear hV
                      go_wp2
                      go_round
                      case rel => exact ⟨k + 1, by omega, by go_num, by rw [hVs.out]; go_num⟩
                      case measure => simp [intOf]; omega
                    · have hkb' : b = k := by omega
                      subst hkb'
                      clear hkb hk
                      go_wp2_with (go_at_call 7; refine (awake_any _).mono ?_; rintro e w4 ⟨rfl, hb4⟩; have hbel4 := hbel3.trans (hb4.mono hbel3.size))
                      go_ret
                      exact ⟨rfl, hbel4⟩
              · go_wp2_with fail
                refine (call_many b (by omega) hb' _).mono ?_
                rintro e w2 ⟨rfl, hb2⟩
                have hrow2 := Hrow1.out.below hb2 hsz1
                have hbel2 := hbel1.trans (hb2.mono (by omega))
                have hsz2 : w.heap.size < w2.heap.size := Nat.lt_of_lt_of_le hsz1 hb2.size
                have hbk := hrow2.back c
                rw [fillK_len _ _ (Nat.le_refl _), fill_rep] at hbk
                clear hb2 hrow2 hbel1 hsz1 Hrow1
                have hd19 : decide ((b : Int) ≤ 19) = false := by simp; omega
                by_cases hc4 : c ≤ 4096
                · go_wp2_with fail
                  refine (call_sp c hc4 _).mono ?_
                  rintro e w3 ⟨v3, p3, rfl, hb3⟩
                  have hbel3 := hbel2.trans (hb3.mono (by omega))
                  clear hb3 hbk hbel2
                  go_wp2_with (go_at_call 7; refine (awake_any _).mono ?_; rintro e w4 ⟨rfl, hb4⟩; have hbel4 := hbel3.trans (hb4.mono hbel3.size))
                  go_ret
                  exact ⟨rfl, hbel4⟩
                · have hd40 : decide ((c : Int) ≤ 4096) = false := by simp; omega
                  go_wp2_with fail
                  refine (call_long c (by omega) hc _).mono ?_
                  rintro e w3 ⟨v3, p3, rfl, hb3⟩
                  have hbel3 := hbel2.trans (hb3.mono (by omega))
                  clear hb3 hbk hbel2
                  go_wp2_with (go_at_call 7; refine (awake_any _).mono ?_; rintro e w4 ⟨rfl, hb4⟩; have hbel4 := hbel3.trans (hb4.mono hbel3.size))
                  go_ret
                  exact ⟨rfl, hbel4⟩
set_option maxHeartbeats 1000000 in
set_option maxRecDepth 100000 in
theorem len_out (a b c : Int) (w : World) (h : a < 1 ∨ 40 < a ∨ b < 1 ∨ 25 < b ∨ c < 0 ∨ 4200 < c) : Calls Try.prog 3 #[.int .i64 a, .int .i64 b, .int .i64 c] w (Yes w) := by
  by_cases h1 : a < 1
  · clear h
    go_enter Try.func3, Try.ntmps3
    go_wp2_with (go_at_call 7; refine (awake_any _).mono ?_; rintro e w' ⟨rfl, hb⟩)
    go_ret
    exact ⟨rfl, by assumption⟩
  by_cases h2 : 40 < a
  · clear h
    go_enter Try.func3, Try.ntmps3
    go_wp2_with (go_at_call 7; refine (awake_any _).mono ?_; rintro e w' ⟨rfl, hb⟩)
    go_ret
    exact ⟨rfl, by assumption⟩
  by_cases h3 : b < 1
  · clear h
    go_enter Try.func3, Try.ntmps3
    go_wp2_with (go_at_call 7; refine (awake_any _).mono ?_; rintro e w' ⟨rfl, hb⟩)
    go_ret
    exact ⟨rfl, by assumption⟩
  by_cases h4 : 25 < b
  · clear h
    go_enter Try.func3, Try.ntmps3
    go_wp2_with (go_at_call 7; refine (awake_any _).mono ?_; rintro e w' ⟨rfl, hb⟩)
    go_ret
    exact ⟨rfl, by assumption⟩
  by_cases h5 : c < 0
  · clear h
    go_enter Try.func3, Try.ntmps3
    go_wp2_with (go_at_call 7; refine (awake_any _).mono ?_; rintro e w' ⟨rfl, hb⟩)
    go_ret
    exact ⟨rfl, by assumption⟩
  have h6 : 4200 < c := by omega
  clear h
  go_enter Try.func3, Try.ntmps3
  go_wp2_with (go_at_call 7; refine (awake_any _).mono ?_; rintro e w' ⟨rfl, hb⟩)
  go_ret
  exact ⟨rfl, by assumption⟩
theorem len_any (a b c : Int) (w : World) : Calls Try.prog 3 #[.int .i64 a, .int .i64 b, .int .i64 c] w (Yes w) := by
  by_cases h : a < 1 ∨ 40 < a ∨ b < 1 ∨ 25 < b ∨ c < 0 ∨ 4200 < c
  · exact len_out a b c w h
  · obtain ⟨x, rfl⟩ : ∃ x : Nat, a = x := ⟨a.toNat, by omega⟩
    obtain ⟨y, rfl⟩ : ∃ y : Nat, b = y := ⟨b.toNat, by omega⟩
    obtain ⟨z, rfl⟩ : ∃ z : Nat, c = z := ⟨c.toNat, by omega⟩
    exact len_in x y z w (by omega) (by omega) (by omega) (by omega) (by omega)
end Go.Proofs.Ythmihhjpilpcpaa

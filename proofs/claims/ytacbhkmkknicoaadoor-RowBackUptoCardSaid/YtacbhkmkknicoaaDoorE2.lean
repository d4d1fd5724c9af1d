/- row: the reference's values as bytes. -/
import Derived.Test.YtacbhkmkknicoaaDoorJ1
import Derived.Deep.DeepCutAuto
namespace Go.Proofs.YtacbhkmkknicoaaDoor
open Go.RowKit
set_option linter.unusedSimpArgs false
set_option linter.unusedVariables false
attribute [local go_sem] Rg.leads_value Rg.leads_skip Rg.leads_enter Rg.brings_value Rg.brings_skip Rg.brings_enter Rg.bringsG_value Rg.bringsG_enter
set_option maxHeartbeats 8000000 in
set_option maxRecDepth 100000 in
theorem renc_int (n : Int) (s : ByteArray) (b : Bool) (w : World) (hn : okI n) : Calls Tryd.prog 60 #[.agg #[.int .i64 1, .int .i64 n, .string s, .bool b]] w (RetB (1 :: be8 (n + 9223372036854775808)) w) := by
  have hx := xor_top hn
  obtain ⟨m, hm⟩ : ∃ m, n + 9223372036854775808 = m := ⟨_, rfl⟩
  rw [hm] at hx ⊢
  clear hm hn
  go_enter Tryd.func60, Tryd.ntmps60
  obtain ⟨i0, hi0, hz0, hz1, hz2⟩ := info_parts b_info
  go_upto_region 5 with (fail)
  have hrow0 := World.ownsRow_lit (base := w.heap.size) (e := 5) (size := 1) (w.alloc (.cells #[.int .i64 1, .int .i64 n, .string s, .bool b] 32)) #[.int .u8 1] 1 (by simp) (by decide) rfl
  rw [World.size_alloc] at hrow0
  have hg0 : Gr w ((w.alloc (.cells #[.int .i64 1, .int .i64 n, .string s, .bool b] 32)).alloc (.cells #[.int .u8 1] 5)) := ((Gr.refl _).alloc _).alloc _
  have hb0 : w.heap.size ≤ ((w.alloc (.cells #[.int .i64 1, .int .i64 n, .string s, .bool b] 32)).alloc (.cells #[.int .u8 1] 5)).heap.size := hg0.size
  have HR0 : Hid (World.ownsRow ((w.alloc (.cells #[.int .i64 1, .int .i64 n, .string s, .bool b] 32)).alloc (.cells #[.int .u8 1] 5)) w.heap.size 5 1 (.slice (some ⟨w.heap.size + 1, 0, none⟩) 1 1) 1 (cellsF bF [1])) := hid hrow0
  generalize (w.alloc (.cells #[.int .i64 1, .int .i64 n, .string s, .bool b] 32)).alloc (.cells #[.int .u8 1] 5) = w0 at *
  generalize Value.slice (some ⟨w.heap.size + 1, 0, none⟩) 1 1 = v0 at *
  clear hrow0 hx
  go_wp2_with fail
  refine wp_loop_rounds 9 ?_
  rw [rounds_succ]
  go_wp2_with (at_builtin; refine wpList_append_own _ rfl _ _ 30 rfl w.heap.size 5 i0 (.int .u8 0) 1 1 Tryd.underlying30 hi0 hz0 hz1 hz2 rfl (by decide) _ _ _ rfl (HR0.out.alloc _) ⟨w0.heap.size, 0, none⟩ 1 1 (cellsF bF [m / 72057594037927936 % 256]) rfl rfl ?a01 ?a02 ?a03 ?a04 ?a05 ?_)
  case a01 =>
    intro q u hu
    rw [addN, Nat.zero_add, Rg.blk_cells (heap_alloc_new _ _) q]
    simpa [bF, cellsF] using hu
  case a02 => exact bE.cells_one _
  case a03 => unfold maxLen; omega
  case a04 => omega
  case a05 => first | omega | (simp; omega)
  intro v1 w1 hown hq8 _
  have hg1 := Gz.up (hg0.trans ((Gr.refl w0).alloc _)) hq8 (HR0.out.alloc _)
  have hb1 := hg1.size
  have HR1 : Hid (w1.ownsRow w.heap.size 5 1 v1 2 (cellsF bF [1, m / 72057594037927936 % 256])) := hid hown
  clear hown hq8 HR0 hg0 hb0
  go_wp2_with fail
  rw [rounds_succ]
  go_wp2_with (at_builtin; refine wpList_append_own _ rfl _ _ 30 rfl w.heap.size 5 i0 (.int .u8 0) 1 1 Tryd.underlying30 hi0 hz0 hz1 hz2 rfl (by decide) _ _ _ rfl (HR1.out.alloc _) ⟨w1.heap.size, 0, none⟩ 1 1 (cellsF bF [m / 281474976710656 % 256]) rfl rfl ?a11 ?a12 ?a13 ?a14 ?a15 ?_)
  case a11 =>
    intro q u hu
    rw [addN, Nat.zero_add, Rg.blk_cells (heap_alloc_new _ _) q]
    simpa [bF, cellsF] using hu
  case a12 => exact bE.cells_one _
  case a13 => unfold maxLen; omega
  case a14 => omega
  case a15 => first | omega | (simp; omega)
  intro v2 w2 hown hq8 _
  have hg2 := Gz.up (hg1.trans ((Gr.refl w1).alloc _)) hq8 (HR1.out.alloc _)
  have hb2 := hg2.size
  have HR2 : Hid (w2.ownsRow w.heap.size 5 1 v2 3 (cellsF bF [1, m / 72057594037927936 % 256, m / 281474976710656 % 256])) := hid hown
  clear hown hq8 HR1 hg1 hb1
  go_wp2_with fail
  rw [rounds_succ]
  go_wp2_with (at_builtin; refine wpList_append_own _ rfl _ _ 30 rfl w.heap.size 5 i0 (.int .u8 0) 1 1 Tryd.underlying30 hi0 hz0 hz1 hz2 rfl (by decide) _ _ _ rfl (HR2.out.alloc _) ⟨w2.heap.size, 0, none⟩ 1 1 (cellsF bF [m / 1099511627776 % 256]) rfl rfl ?a21 ?a22 ?a23 ?a24 ?a25 ?_)
  case a21 =>
    intro q u hu
    rw [addN, Nat.zero_add, Rg.blk_cells (heap_alloc_new _ _) q]
    simpa [bF, cellsF] using hu
  case a22 => exact bE.cells_one _
  case a23 => unfold maxLen; omega
  case a24 => omega
  case a25 => first | omega | (simp; omega)
  intro v3 w3 hown hq8 _
  have hg3 := Gz.up (hg2.trans ((Gr.refl w2).alloc _)) hq8 (HR2.out.alloc _)
  have hb3 := hg3.size
  have HR3 : Hid (w3.ownsRow w.heap.size 5 1 v3 4 (cellsF bF [1, m / 72057594037927936 % 256, m / 281474976710656 % 256, m / 1099511627776 % 256])) := hid hown
  clear hown hq8 HR2 hg2 hb2
  go_wp2_with fail
  rw [rounds_succ]
  go_wp2_with (at_builtin; refine wpList_append_own _ rfl _ _ 30 rfl w.heap.size 5 i0 (.int .u8 0) 1 1 Tryd.underlying30 hi0 hz0 hz1 hz2 rfl (by decide) _ _ _ rfl (HR3.out.alloc _) ⟨w3.heap.size, 0, none⟩ 1 1 (cellsF bF [m / 4294967296 % 256]) rfl rfl ?a31 ?a32 ?a33 ?a34 ?a35 ?_)
  case a31 =>
    intro q u hu
    rw [addN, Nat.zero_add, Rg.blk_cells (heap_alloc_new _ _) q]
    simpa [bF, cellsF] using hu
  case a32 => exact bE.cells_one _
  case a33 => unfold maxLen; omega
  case a34 => omega
  case a35 => first | omega | (simp; omega)
  intro v4 w4 hown hq8 _
  have hg4 := Gz.up (hg3.trans ((Gr.refl w3).alloc _)) hq8 (HR3.out.alloc _)
  have hb4 := hg4.size
  have HR4 : Hid (w4.ownsRow w.heap.size 5 1 v4 5 (cellsF bF [1, m / 72057594037927936 % 256, m / 281474976710656 % 256, m / 1099511627776 % 256, m / 4294967296 % 256])) := hid hown
  clear hown hq8 HR3 hg3 hb3
  go_wp2_with fail
  rw [rounds_succ]
  go_wp2_with (at_builtin; refine wpList_append_own _ rfl _ _ 30 rfl w.heap.size 5 i0 (.int .u8 0) 1 1 Tryd.underlying30 hi0 hz0 hz1 hz2 rfl (by decide) _ _ _ rfl (HR4.out.alloc _) ⟨w4.heap.size, 0, none⟩ 1 1 (cellsF bF [m / 16777216 % 256]) rfl rfl ?a41 ?a42 ?a43 ?a44 ?a45 ?_)
  case a41 =>
    intro q u hu
    rw [addN, Nat.zero_add, Rg.blk_cells (heap_alloc_new _ _) q]
    simpa [bF, cellsF] using hu
  case a42 => exact bE.cells_one _
  case a43 => unfold maxLen; omega
  case a44 => omega
  case a45 => first | omega | (simp; omega)
  intro v5 w5 hown hq8 _
  have hg5 := Gz.up (hg4.trans ((Gr.refl w4).alloc _)) hq8 (HR4.out.alloc _)
  have hb5 := hg5.size
  have HR5 : Hid (w5.ownsRow w.heap.size 5 1 v5 6 (cellsF bF [1, m / 72057594037927936 % 256, m / 281474976710656 % 256, m / 1099511627776 % 256, m / 4294967296 % 256, m / 16777216 % 256])) := hid hown
  clear hown hq8 HR4 hg4 hb4
  go_wp2_with fail
  rw [rounds_succ]
  go_wp2_with (at_builtin; refine wpList_append_own _ rfl _ _ 30 rfl w.heap.size 5 i0 (.int .u8 0) 1 1 Tryd.underlying30 hi0 hz0 hz1 hz2 rfl (by decide) _ _ _ rfl (HR5.out.alloc _) ⟨w5.heap.size, 0, none⟩ 1 1 (cellsF bF [m / 65536 % 256]) rfl rfl ?a51 ?a52 ?a53 ?a54 ?a55 ?_)
  case a51 =>
    intro q u hu
    rw [addN, Nat.zero_add, Rg.blk_cells (heap_alloc_new _ _) q]
    simpa [bF, cellsF] using hu
  case a52 => exact bE.cells_one _
  case a53 => unfold maxLen; omega
  case a54 => omega
  case a55 => first | omega | (simp; omega)
  intro v6 w6 hown hq8 _
  have hg6 := Gz.up (hg5.trans ((Gr.refl w5).alloc _)) hq8 (HR5.out.alloc _)
  have hb6 := hg6.size
  have HR6 : Hid (w6.ownsRow w.heap.size 5 1 v6 7 (cellsF bF [1, m / 72057594037927936 % 256, m / 281474976710656 % 256, m / 1099511627776 % 256, m / 4294967296 % 256, m / 16777216 % 256, m / 65536 % 256])) := hid hown
  clear hown hq8 HR5 hg5 hb5
  go_wp2_with fail
  rw [rounds_succ]
  go_wp2_with (at_builtin; refine wpList_append_own _ rfl _ _ 30 rfl w.heap.size 5 i0 (.int .u8 0) 1 1 Tryd.underlying30 hi0 hz0 hz1 hz2 rfl (by decide) _ _ _ rfl (HR6.out.alloc _) ⟨w6.heap.size, 0, none⟩ 1 1 (cellsF bF [m / 256 % 256]) rfl rfl ?a61 ?a62 ?a63 ?a64 ?a65 ?_)
  case a61 =>
    intro q u hu
    rw [addN, Nat.zero_add, Rg.blk_cells (heap_alloc_new _ _) q]
    simpa [bF, cellsF] using hu
  case a62 => exact bE.cells_one _
  case a63 => unfold maxLen; omega
  case a64 => omega
  case a65 => first | omega | (simp; omega)
  intro v7 w7 hown hq8 _
  have hg7 := Gz.up (hg6.trans ((Gr.refl w6).alloc _)) hq8 (HR6.out.alloc _)
  have hb7 := hg7.size
  have HR7 : Hid (w7.ownsRow w.heap.size 5 1 v7 8 (cellsF bF [1, m / 72057594037927936 % 256, m / 281474976710656 % 256, m / 1099511627776 % 256, m / 4294967296 % 256, m / 16777216 % 256, m / 65536 % 256, m / 256 % 256])) := hid hown
  clear hown hq8 HR6 hg6 hb6
  go_wp2_with fail
  rw [rounds_succ]
  go_wp2_with (at_builtin; refine wpList_append_own _ rfl _ _ 30 rfl w.heap.size 5 i0 (.int .u8 0) 1 1 Tryd.underlying30 hi0 hz0 hz1 hz2 rfl (by decide) _ _ _ rfl (HR7.out.alloc _) ⟨w7.heap.size, 0, none⟩ 1 1 (cellsF bF [m % 256]) rfl rfl ?a71 ?a72 ?a73 ?a74 ?a75 ?_)
  case a71 =>
    intro q u hu
    rw [addN, Nat.zero_add, Rg.blk_cells (heap_alloc_new _ _) q]
    simpa [bF, cellsF] using hu
  case a72 => exact bE.cells_one _
  case a73 => unfold maxLen; omega
  case a74 => omega
  case a75 => first | omega | (simp; omega)
  intro v8 w8 hown hq8 _
  have hg8 := Gz.up (hg7.trans ((Gr.refl w7).alloc _)) hq8 (HR7.out.alloc _)
  have hb8 := hg8.size
  have HR8 : Hid (w8.ownsRow w.heap.size 5 1 v8 9 (cellsF bF [1, m / 72057594037927936 % 256, m / 281474976710656 % 256, m / 1099511627776 % 256, m / 4294967296 % 256, m / 16777216 % 256, m / 65536 % 256, m / 256 % 256, m % 256])) := hid hown
  clear hown hq8 HR7 hg7 hb7
  go_wp2_with fail
  have FI : Hid (∃ oa c, v8 = .slice oa (1 :: be8 m).length c ∧ (1 :: be8 m).length ≤ c ∧ BAt w8 oa (1 :: be8 m)) := hid (by
    have h : w8.ownsRow w.heap.size 5 1 v8 (1 :: be8 m).length (cellsF bF (1 :: be8 m)) := HR8.out
    obtain ⟨oa, c, e, hat, _⟩ := own_at0 bE h
    exact ⟨oa, c, e, own_cap h e, hat⟩)
  clear HR8
  rw [rounds_succ]
  go_wp2
  go_ret
  obtain ⟨oa, c, rfl, hle, hat⟩ := FI.out
  exact ⟨oa, c, rfl, hle, hat, hg8⟩
/-- the text's bytes so far -/
def ErRel (w : World) (s : ByteArray) (s6 s7 : Value) (wr : World) : Prop := ∃ k : Nat, s7 = .int .i64 (k : Int) ∧ k ≤ s.size ∧ wr.ownsRow w.heap.size 5 1 s6 (2 :: esc (s.data.toList.take k)).length (cellsF bF (2 :: esc (s.data.toList.take k))) ∧ Gr w wr ∧ Ty 32 wr w.heap.size ∧ wr.cell? ⟨w.heap.size, 2, none⟩ = some (.string s)
set_option maxHeartbeats 4000000 in
set_option maxRecDepth 100000 in
theorem renc_text (n : Int) (s : ByteArray) (b : Bool) (w : World) (hs : 2 * s.size + 3 ≤ 140737488355328) : Calls Tryd.prog 60 #[.agg #[.int .i64 2, .int .i64 n, .string s, .bool b]] w (RetB (encT s) w) := by
  obtain ⟨R, hR⟩ : ∃ R, encT s = R := ⟨_, rfl⟩
  rw [hR]
  have HR := hid hR
  clear hR
  go_enter Tryd.func60, Tryd.ntmps60
  go_upto_region 13 with (fail)
  have hrow0 := World.ownsRow_lit (base := w.heap.size + 1) (e := 5) (size := 1) (w.alloc (.cells #[.int .i64 2, .int .i64 n, .string s, .bool b] 32)) #[.int .u8 2] 1 (by simp) (by decide) rfl
  rw [World.size_alloc] at hrow0
  have hrow0 := own_mono hrow0 (Nat.le_succ _)
  have ty1 : Ty 32 ((w.alloc (.cells #[.int .i64 2, .int .i64 n, .string s, .bool b] 32)).alloc (.cells #[.int .u8 2] 5)) w.heap.size := (Ty.new _ _ _).gr ((Gr.refl _).alloc _)
  have g1 : Gr w ((w.alloc (.cells #[.int .i64 2, .int .i64 n, .string s, .bool b] 32)).alloc (.cells #[.int .u8 2] 5)) := ((Gr.refl _).alloc _).alloc _
  have c1 : ((w.alloc (.cells #[.int .i64 2, .int .i64 n, .string s, .bool b] 32)).alloc (.cells #[.int .u8 2] 5)).cell? ⟨w.heap.size, 2, none⟩ = some (.string s) := by
    refine Gr.keep (w := w.alloc (.cells #[.int .i64 2, .int .i64 n, .string s, .bool b] 32)) ((Gr.refl _).alloc _) ?_
    rw [Rg.blk_cells (heap_alloc_new _ _) 2]; rfl
  generalize (w.alloc (.cells #[.int .i64 2, .int .i64 n, .string s, .bool b] 32)).alloc (.cells #[.int .u8 2] 5) = w2 at *
  have S0 : Hid (ErRel w s (.slice (some ⟨w.heap.size + 1, 0, none⟩) 1 1) (.int .i64 0) w2) := hid ⟨0, rfl, Nat.zero_le _, by simpa [esc, cellsF, bF] using hrow0, g1, ty1, c1⟩
  have zc := lt_of_cell c1
  clear hrow0 g1 ty1
  go_wp2_with fail
  go_loopw [6, 7] (fun s6 s7 wr => ErRel w s s6 s7 wr) (fun _ s7 _ => s.size - (intOf s7).toNat)
  case atStart => exact S0.out
  case round =>
    clear S0 c1 zc
    obtain ⟨k, rfl, hk, hrow, hg, ty1, c1⟩ := hrel
    have zc := lt_of_cell c1
    have HRW := hid hrow
    have hlen := enc_len_take s k
    have hwb := hg.size
    clear hrow
    by_cases hkl : k < s.size
    · have g1 : decide ((s.size : Int) ≤ (k : Int)) = false := by rw [decide_eq_false_iff_not]; omega
      have g2 : (k : Int) < (s.size : Int) := by omega
      have g3 : (0 : Int) ≤ (k : Int) := by omega
      have HT := hid (esc_takeS hkl)
      obtain ⟨i0, hi0, hz0, hz1, hz2⟩ := info_parts b_info
      obtain ⟨l, hl⟩ : ∃ l, 2 :: esc (s.data.toList.take k) = l := ⟨_, rfl⟩
      have HL := hid hl
      have hll : l.length ≤ 2 * s.size + 1 := by rw [← hl]; simp; omega
      have HT2 : Hid (2 :: esc (s.data.toList.take (k + 1)) = l ++ if s[k] = 0 then [0, 255] else [(s[k].toNat : Int)]) := hid (by rw [HT.out, ← hl]; rfl)
      rw [hl] at HRW
      clear hl HT hlen HL
      go_wp2_with (at_builtin; refine wpList_append_own _ rfl _ _ 30 rfl w.heap.size 5 i0 (.int .u8 0) 1 1 Tryd.underlying30 hi0 hz0 hz1 hz2 rfl (by decide) _ _ _ rfl (HRW.out.alloc _) ⟨wr.heap.size, 0, none⟩ 1 1 (cellsF bF [(s[k].toNat : Int)]) rfl rfl ?ma1 ?ma2 ?ma3 ?ma4 ?ma5 ?_)
      case ma1 =>
        intro q u hu
        rw [addN, Nat.zero_add, Rg.blk_cells (heap_alloc_new _ _) q]
        simpa [bF, cellsF] using hu
      case ma2 => exact bE.cells_one _
      case ma3 => unfold maxLen; omega
      case ma4 => omega
      case ma5 => first | omega | (simp; omega)
      intro v1 w3 hown hg8 _
      have G1 := Gz.up (hg.trans ((Gr.refl wr).alloc _)) hg8 (HRW.out.alloc _)
      have ga := Gr.alloc (Gr.refl wr) (.cells #[.int .u8 (s[k].toNat : Int)] 5)
      have TY1 := hid ((ty1.gr ga).gz hg8 ((ty1.gr ga).ne (HRW.out.alloc _) (by decide)))
      have c1 := Gz.cell hg8 (ga.keep c1) (fun g h e => (ty1.gr ga).ne (HRW.out.alloc _) (by decide) (by rw [h, e]))
      have zc := lt_of_cell c1
      have HR1 : Hid (w3.ownsRow w.heap.size 5 1 v1 (l ++ [(s[k].toNat : Int)]).length (cellsF bF (l ++ [(s[k].toNat : Int)]))) := hid (by rw [List.length_append, cellsF_append]; exact hown)
      clear hown hg8 HRW hg hwb ga ty1
      by_cases h0 : s[k] = 0
      · have q0 : ((s[k].toNat : Int) == 0) = true := by rw [h0]; rfl
        have HT3 : Hid (2 :: esc (s.data.toList.take (k + 1)) = (l ++ [(s[k].toNat : Int)]) ++ [255]) := hid (by rw [HT2.out, if_pos h0, h0]; simp)
        have hl2 : (l ++ [(s[k].toNat : Int)]).length ≤ 2 * s.size + 2 := by rw [List.length_append]; simp; omega
        clear HT2 h0 hll
        generalize l ++ [(s[k].toNat : Int)] = l2 at *
        have hwb := G1.size
        go_wp2_with (at_builtin; refine wpList_append_own _ rfl _ _ 30 rfl w.heap.size 5 i0 (.int .u8 0) 1 1 Tryd.underlying30 hi0 hz0 hz1 hz2 rfl (by decide) _ _ _ rfl (HR1.out.alloc _) ⟨w3.heap.size, 0, none⟩ 1 1 (cellsF bF [255]) rfl rfl ?mb1 ?mb2 ?mb3 ?mb4 ?mb5 ?_)
        case mb1 =>
          intro q u hu
          rw [addN, Nat.zero_add, Rg.blk_cells (heap_alloc_new _ _) q]
          simpa [bF, cellsF] using hu
        case mb2 => exact bE.cells_one _
        case mb3 => unfold maxLen; omega
        case mb4 => omega
        case mb5 => first | omega | (simp; omega)
        intro v2 w4 hown hg8 _
        have G2 := Gz.up (G1.trans ((Gr.refl w3).alloc _)) hg8 (HR1.out.alloc _)
        have ga := Gr.alloc (Gr.refl w3) (.cells #[.int .u8 255] 5)
        have TY2 := (TY1.out.gr ga).gz hg8 ((TY1.out.gr ga).ne (HR1.out.alloc _) (by decide))
        have c2 := Gz.cell hg8 (ga.keep c1) (fun g h e => (TY1.out.gr ga).ne (HR1.out.alloc _) (by decide) (by rw [h, e]))
        have FI : Hid (ErRel w s v2 (.int .i64 ((k : Int) + 1)) w4) := hid ⟨k + 1, by go_num, by omega, by rw [HT3.out, List.length_append, cellsF_append]; exact hown, G2, TY2, c2⟩
        clear hown hg8 G2 ga TY2 c2 HT3 HR1 TY1 G1
        go_wp2
        exact ⟨FI.out, by simp [intOf]; omega⟩
      · have q0 : ((s[k].toNat : Int) == 0) = false := by
          rw [beq_eq_false_iff_ne]
          intro h
          exact h0 (UInt8.toNat_inj.1 (by simpa using h))
        have FI : Hid (ErRel w s v1 (.int .i64 ((k : Int) + 1)) w3) := hid ⟨k + 1, by go_num, by omega, by rw [HT2.out, if_neg h0]; exact HR1.out, G1, TY1.out, c1⟩
        clear HT2 h0 HR1 TY1 G1
        go_wp2
        exact ⟨FI.out, by simp [intOf]; omega⟩
    · obtain rfl : k = s.size := by omega
      have g1 : decide ((s.size : Int) ≤ (s.size : Int)) = true := by rw [decide_eq_true_iff]; omega
      obtain ⟨i0, hi0, hz0, hz1, hz2⟩ := info_parts b_info
      rw [List.take_of_length_le (by simp)] at HRW hlen
      obtain ⟨l, hl⟩ : ∃ l, 2 :: esc s.data.toList = l := ⟨_, rfl⟩
      have hll : l.length ≤ 2 * s.size + 1 := by rw [← hl]; simp; omega
      have HRl : Hid (R = l ++ [0, 0]) := hid (by rw [← HR.out, ← hl]; rfl)
      rw [hl] at HRW
      clear hl hlen HR
      go_wp2_with (at_builtin; refine wpList_append_own _ rfl _ _ 30 rfl w.heap.size 5 i0 (.int .u8 0) 1 1 Tryd.underlying30 hi0 hz0 hz1 hz2 rfl (by decide) _ _ _ rfl (HRW.out.alloc _) ⟨wr.heap.size, 0, none⟩ 2 2 (cellsF bF [0, 0]) rfl rfl ?mc1 ?mc2 ?mc3 ?mc4 ?mc5 ?_)
      case mc1 =>
        intro q u hu
        rw [addN, Nat.zero_add, Rg.blk_cells (heap_alloc_new _ _) q]
        simpa [bF, cellsF] using hu
      case mc2 => exact bE.cells_one _
      case mc3 => unfold maxLen; omega
      case mc4 => omega
      case mc5 => first | omega | (simp; omega)
      intro v1 w3 hown hg8 _
      have G1 := Gz.up (hg.trans ((Gr.refl wr).alloc _)) hg8 (HRW.out.alloc _)
      have hown2 : w3.ownsRow w.heap.size 5 1 v1 (l ++ [0, 0]).length (cellsF bF (l ++ [0, 0])) := by rw [List.length_append, cellsF_append]; exact hown
      have FI : Hid (∃ oa c, v1 = .slice oa R.length c ∧ R.length ≤ c ∧ BAt w3 oa R) := hid (by
        obtain ⟨oa, c, e, hat, hle⟩ := own_at0 bE hown2
        rw [HRl.out]
        exact ⟨oa, c, e, own_cap hown2 e, hat⟩)
      clear hown hown2 hg8 HRW hg hwb HRl
      go_wp2
      go_ret
      obtain ⟨oa, c, rfl, hle, hat⟩ := FI.out
      exact ⟨oa, c, rfl, hle, hat, G1⟩
set_option maxHeartbeats 4000000 in
set_option maxRecDepth 100000 in
theorem renc_bool (n : Int) (s : ByteArray) (b : Bool) (w : World) : Calls Tryd.prog 60 #[.agg #[.int .i64 3, .int .i64 n, .string s, .bool b]] w (RetB [3, trb b] w) := by
  go_enter Tryd.func60, Tryd.ntmps60
  cases b
  · go_wp2
    go_ret
    refine ⟨_, _, rfl, Nat.le_refl _, ?_, ((Gr.refl _).alloc _).alloc _⟩
    have h := bat_new (w.alloc (Obj.cells #[.int .i64 3, .int .i64 n, .string s, .bool false] 32)) [3, trb false]
    rw [World.size_alloc] at h
    exact h
  · go_wp2
    go_ret
    refine ⟨_, _, rfl, Nat.le_refl _, ?_, ((Gr.refl _).alloc _).alloc _⟩
    have h := bat_new (w.alloc (Obj.cells #[.int .i64 3, .int .i64 n, .string s, .bool true] 32)) [3, trb true]
    rw [World.size_alloc] at h
    exact h
set_option maxHeartbeats 4000000 in
set_option maxRecDepth 100000 in
theorem renc_null (t n : Int) (s : ByteArray) (b : Bool) (w : World) (h1 : t ≠ 1) (h2 : t ≠ 2) (h3 : t ≠ 3) : Calls Tryd.prog 60 #[.agg #[.int .i64 t, .int .i64 n, .string s, .bool b]] w (RetB [0] w) := by
  have q1 : (t == 1) = false := by simpa using h1
  have q2 : (t == 2) = false := by simpa using h2
  have q3 : (t == 3) = false := by simpa using h3
  clear h1 h2 h3
  go_enter Tryd.func60, Tryd.ntmps60
  go_wp2
  go_ret
  refine ⟨_, _, rfl, Nat.le_refl _, ?_, ((Gr.refl _).alloc _).alloc _⟩
  have h := bat_new (w.alloc (Obj.cells #[.int .i64 t, .int .i64 n, .string s, .bool b] 32)) [0]
  rw [World.size_alloc] at h
  exact h
/-- the reference's Encode -/
theorem renc_any (v : V) (w : World) (hn : okI v.n) (hs : 2 * v.s.size + 3 ≤ 140737488355328) : Calls Tryd.prog 60 #[v.val] w (RetB (encV v) w) := by
  obtain ⟨t, n, s, b⟩ := v
  unfold encV
  simp only
  by_cases h1 : t = 1
  · subst h1; rw [if_pos rfl]; exact renc_int n s b w hn
  · rw [if_neg h1]
    by_cases h2 : t = 2
    · subst h2; rw [if_pos rfl]; exact renc_text n s b w hs
    · rw [if_neg h2]
      by_cases h3 : t = 3
      · subst h3; rw [if_pos rfl]; exact renc_bool n s b w
      · rw [if_neg h3]; exact renc_null t n s b w h1 h2 h3
end Go.Proofs.YtacbhkmkknicoaaDoor

/- the reference: Probe. -/
import Derived.Test.YtemhfaknmagebaaDoorR1
namespace Go.Proofs.YtemhfaknmagebaaDoor
open Go.RowKit
set_option linter.unusedSimpArgs false
set_option linter.unusedVariables false
/-- what the reference's probe hands back -/
def rprobeV : Option Int → Value
  | none => .agg #[.int .i64 0, .int .i64 0, .int .i64 0, .bool false]
  | some r => .agg #[.int .i64 (bnd (2 + min r 1099511627776)), .int .i64 (bnd r), .int .i64 r, .bool true]
theorem rprobeV_some (r : Int) : rprobeV (some r) = .agg #[.int .i64 (bnd (2 + min r 1099511627776)), .int .i64 (bnd r), .int .i64 r, .bool true] := rfl
set_option maxHeartbeats 2000000 in
set_option maxRecDepth 100000 in
theorem rprobe_any (rows pages col : Int) (b off c : Nat) (l : List (Int × Int)) (w : World) (hl : l.length ≤ 9223372036854775807) (hrow : CRow w b off l) (hr : rows ≤ 9223372036854775807) :
    Calls Tryd.prog 13 #[.agg #[.int .i64 rows, .int .i64 pages, .slice (some ⟨b, off, none⟩) l.length c], .int .i64 col] w fun e w' => e = .returned (rprobeV (probeL rows col l)) ∧ Gr w w' := by
  have hd0 : probeL rows col l = probeL rows col (l.drop 0) := rfl
  obtain ⟨RR, hRR⟩ : ∃ R, R = probeL rows col l := ⟨_, rfl⟩
  rw [← hRR] at hd0 ⊢
  have HR := hid hd0
  clear hRR hd0
  have O := fun p r W => rof_any p r W
  go_enter Tryd.func13, Tryd.ntmps13
  go_wp2_with fail
  go_loopw [5] (fun i wr => ∃ k : Nat, i = .int .i64 k ∧ k ≤ l.length ∧ Gr ((w.alloc (.cells #[.int .i64 rows, .int .i64 pages, .slice (some ⟨b, off, none⟩) l.length c] 34)).alloc (.cells #[.int .i64 0, .int .i64 0, .int .i64 0, .bool false] 40)) wr ∧ Hid (RR = probeL rows col (l.drop k))) (fun i _ => l.length - (intOf i).toNat)
  case atStart => exact ⟨0, rfl, Nat.zero_le _, Gr.refl _, HR⟩
  case round =>
    obtain ⟨k, rfl, hk, hg, H⟩ := hrel
    have hg1 : Gr w _ := (((Gr.refl w).alloc _).alloc _).trans hg
    have b0 : ((w.alloc (.cells #[.int .i64 rows, .int .i64 pages, .slice (some ⟨b, off, none⟩) l.length c] 34)).alloc (.cells #[.int .i64 0, .int .i64 0, .int .i64 0, .bool false] 40)).cell? ⟨w.heap.size, 0, none⟩ = some (.int .i64 rows) := by go_simp
    have b2 : ((w.alloc (.cells #[.int .i64 rows, .int .i64 pages, .slice (some ⟨b, off, none⟩) l.length c] 34)).alloc (.cells #[.int .i64 0, .int .i64 0, .int .i64 0, .bool false] 40)).cell? ⟨w.heap.size, 2, none⟩ = some (.slice (some ⟨b, off, none⟩) l.length c) := by go_simp
    have z0 : ((w.alloc (.cells #[.int .i64 rows, .int .i64 pages, .slice (some ⟨b, off, none⟩) l.length c] 34)).alloc (.cells #[.int .i64 0, .int .i64 0, .int .i64 0, .bool false] 40)).cell? ⟨w.heap.size + 1, 0, none⟩ = some (.int .i64 0) := by go_simp
    have z1 : ((w.alloc (.cells #[.int .i64 rows, .int .i64 pages, .slice (some ⟨b, off, none⟩) l.length c] 34)).alloc (.cells #[.int .i64 0, .int .i64 0, .int .i64 0, .bool false] 40)).cell? ⟨w.heap.size + 1, 1, none⟩ = some (.int .i64 0) := by go_simp
    have z2 : ((w.alloc (.cells #[.int .i64 rows, .int .i64 pages, .slice (some ⟨b, off, none⟩) l.length c] 34)).alloc (.cells #[.int .i64 0, .int .i64 0, .int .i64 0, .bool false] 40)).cell? ⟨w.heap.size + 1, 2, none⟩ = some (.int .i64 0) := by go_simp
    have z3 : ((w.alloc (.cells #[.int .i64 rows, .int .i64 pages, .slice (some ⟨b, off, none⟩) l.length c] 34)).alloc (.cells #[.int .i64 0, .int .i64 0, .int .i64 0, .bool false] 40)).cell? ⟨w.heap.size + 1, 3, none⟩ = some (.bool false) := by go_simp
    have zf : ∀ i, ((w.alloc (.cells #[.int .i64 rows, .int .i64 pages, .slice (some ⟨b, off, none⟩) l.length c] 34)).alloc (.cells #[.int .i64 0, .int .i64 0, .int .i64 0, .bool false] 40)).frozen? ⟨w.heap.size + 1, i, none⟩ = false := by intro i; go_simp
    have d0 := hg.keep b0
    have d2 := hg.keep b2
    have y0 := hg.keep z0
    have y1 := hg.keep z1
    have y2 := hg.keep z2
    have y3 := hg.keep z3
    have yf := fun i => (Below.frozen (p := ⟨w.heap.size + 1, i, none⟩) hg (lt_of_cell z0)).trans (zf i)
    have hws : w.heap.size < _ := lt_of_cell d0
    have hws1 : w.heap.size + 1 < _ := lt_of_cell y0
    clear b0 b2 z0 z1 z2 z3 zf
    by_cases hlt : k < l.length
    · obtain ⟨_, hcs⟩ := hrow.keep hg1
      obtain ⟨c0, c1⟩ := hcs k hlt
      have HH := H.out
      rw [List.drop_eq_getElem_cons hlt] at HH
      simp only [probeL] at HH
      generalize l[k] = x at *
      obtain ⟨cl, d⟩ := x
      simp only at c0 c1 HH
      have hbb := lt_of_cell c0
      by_cases hcol : cl = col
      · subst hcol
        rw [if_pos rfl] at HH
        have t1 : (cl != cl) = false := by simp
        have e1 : max 0 rows = max rows 0 := Int.max_comm _ _
        have e3 : max 1 d = max d 1 := Int.max_comm _ _
        have hn0 : 0 ≤ max rows 0 := by omega
        have hn1 : max rows 0 ≤ 9223372036854775807 := by omega
        have hd0 : 1 ≤ max d 1 := by omega
        have hcd := cdiv_bd (max rows 0) (max d 1) hn0 hd0
        obtain ⟨hcd1, hcd2⟩ := hcd
        unfold cdiv at HH hcd1 hcd2
        by_cases ht : 0 < max rows 0 % max d 1
        · rw [if_pos ht] at HH hcd1 hcd2
          have W1 : wrap64 (max rows 0 / max d 1 + 1) = max rows 0 / max d 1 + 1 := by unfold wrap64; omega
          subst HH
          by_cases hbig : 1099511627776 < max rows 0 / max d 1 + 1
          · have B1 : Hid (bnd (2 + min (max rows 0 / max d 1 + 1) 1099511627776) = bnd (max rows 0 / max d 1 + 1)) := hid (by unfold bnd; omega)
            have t5 : decide (1099511627776 < max rows 0 / max d 1 + 1) = true := by simpa using hbig
            clear hcs H hrow HR hcd1 hcd2 hbig
            go_wp2_with fail
            refine (O _ _ _).mono ?_
            rintro e w' ⟨rfl, hgo⟩
            have c4 := hgo.cells
            have c5 := hgo.frees
            have c6 := hgo.size
            go_wp2
            refine bodyPost_ret (by simp [results, Tryd.results13, go_sem, *]; try rfl) rfl ⟨?_, ?_⟩
            rotate_left
            · repeat' (first | exact Gr.refl _ | exact Nat.le_refl _ | exact Nat.le_add_right _ _ | refine Gr.setCell ?_ ?_ _ | refine Gr.alloc ?_ _ | refine Gr.drew ?_ | refine Gr.trans ?_ (by assumption) | omega | (dsimp only; omega))
            · rw [rprobeV_some, B1.out]
          · have B1 : Hid (bnd (2 + min (max rows 0 / max d 1 + 1) 1099511627776) = bnd (2 + (max rows 0 / max d 1 + 1))) := hid (by congr 1; omega)
            have t5 : decide (1099511627776 < max rows 0 / max d 1 + 1) = false := by simpa using hbig
            have W2 : wrap64 (2 + (max rows 0 / max d 1 + 1)) = 2 + (max rows 0 / max d 1 + 1) := by unfold wrap64; omega
            clear hcs H hrow HR hcd1 hcd2 hbig
            go_wp2_with fail
            refine (O _ _ _).mono ?_
            rintro e w' ⟨rfl, hgo⟩
            have c4 := hgo.cells
            have c5 := hgo.frees
            have c6 := hgo.size
            go_wp2
            refine bodyPost_ret (by simp [results, Tryd.results13, go_sem, *]; try rfl) rfl ⟨?_, ?_⟩
            rotate_left
            · repeat' (first | exact Gr.refl _ | exact Nat.le_refl _ | exact Nat.le_add_right _ _ | refine Gr.setCell ?_ ?_ _ | refine Gr.alloc ?_ _ | refine Gr.drew ?_ | refine Gr.trans ?_ (by assumption) | omega | (dsimp only; omega))
            · rw [rprobeV_some, B1.out]
        · rw [if_neg ht] at HH hcd1 hcd2
          rw [Int.add_zero] at HH hcd1 hcd2
          subst HH
          by_cases hbig : 1099511627776 < max rows 0 / max d 1
          · have B1 : Hid (bnd (2 + min (max rows 0 / max d 1) 1099511627776) = bnd (max rows 0 / max d 1)) := hid (by unfold bnd; omega)
            have t5 : decide (1099511627776 < max rows 0 / max d 1) = true := by simpa using hbig
            clear hcs H hrow HR hcd1 hcd2 hbig
            go_wp2_with fail
            refine (O _ _ _).mono ?_
            rintro e w' ⟨rfl, hgo⟩
            have c4 := hgo.cells
            have c5 := hgo.frees
            have c6 := hgo.size
            go_wp2
            refine bodyPost_ret (by simp [results, Tryd.results13, go_sem, *]; try rfl) rfl ⟨?_, ?_⟩
            rotate_left
            · repeat' (first | exact Gr.refl _ | exact Nat.le_refl _ | exact Nat.le_add_right _ _ | refine Gr.setCell ?_ ?_ _ | refine Gr.alloc ?_ _ | refine Gr.drew ?_ | refine Gr.trans ?_ (by assumption) | omega | (dsimp only; omega))
            · rw [rprobeV_some, B1.out]
          · have B1 : Hid (bnd (2 + min (max rows 0 / max d 1) 1099511627776) = bnd (2 + (max rows 0 / max d 1))) := hid (by congr 1; omega)
            have t5 : decide (1099511627776 < max rows 0 / max d 1) = false := by simpa using hbig
            have W2 : wrap64 (2 + (max rows 0 / max d 1)) = 2 + (max rows 0 / max d 1) := by unfold wrap64; omega
            clear hcs H hrow HR hcd1 hcd2 hbig
            go_wp2_with fail
            refine (O _ _ _).mono ?_
            rintro e w' ⟨rfl, hgo⟩
            have c4 := hgo.cells
            have c5 := hgo.frees
            have c6 := hgo.size
            go_wp2
            refine bodyPost_ret (by simp [results, Tryd.results13, go_sem, *]; try rfl) rfl ⟨?_, ?_⟩
            rotate_left
            · repeat' (first | exact Gr.refl _ | exact Nat.le_refl _ | exact Nat.le_add_right _ _ | refine Gr.setCell ?_ ?_ _ | refine Gr.alloc ?_ _ | refine Gr.drew ?_ | refine Gr.trans ?_ (by assumption) | omega | (dsimp only; omega))
            · rw [rprobeV_some, B1.out]
      · rw [if_neg hcol] at HH
        have t1 : (cl != col) = true := by simpa using hcol
        have HH' := hid HH
        clear HH hcs H hrow
        go_wp2
        exact ⟨⟨k + 1, by go_num, by omega, hg, HH'⟩, by simp [intOf]; omega⟩
    · obtain rfl : k = l.length := by omega
      have hn : RR = none := by rw [H.out, List.drop_length]; rfl
      subst hn
      go_wp2
      refine bodyPost_ret (by simp [results, Tryd.results13, go_sem, rprobeV, y0, y1, y2, y3, yf]; try rfl) rfl ⟨rfl, ?_⟩
      repeat' (first | exact Gr.refl _ | exact Nat.le_refl _ | exact Nat.le_add_right _ _ | refine Gr.setCell ?_ ?_ _ | refine Gr.alloc ?_ _ | refine Gr.drew ?_ | refine Gr.trans ?_ (by assumption) | omega | (dsimp only; omega))
set_option maxHeartbeats 2000000 in
set_option maxRecDepth 100000 in
theorem rprobe_none (rows pages col : Int) (oa : Option Addr) (c : Nat) (w : World) :
    Calls Tryd.prog 13 #[.agg #[.int .i64 rows, .int .i64 pages, .slice oa 0 c], .int .i64 col] w fun e w' => e = .returned (rprobeV none) ∧ Gr w w' := by
  go_enter Tryd.func13, Tryd.ntmps13
  go_wp2_with fail
  go_loopw [5] (fun i wr => i = .int .i64 0 ∧ wr = ((w.alloc (.cells #[.int .i64 rows, .int .i64 pages, .slice oa 0 c] 34)).alloc (.cells #[.int .i64 0, .int .i64 0, .int .i64 0, .bool false] 40))) (fun i _ => 0)
  case atStart => exact ⟨rfl, rfl⟩
  case round =>
    obtain ⟨rfl, rfl⟩ := hrel
    go_wp2
    refine bodyPost_ret (by simp [results, Tryd.results13, go_sem, rprobeV]; try rfl) rfl ⟨rfl, ?_⟩
    repeat' (first | exact Gr.refl _ | exact Nat.le_refl _ | exact Nat.le_add_right _ _ | refine Gr.setCell ?_ ?_ _ | refine Gr.alloc ?_ _ | refine Gr.drew ?_ | refine Gr.trans ?_ (by assumption) | omega | (dsimp only; omega))
end Go.Proofs.YtemhfaknmagebaaDoor

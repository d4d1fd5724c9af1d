/- row: insertion (slices.insertionSortCmpFunc) over rows of rows. (By mkSo2.py.) -/
import Derived.Test.YtacbhkmkknicoaaDoorSo1
namespace Go.Proofs.YtacbhkmkknicoaaDoor
open Go.RowKit
set_option linter.unusedSimpArgs false
set_option linter.unusedVariables false
attribute [local go_sem] Rg.leads_value Rg.leads_skip Rg.leads_enter Rg.brings_value Rg.brings_skip Rg.brings_enter Rg.bringsG_value Rg.bringsG_enter Rg.still_value Rg.still_skip Rg.bringsS_value Rg.bringsS_skip Rg.bringsS_enter rwV
theorem cmp_rw {g : Nat} {w : World} {x y : Rw} (hx : RwOk g w x) (hy : RwOk g w y) : Calls Tryd.prog 21 #[rwV x, rwV y] w fun e w' => e = .returned (.int .i64 (cmpR x.l y.l)) ∧ Gr w w' :=
  cmpR_any x.oa x.c x.l y.oa y.c y.l w hx.2.1 hy.2.1 hx.1 hy.1
set_option maxHeartbeats 8000000 in
set_option maxRecDepth 100000 in
theorem ins_any (base g cap a b : Nat) (d : List Rw) (w : World) (h : SD base g cap w d) (ha : a ≤ d.length) (hb : b ≤ d.length) (hd : d.length ≤ 1000000) :
    Calls Tryd.prog 74 #[.slice (some ⟨g, 0, none⟩) d.length cap, .int .i64 (a : Int), .int .i64 (b : Int), .func (.func 21) #[] #[]] w fun e w' => e = .returned (.tuple #[]) ∧ SD base g cap w' (insI a (b - 1 - a) d) ∧ Go1 g w w' := by
  have HSD := hid h
  obtain ⟨N, hN⟩ : ∃ N, d.length = N := ⟨_, rfl⟩
  rw [hN] at ha hb hd ⊢
  have HN := hid hN
  clear h hN
  go_enter Tryd.func74, Tryd.ntmps74
  go_wp2_with fail
  go_loopw [8] (fun s8 wr => ∃ n : Nat, s8 = .int .i64 ((a + 1 + n : Nat) : Int) ∧ n ≤ b - 1 - a ∧ SD base g cap wr (insI a n d) ∧ Go1 g w wr) (fun s8 _ => b - (intOf s8).toNat)
  case atStart => exact ⟨0, by go_num, Nat.zero_le _, HSD.out, Go1.of (Gr.refl _)⟩
  case round =>
    obtain ⟨n, rfl, hn, hsd, hgo⟩ := hrel
    have HS := hid hsd
    have HG := hid hgo
    clear hsd hgo
    by_cases hlt : a + 1 + n < b
    · have g1 : decide (((a + 1 + n : Nat) : Int) < (b : Int)) = true := by rw [decide_eq_true_iff]; omega
      obtain ⟨T, hT⟩ : ∃ T, insJ a (n + 1) (insI a n d) = T := ⟨_, rfl⟩
      have HT : Hid (insI a (n + 1) d = T) := hid hT
      have HL : Hid ((insI a n d).length = N) := hid (by rw [insI_len]; exact HN.out)
      have HI : Hid (∃ (m : Nat) (dm : List Rw), (Value.int .i64 ((a + 1 + n : Nat) : Int)) = .int .i64 ((a + m : Nat) : Int) ∧ m ≤ n + 1 ∧ SD base g cap wr dm ∧ dm.length = N ∧ insJ a m dm = T ∧ Go1 g w wr) := hid ⟨n + 1, _, by rw [show a + 1 + n = a + (n + 1) by omega], Nat.le_refl _, HS.out, HL.out, hT, HG.out⟩
      clear hT HS HG
      go_wp2_with fail
      go_loopw [9] (fun s9 wr => ∃ (m : Nat) (dm : List Rw), s9 = .int .i64 ((a + m : Nat) : Int) ∧ m ≤ n + 1 ∧ SD base g cap wr dm ∧ dm.length = N ∧ insJ a m dm = T ∧ Go1 g w wr) (fun s9 _ => (intOf s9).toNat)
      case atStart => exact HI.out
      case round =>
        clear HI
        obtain ⟨m, dm, rfl, hm, hsd, hdl, hJ, hgo⟩ := hrel
        have HS := hid hsd
        have HG := hid hgo
        have HJ := hid hJ
        have HDL := hid hdl
        obtain ⟨hz0, hz⟩ := hsd.lt
        clear hsd hgo hJ hdl
        have exit' : Hid (∀ W, Gr wr W → dm = T → (∃ n' : Nat, (Value.int .i64 (((a + 1 + n : Nat) : Int) + 1)) = .int .i64 ((a + 1 + n' : Nat) : Int) ∧ n' ≤ b - 1 - a ∧ SD base g cap W (insI a n' d) ∧ Go1 g w W)) := hid (fun W hW e => ⟨n + 1, by go_num, by omega, by rw [HT.out, ← e]; exact HS.out.gr hW, HG.out.trans (Go1.of hW)⟩)
        rcases m with _ | m
        · have g2 : decide ((a : Int) < ((a + 0 : Nat) : Int)) = false := by rw [decide_eq_false_iff_not]; omega
          have EX := hid (fun W hW => exit'.out W hW HJ.out)
          clear exit' HJ HS HG
          simp only [Nat.add_zero] at g2 ⊢
          go_upto_region 4 with (fail)
          refine Rg.region_text 16 (Below.drew (Below.refl _ _)) (by kernel_rfl) (by kernel_rfl) (fun _ _ d _ _ h => by cases d <;> exact h) ?_
          simp only [List.append_eq, List.cons_append, List.nil_append, List.take_succ_cons, List.take_zero, List.drop_succ_cons, List.drop_zero]
          repeat (first
              | (refine Rg.wpDets_skip (by rfl) ?_; simp only [Act.put, List.setIfInBounds_toArray, List.set_cons_zero, List.set_cons_succ])
              | (refine Rg.wpDets_step ?_ (by rfl) (fun w hS => ?_) ?_
                 rotate_left
                 · have hc := Gr.cells hS
                   have hf := Gr.frees hS
                   go_simp
                   first
                   | (refine ⟨?_, Below.refl _ _⟩; with_reducible rfl)
                 simp only [Act.put, List.setIfInBounds_toArray, List.set_cons_zero, List.set_cons_succ]))
          refine Rg.wpDets_nil ?_
          refine Rg.wpFlts_nil ?_
          refine Rg.wpLays_nil ?_
          intro w9 hK
          have hg : Gr _ w9 := hK.up
          have hc := Gr.cells hg
          have hf := Gr.frees hg
          have hz := Gr.size hg
          try simp only [World.size_alloc, World.size_setCell, World.size_drew] at hz
          try have : 0 < w9.heap.size := by omega
          try have : w.heap.size < w9.heap.size := by omega
          try have : w.heap.size + 1 < w9.heap.size := by omega
          try have : w.heap.size + 1 + 1 < w9.heap.size := by omega
          try have : w.heap.size + 1 + 1 + 1 < w9.heap.size := by omega
          try have : w1.heap.size < w9.heap.size := by omega
          try have : w1.heap.size + 1 < w9.heap.size := by omega
          try have : w2.heap.size < w9.heap.size := by omega
          try have : w2.heap.size + 1 < w9.heap.size := by omega
          try have : w3.heap.size < w9.heap.size := by omega
          try have : w3.heap.size + 1 < w9.heap.size := by omega
          try have : w4.heap.size < w9.heap.size := by omega
          try have : w4.heap.size + 1 < w9.heap.size := by omega
          try have : w5.heap.size < w9.heap.size := by omega
          try have : w5.heap.size + 1 < w9.heap.size := by omega
          try have : w6.heap.size < w9.heap.size := by omega
          try have : w6.heap.size + 1 < w9.heap.size := by omega
          try have : w7.heap.size < w9.heap.size := by omega
          try have : w7.heap.size + 1 < w9.heap.size := by omega
          try have : w8.heap.size < w9.heap.size := by omega
          try have : w8.heap.size + 1 < w9.heap.size := by omega
          have FI := hid (EX.out _ hg)
          clear EX hg
          go_wp2
          exact ⟨FI.out, by simp [intOf]; omega⟩
        · have hjm : a + (m + 1) = a + m + 1 := rfl
          rw [hjm]
          obtain ⟨j1, hj1⟩ : ∃ j, a + m + 1 = j := ⟨_, rfl⟩
          obtain ⟨j0, hj0⟩ : ∃ j, a + m = j := ⟨_, rfl⟩
          have HJ1 : Hid ((if ltR (gx dm j1) (gx dm j0) = true then insJ a m (swp dm j1 j0) else dm) = T) := hid (by rw [← hj1, ← hj0]; exact HJ.out)
          have HJ0 := hid hj0
          rw [hj1]
          have g2 : decide ((a : Int) < (j1 : Int)) = true := by rw [decide_eq_true_iff]; omega
          have g2' : decide (a < j1) = true := by rw [decide_eq_true_iff]; omega
          have h10 : j1 = j0 + 1 := by omega
          have hjn : j1 < N := by omega
          clear hjm hj1 hj0 HJ
          have hi1 : j1 < dm.length := by rw [HDL.out]; omega
          have hi0 : j0 < dm.length := by rw [HDL.out]; omega
          have c1 := HS.out.cell j1 hi1
          have c0 := HS.out.cell j0 hi0
          have f1 := HS.out.frozen j1 hi1
          have f0 := HS.out.frozen j0 hi0
          have hx := HS.out.ok _ (get_mem! dm j1 hi1)
          have hy := HS.out.ok _ (get_mem! dm j0 hi0)
          have CM : ∀ W, Rg.Up wr W → Calls Tryd.prog 21 #[.slice (gx dm j1).oa (gx dm j1).l.length (gx dm j1).c, .slice (gx dm j0).oa (gx dm j0).l.length (gx dm j0).c] W fun e w' => e = .returned (.int .i64 (cmpR (gx dm j1).l (gx dm j0).l)) ∧ Gr W w' := fun W hW => cmp_rw (hx.gr hW) (hy.gr hW)
          obtain ⟨CC, hCC⟩ : ∃ c, cmpR (gx dm j1).l (gx dm j0).l = c := ⟨_, rfl⟩
          have HLT : Hid (ltR (gx dm j1) (gx dm j0) = decide (CC < 0)) := hid (by rw [← hCC]; rfl)
          rw [hCC] at CM
          have g3 : (j1 : Int) < (N : Int) := by omega
          have g4 : (j0 : Int) < (N : Int) := by omega
          have g5 : (0 : Int) ≤ (j1 : Int) := by omega
          have g6 : (0 : Int) ≤ (j0 : Int) := by omega
          have g7 : (j1 : Int) - 1 = (j0 : Int) := by omega
          have H10 := hid h10
          have gw := IntWalk.i64_in (j0 : Int) (by omega)
          have gw1 := IntWalk.i64_in (j1 : Int) (by omega)
          clear hx hy hCC hi0 hi1 h10
          by_cases hcc : CC < 0
          · have q1 : decide (CC < 0) = true := by rw [decide_eq_true_iff]; exact hcc
            have HJ2 : Hid (insJ a m (swp dm j1 j0) = T) := hid (by have := HJ1.out; rw [HLT.out, q1, if_pos rfl] at this; exact this)
            clear hcc HJ1 HLT exit'
            go_upto_region 4 with (fail)
            refine Rg.region_text 16 (Below.drew (Below.refl _ _)) (by kernel_rfl) (by kernel_rfl) (fun _ _ d _ _ h => by cases d <;> exact h) ?_
            simp only [List.append_eq, List.cons_append, List.nil_append, List.take_succ_cons, List.take_zero, List.drop_succ_cons, List.drop_zero]
            repeat (first
                | (refine Rg.wpDets_skip (by rfl) ?_; simp only [Act.put, List.setIfInBounds_toArray, List.set_cons_zero, List.set_cons_succ])
                | (refine Rg.wpDets_step ?_ (by rfl) (fun w hS => ?_) ?_
                   rotate_left
                   · have hc := Gr.cells hS
                     have hf := Gr.frees hS
                     go_simp
                     first
                     | (refine ⟨?_, Below.refl _ _⟩; with_reducible rfl)
                     | ((with_reducible refine (CM _ hS).mono ?_); rintro e w' ⟨rfl, hg⟩; refine ⟨?_, hg⟩; with_reducible rfl)
                   simp only [Act.put, List.setIfInBounds_toArray, List.set_cons_zero, List.set_cons_succ]))
            refine Rg.wpDets_nil ?_
            refine Rg.wpFlts_nil ?_
            refine Rg.wpLays_nil ?_
            intro w9 hK
            have hg : Gr _ w9 := hK.up
            have hc := Gr.cells hg
            have hf := Gr.frees hg
            have hz := Gr.size hg
            try simp only [World.size_alloc, World.size_setCell, World.size_drew] at hz
            try have : 0 < w9.heap.size := by omega
            try have : w.heap.size < w9.heap.size := by omega
            try have : w.heap.size + 1 < w9.heap.size := by omega
            try have : w.heap.size + 1 + 1 < w9.heap.size := by omega
            try have : w.heap.size + 1 + 1 + 1 < w9.heap.size := by omega
            try have : w1.heap.size < w9.heap.size := by omega
            try have : w1.heap.size + 1 < w9.heap.size := by omega
            try have : w2.heap.size < w9.heap.size := by omega
            try have : w2.heap.size + 1 < w9.heap.size := by omega
            try have : w3.heap.size < w9.heap.size := by omega
            try have : w3.heap.size + 1 < w9.heap.size := by omega
            try have : w4.heap.size < w9.heap.size := by omega
            try have : w4.heap.size + 1 < w9.heap.size := by omega
            try have : w5.heap.size < w9.heap.size := by omega
            try have : w5.heap.size + 1 < w9.heap.size := by omega
            try have : w6.heap.size < w9.heap.size := by omega
            try have : w6.heap.size + 1 < w9.heap.size := by omega
            try have : w7.heap.size < w9.heap.size := by omega
            try have : w7.heap.size + 1 < w9.heap.size := by omega
            try have : w8.heap.size < w9.heap.size := by omega
            try have : w8.heap.size + 1 < w9.heap.size := by omega
            have HS9 : Hid (Sw1 base g cap w dm j1 j0 0 w9) := hid (by
              unfold Sw1
              rw [if_pos rfl]
              exact ⟨HS.out.gr hg, HG.out.trans (Go1.of hg)⟩)
            have hdl := HDL.out
            clear CM HS HG c0 c1 f0 f1 hg
            go_upto_region 6 with (fail)
            refine Rg.region_chain 17 [15] [(9, 15), (13, 15)] (fun s _ W => Sw1 base g cap w dm (j1) (j0) s W) [some (.slice (some ⟨g, 0, none⟩) N cap), some (.int .i64 (j1 : Int)), some (.slice (some ⟨g, 0, none⟩) N cap), some (.int .i64 (j1 : Int)), some (.int .i64 (j0 : Int)), some (.slice (some ⟨g, 0, none⟩) N cap), some (.int .i64 (j1 : Int)), some (.int .i64 (j0 : Int)), some (.pointer (some ⟨g, j0, none⟩)), some (rwV (gx dm j0)), some (.slice (some ⟨g, 0, none⟩) N cap), some (.int .i64 (j1 : Int)), some (.pointer (some ⟨g, j1, none⟩)), some (rwV (gx dm j1)), some (.pointer (some ⟨g, j1, none⟩)), some undef, some (.pointer (some ⟨g, j0, none⟩))]
              (fun v => sw_gr HS9.out ((Gr.refl _).drew)) (by kernel_rfl) (by kernel_rfl) (by kernel_rfl) (by kernel_rfl) (fun _ _ d _ _ h => by cases d <;> exact h) ?_
            intro OPS _ v
            simp only [List.take_succ_cons, List.take_zero, Rg.wpC, Option.getD_some, Option.getD_none, Act.put, List.setIfInBounds_toArray, List.set_cons_zero, List.set_cons_succ, show List.contains [15] 0 = false from rfl, show List.contains [15] 1 = false from rfl, show List.contains [15] 2 = false from rfl, show List.contains [15] 3 = false from rfl, show List.contains [15] 4 = false from rfl, show List.contains [15] 5 = false from rfl, show List.contains [15] 6 = false from rfl, show List.contains [15] 7 = false from rfl, show List.contains [15] 8 = false from rfl, show List.contains [15] 9 = false from rfl, show List.contains [15] 10 = false from rfl, show List.contains [15] 11 = false from rfl, show List.contains [15] 12 = false from rfl, show List.contains [15] 13 = false from rfl, show List.contains [15] 14 = false from rfl, show List.contains [15] 15 = true from rfl, show List.contains [15] 16 = false from rfl, Bool.false_eq_true, if_false, if_true, Nat.reduceAdd]
            refine ⟨?_, ?_, ?_, ?_, ?_, ?_, ?_, ?_, ?_, ?_, ?_, ?_, ?_, ?_, ?_, ?_, ?_, ?_⟩
            · refine sc_still (by rfl) (by rfl) (fun s W hl hS => ?_)
              go_simp
              (try first | omega | (refine congrArg _ ?_; omega))
            · refine sc_still (by rfl) (by rfl) (fun s W hl hS => ?_)
              go_simp
              (try first | omega | (refine congrArg _ ?_; omega))
            · refine sc_still (by rfl) (by rfl) (fun s W hl hS => ?_)
              go_simp
              (try first | omega | (refine congrArg _ ?_; omega))
            · refine sc_still (by rfl) (by rfl) (fun s W hl hS => ?_)
              go_simp
              (try first | omega | (refine congrArg _ ?_; omega))
            · refine sc_still (by rfl) (by rfl) (fun s W hl hS => ?_)
              go_simp
              (try first | omega | (refine congrArg _ ?_; omega))
            · refine sc_still (by rfl) (by rfl) (fun s W hl hS => ?_)
              go_simp
              (try first | omega | (refine congrArg _ ?_; omega))
            · refine sc_still (by rfl) (by rfl) (fun s W hl hS => ?_)
              go_simp
              (try first | omega | (refine congrArg _ ?_; omega))
            · refine sc_still (by rfl) (by rfl) (fun s W hl hS => ?_)
              go_simp
              (try first | omega | (refine congrArg _ ?_; omega))
            · refine sc_still (by rfl) (by rfl) (fun s W hl hS => ?_)
              go_simp
              (try first | omega | (refine congrArg _ ?_; omega))
            · refine sc_still (by rfl) (by rfl) (fun s W hl hS => ?_)
              have hs : s ≤ 0 := hl 15 (by simp)
              obtain rfl : s = 0 := by omega
              obtain ⟨d1, d2, d3⟩ := sw_c hS (j0) (by omega)
              go_simp
            · refine sc_still (by rfl) (by rfl) (fun s W hl hS => ?_)
              go_simp
              (try first | omega | (refine congrArg _ ?_; omega))
            · refine sc_still (by rfl) (by rfl) (fun s W hl hS => ?_)
              go_simp
              (try first | omega | (refine congrArg _ ?_; omega))
            · refine sc_still (by rfl) (by rfl) (fun s W hl hS => ?_)
              go_simp
              (try first | omega | (refine congrArg _ ?_; omega))
            · refine sc_still (by rfl) (by rfl) (fun s W hl hS => ?_)
              have hs : s ≤ 0 := hl 15 (by simp)
              obtain rfl : s = 0 := by omega
              obtain ⟨d1, d2, d3⟩ := sw_c hS (j1) (by omega)
              go_simp
            · refine sc_still (by rfl) (by rfl) (fun s W hl hS => ?_)
              go_simp
              (try first | omega | (refine congrArg _ ?_; omega))
            · refine sc_call (by rfl) (by rfl) (fun W hS => ?_)
              obtain ⟨d1, d2, d3⟩ := sw_c hS (j1) (by omega)
              go_simp
              exact sw_step hS
            · refine sc_still (by rfl) (by rfl) (fun s W hl hS => ?_)
              go_simp
              (try first | omega | (refine congrArg _ ?_; omega))
            · intro W hS
              obtain ⟨⟨u1, d1⟩, d2, d3⟩ := sw_1 hS (by omega) (by omega)
              obtain ⟨hsd, hgo⟩ := sw_fin hS (by omega) (by omega)
              have HSD := hid hsd
              have HGO := hid hgo
              clear hS hsd hgo
              simp only [List.drop_succ_cons, List.drop_zero]
              have FI : Hid (∃ (m' : Nat) (dm' : List Rw), (Value.int .i64 (j0 : Int)) = .int .i64 ((a + m' : Nat) : Int) ∧ m' ≤ n + 1 ∧ SD base g cap (W.setCell ⟨g, j0, none⟩ (rwV (gx dm j1))) dm' ∧ dm'.length = N ∧ insJ a m' dm' = T ∧ Go1 g w (W.setCell ⟨g, j0, none⟩ (rwV (gx dm j1)))) := hid ⟨m, _, by rw [HJ0.out], by omega, HSD.out, by rw [swp_len]; exact HDL.out, HJ2.out, HGO.out⟩
              clear HSD HGO HJ2
              go_wp2
              have hlast := H10.out
              exact ⟨FI.out, by simp [intOf]; omega⟩
          · have q1 : decide (CC < 0) = false := by rw [decide_eq_false_iff_not]; exact hcc
            have EX := hid (fun W hW => exit'.out W hW (by have := HJ1.out; rw [HLT.out, q1, if_neg (by decide)] at this; exact this))
            clear hcc HJ1 HLT exit'
            go_upto_region 4 with (fail)
            refine Rg.region_text 16 (Below.drew (Below.refl _ _)) (by kernel_rfl) (by kernel_rfl) (fun _ _ d _ _ h => by cases d <;> exact h) ?_
            simp only [List.append_eq, List.cons_append, List.nil_append, List.take_succ_cons, List.take_zero, List.drop_succ_cons, List.drop_zero]
            repeat (first
                | (refine Rg.wpDets_skip (by rfl) ?_; simp only [Act.put, List.setIfInBounds_toArray, List.set_cons_zero, List.set_cons_succ])
                | (refine Rg.wpDets_step ?_ (by rfl) (fun w hS => ?_) ?_
                   rotate_left
                   · have hc := Gr.cells hS
                     have hf := Gr.frees hS
                     go_simp
                     first
                     | (refine ⟨?_, Below.refl _ _⟩; with_reducible rfl)
                     | ((with_reducible refine (CM _ hS).mono ?_); rintro e w' ⟨rfl, hg⟩; refine ⟨?_, hg⟩; with_reducible rfl)
                   simp only [Act.put, List.setIfInBounds_toArray, List.set_cons_zero, List.set_cons_succ]))
            refine Rg.wpDets_nil ?_
            refine Rg.wpFlts_nil ?_
            refine Rg.wpLays_nil ?_
            intro w9 hK
            have hg : Gr _ w9 := hK.up
            have hc := Gr.cells hg
            have hf := Gr.frees hg
            have hz := Gr.size hg
            try simp only [World.size_alloc, World.size_setCell, World.size_drew] at hz
            try have : 0 < w9.heap.size := by omega
            try have : w.heap.size < w9.heap.size := by omega
            try have : w.heap.size + 1 < w9.heap.size := by omega
            try have : w.heap.size + 1 + 1 < w9.heap.size := by omega
            try have : w.heap.size + 1 + 1 + 1 < w9.heap.size := by omega
            try have : w1.heap.size < w9.heap.size := by omega
            try have : w1.heap.size + 1 < w9.heap.size := by omega
            try have : w2.heap.size < w9.heap.size := by omega
            try have : w2.heap.size + 1 < w9.heap.size := by omega
            try have : w3.heap.size < w9.heap.size := by omega
            try have : w3.heap.size + 1 < w9.heap.size := by omega
            try have : w4.heap.size < w9.heap.size := by omega
            try have : w4.heap.size + 1 < w9.heap.size := by omega
            try have : w5.heap.size < w9.heap.size := by omega
            try have : w5.heap.size + 1 < w9.heap.size := by omega
            try have : w6.heap.size < w9.heap.size := by omega
            try have : w6.heap.size + 1 < w9.heap.size := by omega
            try have : w7.heap.size < w9.heap.size := by omega
            try have : w7.heap.size + 1 < w9.heap.size := by omega
            try have : w8.heap.size < w9.heap.size := by omega
            try have : w8.heap.size + 1 < w9.heap.size := by omega
            have FI := hid (EX.out _ hg)
            clear EX hg CM HS HG c0 c1 f0 f1
            go_wp2
            exact ⟨FI.out, by simp [intOf]; omega⟩
    · have g1 : decide (((a + 1 + n : Nat) : Int) < (b : Int)) = false := by rw [decide_eq_false_iff_not]; omega
      have hnn : n = b - 1 - a := by omega
      subst hnn
      go_wp2
      exact ⟨rfl, .tuple #[], by simp [results, Tryd.results74, go_sem], rfl, HS.out, HG.out⟩
end Go.Proofs.YtacbhkmkknicoaaDoor

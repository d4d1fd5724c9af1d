/- row: exchanging ranges, rotating (slices.swapRangeCmpFunc, rotateCmpFunc) over rows of rows. (By mkSo3.py.) -/
import Derived.Test.YtacbhkmkknicoaaDoorSo2
namespace Go.Proofs.YtacbhkmkknicoaaDoor
open Go.RowKit
set_option linter.unusedSimpArgs false
set_option linter.unusedVariables false
attribute [local go_sem] Rg.leads_value Rg.leads_skip Rg.leads_enter Rg.brings_value Rg.brings_skip Rg.brings_enter Rg.bringsG_value Rg.bringsG_enter Rg.still_value Rg.still_skip Rg.bringsS_value Rg.bringsS_skip Rg.bringsS_enter rwV
/-- n are exchanged -/
def swR (a b : Nat) : Nat → List Rw → List Rw
  | 0, d => d
  | n + 1, d => swp (swR a b n d) (a + n) (b + n)
theorem swR_len (a b : Nat) : ∀ (n : Nat) (d : List Rw), (swR a b n d).length = d.length
  | 0, d => rfl
  | n + 1, d => by unfold swR; rw [swp_len, swR_len a b n]
/-- a rotation, range by range -/
def rotF (m : Nat) : Nat → Nat → Nat → List Rw → List Rw
  | 0, _, _, d => d
  | f + 1, i, j, d => if i = j then swR (m - i) m i d else if j < i then rotF m f (i - j) j (swR (m - i) m j d) else rotF m f i (j - i) (swR (m - i) (m + j - i) i d)
theorem rotF_len (m : Nat) : ∀ (f i j : Nat) (d : List Rw), (rotF m f i j d).length = d.length
  | 0, _, _, d => rfl
  | f + 1, i, j, d => by
    unfold rotF
    split
    · rw [swR_len]
    · split
      · rw [rotF_len m f, swR_len]
      · rw [rotF_len m f, swR_len]
set_option maxHeartbeats 8000000 in
set_option maxRecDepth 100000 in
theorem swr_any (base g cap a b n : Nat) (d : List Rw) (w : World) (h : SD base g cap w d) (ha : a + n ≤ d.length) (hb : b + n ≤ d.length) (hd : d.length ≤ 1000000) :
    Calls Tryd.prog 91 #[.slice (some ⟨g, 0, none⟩) d.length cap, .int .i64 (a : Int), .int .i64 (b : Int), .int .i64 (n : Int), .func (.func 21) #[] #[]] w fun e w' => e = .returned (.tuple #[]) ∧ SD base g cap w' (swR a b n d) ∧ Go1 g w w' := by
  have HSD := hid h
  obtain ⟨N, hN⟩ : ∃ N, d.length = N := ⟨_, rfl⟩
  rw [hN] at ha hb hd ⊢
  have HN := hid hN
  clear h hN
  go_enter Tryd.func91, Tryd.ntmps91
  go_wp2_with fail
  go_loopw [10] (fun s10 wr => ∃ k : Nat, s10 = .int .i64 (k : Int) ∧ k ≤ n ∧ SD base g cap wr (swR a b k d) ∧ Go1 g w wr) (fun s10 _ => n - (intOf s10).toNat)
  case atStart => exact ⟨0, rfl, Nat.zero_le _, HSD.out, Go1.of (Gr.refl _)⟩
  case round =>
    obtain ⟨k, rfl, hk, hsd, hgo⟩ := hrel
    have HS := hid hsd
    have HG := hid hgo
    clear hsd hgo
    by_cases hlt : k < n
    · have g1 : decide ((k : Int) < (n : Int)) = true := by rw [decide_eq_true_iff]; omega
      have g1' : decide (k < n) = true := by rw [decide_eq_true_iff]; omega
      obtain ⟨dk, hdk⟩ : ∃ dk, swR a b k d = dk := ⟨_, rfl⟩
      have hdl : dk.length = N := by rw [← hdk, swR_len]; exact HN.out
      have HDL := hid hdl
      obtain ⟨I, hI⟩ : ∃ i, a + k = i := ⟨_, rfl⟩
      obtain ⟨J, hJ⟩ : ∃ i, b + k = i := ⟨_, rfl⟩
      have HST : Hid (swR a b (k + 1) d = swp dk I J) := hid (by show swp (swR a b k d) (a + k) (b + k) = _; rw [hdk, hI, hJ])
      rw [hdk] at HS
      have g2 : (a : Int) + (k : Int) = (I : Int) := by omega
      have g3 : (b : Int) + (k : Int) = (J : Int) := by omega
      have hIN : I < N := by omega
      have hJN : J < N := by omega
      clear hI hJ hdk
      have gw := IntWalk.i64_in (I : Int) (by omega)
      have gw1 := IntWalk.i64_in (J : Int) (by omega)
      have g4 : (I : Int) < (N : Int) := by omega
      have g5 : (J : Int) < (N : Int) := by omega
      have HS9 : Hid (Sw1 base g cap w dk I J 0 wr) := hid (by
        unfold Sw1
        rw [if_pos rfl]
        exact ⟨HS.out, HG.out⟩)
      clear HS HG
      go_upto_region 3 with (fail)
      refine Rg.region_chain 23 [21] [(13, 21), (19, 21)] (fun s _ W => Sw1 base g cap w dk (I) (J) s W) [some (.slice (some ⟨g, 0, none⟩) N cap), some (.int .i64 (a : Int)), some (.int .i64 (k : Int)), some (.int .i64 (I : Int)), some (.slice (some ⟨g, 0, none⟩) N cap), some (.int .i64 (b : Int)), some (.int .i64 (k : Int)), some (.int .i64 (J : Int)), some (.slice (some ⟨g, 0, none⟩) N cap), some (.int .i64 (b : Int)), some (.int .i64 (k : Int)), some (.int .i64 (J : Int)), some (.pointer (some ⟨g, J, none⟩)), some (rwV (gx dk J)), some (.slice (some ⟨g, 0, none⟩) N cap), some (.int .i64 (a : Int)), some (.int .i64 (k : Int)), some (.int .i64 (I : Int)), some (.pointer (some ⟨g, I, none⟩)), some (rwV (gx dk I)), some (.pointer (some ⟨g, I, none⟩)), some undef, some (.pointer (some ⟨g, J, none⟩))]
        (fun v => sw_gr HS9.out ((Gr.refl _).drew)) (by kernel_rfl) (by kernel_rfl) (by kernel_rfl) (by kernel_rfl) (fun _ _ d _ _ h => by cases d <;> exact h) ?_
      intro OPS _ v
      simp only [List.take_succ_cons, List.take_zero, Rg.wpC, Option.getD_some, Option.getD_none, Act.put, List.setIfInBounds_toArray, List.set_cons_zero, List.set_cons_succ, show List.contains [21] 0 = false from rfl, show List.contains [21] 1 = false from rfl, show List.contains [21] 2 = false from rfl, show List.contains [21] 3 = false from rfl, show List.contains [21] 4 = false from rfl, show List.contains [21] 5 = false from rfl, show List.contains [21] 6 = false from rfl, show List.contains [21] 7 = false from rfl, show List.contains [21] 8 = false from rfl, show List.contains [21] 9 = false from rfl, show List.contains [21] 10 = false from rfl, show List.contains [21] 11 = false from rfl, show List.contains [21] 12 = false from rfl, show List.contains [21] 13 = false from rfl, show List.contains [21] 14 = false from rfl, show List.contains [21] 15 = false from rfl, show List.contains [21] 16 = false from rfl, show List.contains [21] 17 = false from rfl, show List.contains [21] 18 = false from rfl, show List.contains [21] 19 = false from rfl, show List.contains [21] 20 = false from rfl, show List.contains [21] 21 = true from rfl, show List.contains [21] 22 = false from rfl, Bool.false_eq_true, if_false, if_true, Nat.reduceAdd]
      refine ⟨?_, ?_, ?_, ?_, ?_, ?_, ?_, ?_, ?_, ?_, ?_, ?_, ?_, ?_, ?_, ?_, ?_, ?_, ?_, ?_, ?_, ?_, ?_, ?_⟩
      · refine sc_still (by rfl) (by rfl) (fun s W hl hS => ?_)
        go_simp
        (try first | omega | (refine congrArg _ ?_; omega))
      · refine sc_still (by rfl) (by rfl) (fun s W hl hS => ?_)
        go_simp
        (try first | omega | (refine congrArg _ ?_; omega))
      · refine sc_still (by rfl) (by rfl) (fun s W hl hS => ?_)
        go_simp
        (try first | omega | (refine congrArg _ ?_; omega))
      · refine sc_still (by rfl) (by rfl) (fun s W hl hS => ?_)
        go_simp
        (try first | omega | (refine congrArg _ ?_; omega))
      · refine sc_still (by rfl) (by rfl) (fun s W hl hS => ?_)
        go_simp
        (try first | omega | (refine congrArg _ ?_; omega))
      · refine sc_still (by rfl) (by rfl) (fun s W hl hS => ?_)
        go_simp
        (try first | omega | (refine congrArg _ ?_; omega))
      · refine sc_still (by rfl) (by rfl) (fun s W hl hS => ?_)
        go_simp
        (try first | omega | (refine congrArg _ ?_; omega))
      · refine sc_still (by rfl) (by rfl) (fun s W hl hS => ?_)
        go_simp
        (try first | omega | (refine congrArg _ ?_; omega))
      · refine sc_still (by rfl) (by rfl) (fun s W hl hS => ?_)
        go_simp
        (try first | omega | (refine congrArg _ ?_; omega))
      · refine sc_still (by rfl) (by rfl) (fun s W hl hS => ?_)
        go_simp
        (try first | omega | (refine congrArg _ ?_; omega))
      · refine sc_still (by rfl) (by rfl) (fun s W hl hS => ?_)
        go_simp
        (try first | omega | (refine congrArg _ ?_; omega))
      · refine sc_still (by rfl) (by rfl) (fun s W hl hS => ?_)
        go_simp
        (try first | omega | (refine congrArg _ ?_; omega))
      · refine sc_still (by rfl) (by rfl) (fun s W hl hS => ?_)
        go_simp
        (try first | omega | (refine congrArg _ ?_; omega))
      · refine sc_still (by rfl) (by rfl) (fun s W hl hS => ?_)
        have hs : s ≤ 0 := hl 21 (by simp)
        obtain rfl : s = 0 := by omega
        obtain ⟨d1, d2, d3⟩ := sw_c hS (J) (by omega)
        go_simp
      · refine sc_still (by rfl) (by rfl) (fun s W hl hS => ?_)
        go_simp
        (try first | omega | (refine congrArg _ ?_; omega))
      · refine sc_still (by rfl) (by rfl) (fun s W hl hS => ?_)
        go_simp
        (try first | omega | (refine congrArg _ ?_; omega))
      · refine sc_still (by rfl) (by rfl) (fun s W hl hS => ?_)
        go_simp
        (try first | omega | (refine congrArg _ ?_; omega))
      · refine sc_still (by rfl) (by rfl) (fun s W hl hS => ?_)
        go_simp
        (try first | omega | (refine congrArg _ ?_; omega))
      · refine sc_still (by rfl) (by rfl) (fun s W hl hS => ?_)
        go_simp
        (try first | omega | (refine congrArg _ ?_; omega))
      · refine sc_still (by rfl) (by rfl) (fun s W hl hS => ?_)
        have hs : s ≤ 0 := hl 21 (by simp)
        obtain rfl : s = 0 := by omega
        obtain ⟨d1, d2, d3⟩ := sw_c hS (I) (by omega)
        go_simp
      · refine sc_still (by rfl) (by rfl) (fun s W hl hS => ?_)
        go_simp
        (try first | omega | (refine congrArg _ ?_; omega))
      · refine sc_call (by rfl) (by rfl) (fun W hS => ?_)
        obtain ⟨d1, d2, d3⟩ := sw_c hS (I) (by omega)
        go_simp
        exact sw_step hS
      · refine sc_still (by rfl) (by rfl) (fun s W hl hS => ?_)
        go_simp
        (try first | omega | (refine congrArg _ ?_; omega))
      · intro W hS
        obtain ⟨⟨u1, d1⟩, d2, d3⟩ := sw_1 hS (by omega) (by omega)
        obtain ⟨hsd, hgo⟩ := sw_fin hS (by omega) (by omega)
        have HSD := hid hsd
        have HGO := hid hgo
        clear hS hsd hgo
        simp only [List.drop_succ_cons, List.drop_zero]
        have FI : Hid (∃ k' : Nat, (Value.int .i64 ((k : Int) + 1)) = .int .i64 (k' : Int) ∧ k' ≤ n ∧ SD base g cap (W.setCell ⟨g, J, none⟩ (rwV (gx dk I))) (swR a b k' d) ∧ Go1 g w (W.setCell ⟨g, J, none⟩ (rwV (gx dk I)))) := hid ⟨k + 1, by go_num, by omega, by rw [HST.out]; exact HSD.out, HGO.out⟩
        clear HSD HGO HST
        go_wp2
        exact ⟨FI.out, by simp [intOf]; omega⟩
    · have g1 : decide ((k : Int) < (n : Int)) = false := by rw [decide_eq_false_iff_not]; omega
      have hkn : k = n := by omega
      subst hkn
      go_wp2
      exact ⟨rfl, .tuple #[], by simp [results, Tryd.results91, go_sem], rfl, HS.out, HG.out⟩
set_option maxHeartbeats 8000000 in
set_option maxRecDepth 100000 in
theorem rot_any (base g cap a m b : Nat) (d : List Rw) (w : World) (h : SD base g cap w d) (ham : a < m) (hmb : m < b) (hb : b ≤ d.length) (hd : d.length ≤ 1000000) :
    Calls Tryd.prog 83 #[.slice (some ⟨g, 0, none⟩) d.length cap, .int .i64 (a : Int), .int .i64 (m : Int), .int .i64 (b : Int), .func (.func 21) #[] #[]] w fun e w' => e = .returned (.tuple #[]) ∧ SD base g cap w' (rotF m (b - a) (m - a) (b - m) d) ∧ Go1 g w w' := by
  have HSD := hid h
  obtain ⟨N, hN⟩ : ∃ N, d.length = N := ⟨_, rfl⟩
  rw [hN] at hb hd ⊢
  have HN := hid hN
  clear h hN
  obtain ⟨T, hT⟩ : ∃ T, rotF m (b - a) (m - a) (b - m) d = T := ⟨_, rfl⟩
  rw [hT]
  have g1 : (m : Int) - (a : Int) = ((m - a : Nat) : Int) := by omega
  have g2 : (b : Int) - (m : Int) = ((b - m : Nat) : Int) := by omega
  have gw1 := IntWalk.i64_in ((m - a : Nat) : Int) (by omega)
  have gw2 := IntWalk.i64_in ((b - m : Nat) : Int) (by omega)
  have HI : Hid (∃ (i j f : Nat) (dk : List Rw), (Value.int .i64 ((m - a : Nat) : Int)) = .int .i64 (i : Int) ∧ (Value.int .i64 ((b - m : Nat) : Int)) = .int .i64 (j : Int) ∧ 1 ≤ i ∧ 1 ≤ j ∧ i ≤ m ∧ m + j ≤ N ∧ i + j ≤ f ∧ dk.length = N ∧ rotF m f i j dk = T ∧ SD base g cap w dk ∧ Go1 g w w) := hid ⟨m - a, b - m, b - a, d, rfl, rfl, by omega, by omega, by omega, by omega, by omega, HN.out, hT, HSD.out, Go1.of (Gr.refl _)⟩
  obtain ⟨I0, hI0⟩ : ∃ x, m - a = x := ⟨_, rfl⟩
  obtain ⟨J0, hJ0⟩ : ∃ x, b - m = x := ⟨_, rfl⟩
  rw [hI0] at g1 gw1 HI
  rw [hJ0] at g2 gw2 HI
  clear hT hI0 hJ0
  go_enter Tryd.func83, Tryd.ntmps83
  go_wp2_with fail
  go_loopw [10, 11] (fun s10 s11 wr => ∃ (i j f : Nat) (dk : List Rw), s10 = .int .i64 (i : Int) ∧ s11 = .int .i64 (j : Int) ∧ 1 ≤ i ∧ 1 ≤ j ∧ i ≤ m ∧ m + j ≤ N ∧ i + j ≤ f ∧ dk.length = N ∧ rotF m f i j dk = T ∧ SD base g cap wr dk ∧ Go1 g w wr) (fun s10 s11 _ => (intOf s10).toNat + (intOf s11).toNat)
  case atStart => exact HI.out
  case round =>
    clear HI g1 g2 gw1 gw2
    obtain ⟨i, j, f, dk, rfl, rfl, hi, hj, him, hjn, hf, hdl, hT, hsd, hgo⟩ := hrel
    have HS := hid hsd
    have HG := hid hgo
    have HDL := hid hdl
    clear hsd hgo
    obtain ⟨f, rfl⟩ : ∃ f', f = f' + 1 := ⟨f - 1, by omega⟩
    have HT : Hid ((if i = j then swR (m - i) m i dk else if j < i then rotF m f (i - j) j (swR (m - i) m j dk) else rotF m f i (j - i) (swR (m - i) (m + j - i) i dk)) = T) := hid hT
    obtain ⟨A, hA⟩ : ∃ x, m - i = x := ⟨_, rfl⟩
    have g1 : (m : Int) - (i : Int) = (A : Int) := by omega
    have gw := IntWalk.i64_in (A : Int) (by omega)
    rw [hA] at HT
    by_cases hij : i = j
    · subst hij
      have q0 : ((i : Int) == (i : Int)) = true := by simp
      have q1 : ((i : Int) != (i : Int)) = false := by simp
      have HT2 : Hid (swR A m i dk = T) := hid (by have := HT.out; rw [if_pos rfl] at this; exact this)
      have C := hid (swr_any base g cap A m i dk wr HS.out (by rw [hdl]; omega) (by rw [hdl]; omega) (by rw [hdl]; exact hd))
      rw [hdl] at C
      clear HT hA hT hdl
      go_wp2_with fail
      refine C.out.mono ?_
      rintro e w2 ⟨rfl, hsd, hgo⟩
      have HS2 := hid hsd
      have HG2 := hid hgo
      clear hsd hgo C
      go_wp2
      exact ⟨rfl, .tuple #[], by simp [results, Tryd.results83, go_sem], rfl, by rw [← HT2.out]; exact HS2.out, HG.out.trans HG2.out⟩
    · have q0 : ((i : Int) == (j : Int)) = false := by rw [beq_eq_false_iff_ne]; omega
      have q1 : ((i : Int) != (j : Int)) = true := by rw [bne_iff_ne]; omega
      have q2 : ¬ ((i : Int) = (j : Int)) := by omega
      by_cases hji : j < i
      · have p0 : decide ((j : Int) < (i : Int)) = true := by rw [decide_eq_true_iff]; omega
        have p1 : decide (j < i) = true := by rw [decide_eq_true_iff]; exact hji
        have HT2 : Hid (rotF m f (i - j) j (swR A m j dk) = T) := hid (by have := HT.out; rw [if_neg hij, if_pos hji] at this; exact this)
        have C := hid (swr_any base g cap A m j dk wr HS.out (by rw [hdl]; omega) (by rw [hdl]; omega) (by rw [hdl]; exact hd))
        rw [hdl] at C
        obtain ⟨i2, hi2⟩ : ∃ x, i - j = x := ⟨_, rfl⟩
        rw [hi2] at HT2
        have g3 : (i : Int) - (j : Int) = (i2 : Int) := by omega
        have gw3 := IntWalk.i64_in (i2 : Int) (by omega)
        have g4 : 1 ≤ i2 ∧ i2 ≤ m ∧ i2 + j ≤ f ∧ i2 < i := by omega
        have HB := hid g4
        clear HT hA hT hdl hij hi2 g4
        go_wp2_with fail
        refine C.out.mono ?_
        rintro e w2 ⟨rfl, hsd, hgo⟩
        have FI : Hid (∃ (i' j' f' : Nat) (dk' : List Rw), (Value.int .i64 (i2 : Int)) = .int .i64 (i' : Int) ∧ (Value.int .i64 (j : Int)) = .int .i64 (j' : Int) ∧ 1 ≤ i' ∧ 1 ≤ j' ∧ i' ≤ m ∧ m + j' ≤ N ∧ i' + j' ≤ f' ∧ dk'.length = N ∧ rotF m f' i' j' dk' = T ∧ SD base g cap w2 dk' ∧ Go1 g w w2) := hid ⟨i2, j, f, _, rfl, rfl, HB.out.1, hj, HB.out.2.1, hjn, HB.out.2.2.1, by rw [swR_len]; exact HDL.out, HT2.out, hsd, HG.out.trans hgo⟩
        clear hsd hgo C HT2 HS HG
        go_wp2
        have := HB.out
        exact ⟨FI.out, by simp [intOf]; omega⟩
      · have p0 : decide ((j : Int) < (i : Int)) = false := by rw [decide_eq_false_iff_not]; omega
        have p1 : decide (j < i) = false := by rw [decide_eq_false_iff_not]; exact hji
        have HT2 : Hid (rotF m f i (j - i) (swR A (m + j - i) i dk) = T) := hid (by have := HT.out; rw [if_neg hij, if_neg hji] at this; exact this)
        obtain ⟨B, hB⟩ : ∃ x, m + j - i = x := ⟨_, rfl⟩
        rw [hB] at HT2
        have C := hid (swr_any base g cap A B i dk wr HS.out (by rw [hdl]; omega) (by rw [hdl]; omega) (by rw [hdl]; exact hd))
        rw [hdl] at C
        obtain ⟨j2, hj2⟩ : ∃ x, j - i = x := ⟨_, rfl⟩
        rw [hj2] at HT2
        have g3 : (j : Int) - (i : Int) = (j2 : Int) := by omega
        have gw3 := IntWalk.i64_in (j2 : Int) (by omega)
        obtain ⟨S, hS⟩ : ∃ x, m + j = x := ⟨_, rfl⟩
        have g5 : (m : Int) + (j : Int) = (S : Int) := by omega
        have gw5 := IntWalk.i64_in (S : Int) (by omega)
        have g6 : (S : Int) - (i : Int) = (B : Int) := by omega
        have gw6 := IntWalk.i64_in (B : Int) (by omega)
        have g4 : 1 ≤ j2 ∧ m + j2 ≤ N ∧ i + j2 ≤ f ∧ j2 < j := by omega
        have HB := hid g4
        clear HT hA hT hdl hij hj2 g4 hB hS
        go_wp2_with fail
        refine C.out.mono ?_
        rintro e w2 ⟨rfl, hsd, hgo⟩
        have FI : Hid (∃ (i' j' f' : Nat) (dk' : List Rw), (Value.int .i64 (i : Int)) = .int .i64 (i' : Int) ∧ (Value.int .i64 (j2 : Int)) = .int .i64 (j' : Int) ∧ 1 ≤ i' ∧ 1 ≤ j' ∧ i' ≤ m ∧ m + j' ≤ N ∧ i' + j' ≤ f' ∧ dk'.length = N ∧ rotF m f' i' j' dk' = T ∧ SD base g cap w2 dk' ∧ Go1 g w w2) := hid ⟨i, j2, f, _, rfl, rfl, hi, HB.out.1, him, HB.out.2.1, HB.out.2.2.1, by rw [swR_len]; exact HDL.out, HT2.out, hsd, HG.out.trans hgo⟩
        clear hsd hgo C HT2 HS HG
        go_wp2
        have := HB.out
        exact ⟨FI.out, by simp [intOf]; omega⟩
end Go.Proofs.YtacbhkmkknicoaaDoor

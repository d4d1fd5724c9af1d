/- row: the walk of RowWidths. -/
import Derived.Test.YtacbhkmkknicoaaDoorRW
import Derived.Laws.MakeOwn
namespace Go.Proofs.YtacbhkmkknicoaaDoor
open Go.RowKit
set_option linter.unusedSimpArgs false
set_option linter.unusedVariables false
attribute [local go_sem] Rg.leads_value Rg.leads_skip Rg.leads_enter Rg.brings_value Rg.brings_skip Rg.brings_enter Rg.bringsG_value Rg.bringsG_enter
theorem run_make_bytes (c : Nat) (W : World) (hc : c ≤ 100000) :
    (Instr.makeSlice 30 (.int .i64 (c : Int)) (.int .i64 (c : Int))).run Tryd.prog W = .ok (.slice (some ⟨W.heap.size, 0, none⟩) c c) (W.alloc (.cells (madeCells #[.int .u8 0] c) 5)) := by
  obtain ⟨i0, hi, hz0, hz1, hz2⟩ := info_parts b_info
  have := run_make (P := Tryd.prog) W 30 5 i0 (.int .u8 0) Tryd.underlying30 hi hz0 .i64 .i64 (c : Int) (c : Int) (by omega) (by omega) (by rw [hz2]; omega) (by omega)
  simp only [Int.toNat_natCast, hz1, Nat.mul_one] at this
  exact this
theorem made_bytes (c : Nat) : (madeCells #[.int .u8 0] c).toList = cellsF bF (List.replicate c 0) := by
  apply List.ext_getElem?
  intro i
  have h1 : (cellsF bF (List.replicate c (0 : Int)))[i]? = if i < c then some (.int .u8 0) else none := by
    by_cases h : i < c
    · have := bE.cells_get (List.replicate c (0 : Int)) i (by simpa using h) 0 (by omega)
      simp only [Nat.mul_one, Nat.add_zero] at this
      rw [this, if_pos h]
      simp [bF]
    · rw [if_neg h, List.getElem?_eq_none]
      rw [bE.cells_len]; simp; omega
  rw [h1]
  by_cases h : i < c
  · rw [if_pos h]
    have hs : i < (madeCells #[.int .u8 0] c).toList.length := by simp [madeCells]; exact h
    rw [List.getElem?_eq_getElem hs]
    simp [madeCells, Nat.mod_one]
  · rw [if_neg h, List.getElem?_eq_none]
    simp [madeCells]; omega
def fill (k n : Nat) : List Int := List.replicate k 120 ++ List.replicate (n - k) 0
theorem fill_len {k n : Nat} (h : k ≤ n) : (fill k n).length = n := by unfold fill; simp; omega
theorem fill_set {k n : Nat} (h : k < n) : (fill k n).set k 120 = fill (k + 1) n := by
  unfold fill
  rw [List.set_append_right _ _ (by simp), List.length_replicate, Nat.sub_self, show n - k = (n - (k + 1)) + 1 by omega, List.replicate_succ, List.set_cons_zero, List.replicate_succ', List.append_assoc]
  rfl
theorem own_room {w : World} {base e size g m cap : Nat} {xs : List Value} (h : w.ownsRow base e size (.slice (some ⟨g, 0, none⟩) m cap) m xs) (j : Nat) (hj : j < cap * size) : (w.cell? ⟨g, j, none⟩).isSome = true ∧ w.frozen? ⟨g, j, none⟩ = false := by
  refine ⟨?_, h.frozenAt j⟩
  rcases h.2 with ⟨h', _⟩ | ⟨g', cap', cur, h', hb, hg, hc, hcm, hcs, ht⟩
  · simp at h'
  · simp only [Value.slice.injEq, Option.some.injEq, Addr.mk.injEq, and_true, true_and] at h'
    obtain ⟨rfl, rfl⟩ := h'
    rw [cell_of_row w g j cur e (0, 0) hg, Array.getElem?_eq_getElem (by omega)]
    rfl
def WfRel (wA : World) (g n : Nat) (s9 : Value) (wr : World) : Prop := ∃ k : Nat, s9 = .int .i64 (k : Int) ∧ k ≤ n ∧ wr.ownsRow wA.heap.size 5 1 (.slice (some ⟨g, 0, none⟩) n n) n (cellsF bF (fill k n)) ∧ Gr wA wr
set_option maxHeartbeats 8000000 in
set_option maxRecDepth 100000 in
theorem widths_walk (a : Int) (ix nu : Bool) (m : Int) (w : World) (hm : w.cell? ⟨0, 0, none⟩ = some (.int .i64 m)) : Calls Tryd.prog 3 #[.int .i64 a, .bool ix, .bool nu] w fun e w' => e = .returned (.bool true) ∧ Gr w w' := by
  have AW := hid (fun W (hW : Gr w W) => awake_any m W (hW.keep hm))
  clear hm
  by_cases h0 : a < 0
  · have q1 : decide (a < 0) = true := by simpa using h0
    have C := AW.out w (Gr.refl _)
    clear h0 AW
    go_enter Tryd.func3, Tryd.ntmps3
    go_wp2_with fail
    refine C.mono ?_
    rintro e w1 ⟨rfl, hg1⟩
    go_wp2
    go_ret
    exact ⟨rfl, hg1⟩
  by_cases h7 : 700 < a
  · have q1 : decide (a < 0) = false := by simpa using h0
    have q2 : decide (700 < a) = true := by simpa using h7
    have C := AW.out w (Gr.refl _)
    clear h0 AW h7
    go_enter Tryd.func3, Tryd.ntmps3
    go_wp2_with fail
    refine C.mono ?_
    rintro e w1 ⟨rfl, hg1⟩
    go_wp2
    go_ret
    exact ⟨rfl, hg1⟩
  obtain ⟨n, rfl⟩ : ∃ n : Nat, a = (n : Int) := ⟨a.toNat, by omega⟩
  have hn : n ≤ 700 := by omega
  have q1 : decide ((n : Int) < 0) = false := by rw [decide_eq_false_iff_not]; omega
  have q2 : decide (700 < (n : Int)) = false := by simpa using h7
  clear h0 h7
  go_enter Tryd.func3, Tryd.ntmps3
  go_upto_region 4 with (fail)
  have hcat : TbAt (w.alloc (.cells (cellsF cF (rwC ix)).toArray 24)) (rwT w.heap.size ix) := by
    refine ⟨.inr ⟨w.heap.size, 0, rfl, by simp, fun k hk j u hu => ?_⟩, .inl rfl, .inl rfl, by simp [rwT, rwC], by simp [rwT], by simp [rwT]⟩
    have hj : j < 4 := by rw [← cE.len (rwC ix)[k]]; exact (List.getElem?_eq_some_iff.1 hu).1
    rw [Rg.blk_cells (heap_alloc_new _ _), Nat.zero_add]
    have h2 := cE.cells_get (rwC ix) k hk j hj
    have h3 : (cF (rwC ix)[k])[j]? = some u := hu
    simpa [h2] using h3
  have hgC : Gr w (w.alloc (.cells (cellsF cF (rwC ix)).toArray 24)) := (Gr.refl _).alloc _
  change Code.wp _ _ _ _ ((w.alloc (.cells (cellsF cF (rwC ix)).toArray 24)).alloc (.cells #[.string ⟨#[116]⟩, .slice (some ⟨w.heap.size, 0, none⟩) 2 2, .slice none 0 0, .int .i64 0, .slice none 0 0] 29))
  have hs1 : (w.alloc (.cells (cellsF cF (rwC ix)).toArray 24)).heap.size = w.heap.size + 1 := by simp
  obtain ⟨wC, hwC⟩ : ∃ W, w.alloc (.cells (cellsF cF (rwC ix)).toArray 24) = W := ⟨_, rfl⟩
  rw [hwC] at hcat hgC hs1 ⊢
  obtain ⟨gC, hgCe⟩ : ∃ g, w.heap.size = g := ⟨_, rfl⟩
  rw [hgCe] at hcat hs1 ⊢
  rw [← hs1]
  have hb5 := box5 wC (.string ⟨#[116]⟩) (.slice (some ⟨gC, 0, none⟩) 2 2) (.slice none 0 0) (.int .i64 0) (.slice none 0 0)
  have hgA : Gr wC (wC.alloc (.cells #[.string ⟨#[116]⟩, .slice (some ⟨gC, 0, none⟩) 2 2, .slice none 0 0, .int .i64 0, .slice none 0 0] 29)) := (Gr.refl _).alloc _
  obtain ⟨gT, hgT⟩ : ∃ g, wC.heap.size = g := ⟨_, rfl⟩
  rw [hgT] at hb5 ⊢
  obtain ⟨wA, hwA⟩ : ∃ W, wC.alloc (.cells #[.string ⟨#[116]⟩, .slice (some ⟨gC, 0, none⟩) 2 2, .slice none 0 0, .int .i64 0, .slice none 0 0] 29) = W := ⟨_, rfl⟩
  rw [hwA] at hb5 hgA ⊢
  have HT := hid (hcat.keep hgA)
  have HB5 := hid hb5
  have HGA := hid (hgC.trans hgA)
  clear hwA hwC hcat hgC hs1 hgCe hb5 hgA hgT
  have MK := run_make_bytes n wA (by omega)
  go_upto_region 5 with (fail)
  have hrow0 : World.ownsRow (wA.alloc (.cells (madeCells #[.int .u8 0] n) 5)) wA.heap.size 5 1 (.slice (some ⟨wA.heap.size, 0, none⟩) n n) n (cellsF bF (fill 0 n)) := by
    have := World.ownsRow_lit (base := wA.heap.size) (e := 5) (size := 1) wA (madeCells #[.int .u8 0] n) n (Nat.le_refl _) (by unfold maxLen; omega) (by rw [size_madeCells]; omega)
    rw [made_bytes] at this
    exact this
  have hg8 : Gr wA (wA.alloc (.cells (madeCells #[.int .u8 0] n) 5)) := (Gr.refl _).alloc _
  obtain ⟨wF, hwF⟩ : ∃ W, wA.alloc (.cells (madeCells #[.int .u8 0] n) 5) = W := ⟨_, rfl⟩
  rw [hwF] at hrow0 hg8 ⊢
  obtain ⟨g, hgg⟩ : ∃ g, wA.heap.size = g := ⟨_, rfl⟩
  have S0 : Hid (WfRel wA g n (.int .i64 0) wF) := hid ⟨0, rfl, Nat.zero_le _, by rw [← hgg]; rw [hgg] at hrow0 ⊢; exact hrow0, hg8⟩
  have HGG := hid hgg
  rw [hgg]
  clear hwF hrow0 hg8 MK hgg
  go_wp2_with fail
  go_loopw [9] (fun s9 wr => WfRel wA g n s9 wr) (fun s9 _ => n - (intOf s9).toNat)
  case atStart => exact S0.out
  case round =>
    clear S0
    obtain ⟨k, rfl, hk, hrow, hg⟩ := hrel
    by_cases hlt : k < n
    · have g1 : decide ((n : Int) ≤ (k : Int)) = false := by rw [decide_eq_false_iff_not]; omega
      have g2 : (k : Int) < (n : Int) := by omega
      have g3 : (0 : Int) ≤ (k : Int) := by omega
      have hfl := fill_len (k := k) (n := n) (by omega)
      have hrow2 : wr.ownsRow wA.heap.size 5 1 (.slice (some ⟨g, 0, none⟩) (fill k n).length n) (fill k n).length (cellsF bF (fill k n)) := by rw [hfl]; exact hrow
      obtain ⟨S5, G5⟩ := own_store bE hrow2 k (by omega) 120 0 (by omega) (.int .u8 120) (by simp [bF])
      simp only [Nat.mul_one, Nat.add_zero] at S5 G5
      rw [fill_set hlt, fill_len (k := k) (by omega), fill_len (k := k + 1) (by omega)] at S5
      obtain ⟨uo, hcu⟩ := Option.isSome_iff_exists.1 (own_room hrow k (by omega)).1
      have hfz := hrow.frozenAt k
      have hbb := lt_of_cell hcu
      have FI : Hid (WfRel wA g n (.int .i64 ((k : Int) + 1)) (wr.setCell ⟨g, k, none⟩ (.int .u8 120))) := hid ⟨k + 1, by go_num, by omega, S5, hg.grown G5 (fun b hb => by cases hb; have := HGG.out; omega)⟩
      clear hfl hrow hrow2 S5 G5 hg
      go_wp2
      exact ⟨FI.out, by simp [intOf]; omega⟩
    · obtain rfl : k = n := by omega
      have g1 : decide ((k : Int) ≤ (k : Int)) = true := by rw [decide_eq_true_iff]; omega
      have hfx : fill k k = xsL k := by unfold fill xsL; simp
      have hat : BAt wr (some ⟨g, 0, none⟩) (xsL k) := by
        have hl : (xsL k).length = k := by simp [xsL]
        have hr2 : wr.ownsRow wA.heap.size 5 1 (.slice (some ⟨g, 0, none⟩) k k) (xsL k).length (cellsF bF (xsL k)) := by rw [hl, ← hfx]; exact hrow
        obtain ⟨oa, cc, e, hat, _⟩ := own_at0 bE hr2
        simp only [Value.slice.injEq] at e
        obtain ⟨rfl, _, rfl⟩ := e
        exact hat
      have cv : (convert 30 9 (.slice (some ⟨g, 0, none⟩) k k)).run Tryd.prog wr = .ok (.string (xS k)) wr := by
        have := conv_b k hat
        rw [show (xsL k).length = k by simp [xsL]] at this
        exact this
      have HG := hid (HGA.out.trans hg)
      have HT := hid (HT.out.keep hg)
      obtain ⟨t0, t1, t2, t3, t4⟩ := HB5.out
      have t0 := hg.keep t0
      have t1 := hg.keep t1
      have t2 := hg.keep t2
      have t3 := hg.keep t3
      have t4 := hg.keep t4
      clear hrow hfx hat hg HGA HB5
      go_wp2_with fail
      refine (mtext_any _ _).mono ?_
      rintro e w2 ⟨rfl, hg2⟩
      have HG := hid (HG.out.trans hg2)
      have HT := hid (HT.out.keep hg2)
      have t0 := hg2.keep t0
      have t1 := hg2.keep t1
      have t2 := hg2.keep t2
      have t3 := hg2.keep t3
      have t4 := hg2.keep t4
      clear hg2 cv
      go_wp2_with fail
      refine (int_any _ _).mono ?_
      rintro e w3 ⟨rfl, hg3⟩
      have HG := hid (HG.out.trans hg3)
      have HT := hid (HT.out.keep hg3)
      have t0 := hg3.keep t0
      have t1 := hg3.keep t1
      have t2 := hg3.keep t2
      have t3 := hg3.keep t3
      have t4 := hg3.keep t4
      clear hg3
      have hvat := vat_new w3 (rwL k nu)
      have hgv : Gr w3 (w3.alloc (.cells (cellsF vF (rwL k nu)).toArray 32)) := (Gr.refl _).alloc _
      obtain ⟨wV, hwV⟩ : ∃ W, w3.alloc (.cells (cellsF vF (rwL k nu)).toArray 32) = W := ⟨_, rfl⟩
      have hwV2 := hwV
      rw [hwV] at hvat hgv
      obtain ⟨gv, hgve⟩ : ∃ g, w3.heap.size = g := ⟨_, rfl⟩
      rw [hgve] at hvat
      have HV := hid hvat
      have HG4 := hid (HG.out.trans hgv)
      have HT4 := hid (HT.out.keep hgv)
      have t0 := hgv.keep t0
      have t1 := hgv.keep t1
      have t2 := hgv.keep t2
      have t3 := hgv.keep t3
      have t4 := hgv.keep t4
      have CK : Hid (∀ r : Int, rwK k nu ix = r → ∀ W, Gr wV W → Calls Tryd.prog 11 #[.agg #[.string ⟨#[116]⟩, .slice (some ⟨gC, 0, none⟩) 2 2, .slice none 0 0, .int .i64 0, .slice none 0 0], .slice (some ⟨gv, 0, none⟩) 2 2] W fun e w' => e = .returned (.int .i64 r) ∧ Gr W w') := hid (fun r hr W hW => by
        have := check_any (rwT gC ix) (some ⟨gv, 0, none⟩) 2 (rwL k nu) W (by simp [rwL]) (HT4.out.keep hW) (HV.out.keep hW) (rw_ok k hn nu) (by rw [rw_len]; cases nu <;> simp <;> omega)
        rw [rw_check, hr] at this
        exact this)
      have CK1 : Hid (∀ W, Gr wV W → Calls Tryd.prog 11 #[.agg #[.string ⟨#[116]⟩, .slice (some ⟨gC, 0, none⟩) 2 2, .slice none 0 0, .int .i64 0, .slice none 0 0], .slice (some ⟨gv, 0, none⟩) 1 2] W fun e w' => e = .returned (.int .i64 160) ∧ Gr W w') := hid (fun W hW => by
        have := check_any (rwT gC ix) (some ⟨gv, 0, none⟩) 2 [textV (xS k)] W (by simp) (HT4.out.keep hW) (vat_take (HV.out.keep hW) 1) (fun v hv => rw_ok k hn nu v (by simp at hv; subst hv; simp [rwL])) (by
          have := rw_len k nu
          simp only [joinV, rwL, List.flatMap_cons, List.flatMap_nil, List.append_nil, List.length_append] at this ⊢
          have h2 : (if nu = true then 1 else 9) ≤ 9 := by cases nu <;> simp
          omega)
        rw [rw_check1 gC k nu ix] at this
        exact this)
      have EN : Hid (∀ (r : Int) (sz : Nat), rwE k nu = r → (if r = 0 then k + 3 + (if nu = true then 1 else 9) else 0) = sz → ∀ W, Gr wV W → Calls Tryd.prog 12 #[.slice (some ⟨gv, 0, none⟩) 2 2] W fun e w' => ∃ oa c, e = .returned (.tuple #[.slice oa sz c, .int .i64 r]) ∧ Gr W w') := hid (fun r sz hr hsz W hW => by
        refine (rowenc_any (some ⟨gv, 0, none⟩) 2 (rwL k nu) W (by simp [rwL]) (HV.out.keep hW) (rw_ok k hn nu) (by rw [rw_len]; cases nu <;> simp <;> omega)).mono ?_
        rintro e w' ⟨oa, nn, cc, rfl, hnn, _, _, hg⟩
        rw [rw_len] at hnn ⊢
        refine ⟨oa, cc, ?_, hg⟩
        rw [hnn, ← hsz, ← hr]
        unfold rwE
        split <;> simp_all)
      clear hvat hgv HT4 HT HG HV
      have HWV := hid hwV
      have HGV := hid hgve
      clear hwV hwV2 hgve
      cases nu
      · go_upto_region 12 with (fail)
        change Code.wp _ _ _ _ (w3.alloc (.cells (cellsF vF (rwL k false)).toArray 32))
        rw [HWV.out, HGV.out]
        clear HWV HGV
        obtain ⟨b4, hb4⟩ : ∃ q, decide (40 < k) = q := ⟨_, rfl⟩
        have hb4i : decide ((40 : Int) < (k : Int)) = b4 := by rw [← hb4]; congr 1; simp; omega
        have HB4 := hid hb4
        clear hb4
        by_cases h48 : k + 3 + 9 ≤ 480
        · have hE : rwE k false = 0 := by unfold rwE; rw [if_pos (by simp; omega)]
          have HE := hid hE
          have g48 : decide ((k : Int) + 3 + 9 ≤ 480) = true := by rw [decide_eq_true_iff]; omega
          clear hE
          cases ix
          · cases b4
            · have C1 := CK.out 0 (by unfold rwK; rw [HB4.out, HE.out]; simp)
              have C2 := EN.out 0 (k + 3 + 9) HE.out (by simp)
              clear CK EN HE HB4
              go_wp2_with fail
              refine (C1 _ (Gr.refl _)).mono ?_
              rintro e w5 ⟨rfl, hg5⟩
              have t0 := hg5.keep t0
              have t1 := hg5.keep t1
              have t2 := hg5.keep t2
              have t3 := hg5.keep t3
              have t4 := hg5.keep t4
              have HG5 := hid hg5
              clear C1 hg5
              go_wp2_with fail
              refine (C2 _ HG5.out).mono ?_
              rintro e w6 ⟨oe, ce, rfl, hg6⟩
              have t0 := hg6.keep t0
              have t1 := hg6.keep t1
              have t2 := hg6.keep t2
              have t3 := hg6.keep t3
              have t4 := hg6.keep t4
              have HG6 := hid (HG5.out.trans hg6)
              have HG7 := hid (HG4.out.trans HG6.out)
              clear C2 hg6 HG5
              have A1 : ∀ W, Rg.Up w6 W → Calls Tryd.prog 8 #[] W fun e w' => e = .returned (.bool true) ∧ Gr W w' := fun W hW => AW.out W (HG7.out.trans hW)
              have A2 : ∀ W, Rg.Up w6 W → Calls Tryd.prog 11 #[.agg #[.string ⟨#[116]⟩, .slice (some ⟨gC, 0, none⟩) 2 2, .slice none 0 0, .int .i64 0, .slice none 0 0], .slice (some ⟨gv, 0, none⟩) 1 2] W fun e w' => e = .returned (.int .i64 160) ∧ Gr W w' := fun W hW => CK1.out W (HG6.out.trans hW)
              clear AW CK1
              have zt := lt_of_cell t0
              go_upto_region 23 with (fail)
              refine Rg.region_text 13 (Below.drew (Below.refl _ _)) (by kernel_rfl) (by kernel_rfl) (fun _ _ d _ _ h => by cases d <;> exact h) ?_
              simp only [List.append_eq, List.cons_append, List.nil_append, List.take_succ_cons, List.take_zero, List.drop_succ_cons, List.drop_zero]
              repeat (first
                  | (refine Rg.wpDets_skip (by rfl) ?_; simp only [Act.put, List.setIfInBounds_toArray, List.set_cons_zero, List.set_cons_succ])
                  | (refine Rg.wpDets_step ?_ (by rfl) (fun w hS => ?_) ?_
                     rotate_left
                     · have hc := Gr.cells hS
                       have hf := Gr.frees hS
                       go_simp
                       first
                       | (refine ⟨?_, Below.refl _ _⟩; with_reducible rfl)
                       | ((with_reducible refine (A1 _ hS).mono ?_); rintro e w' ⟨rfl, hg⟩; refine ⟨?_, hg⟩; with_reducible rfl)
                       | ((with_reducible refine (A2 _ hS).mono ?_); rintro e w' ⟨rfl, hg⟩; refine ⟨?_, hg⟩; with_reducible rfl)
                     simp only [Act.put, List.setIfInBounds_toArray, List.set_cons_zero, List.set_cons_succ]))
              refine Rg.wpDets_nil ?_
              refine Rg.wpFlts_nil ?_
              refine Rg.wpLays_nil ?_
              intro w7 hK
              have hg : Gr _ w7 := hK.up
              have hc := Gr.cells hg
              have hf := Gr.frees hg
              have hz := Gr.size hg
              try simp only [World.size_alloc, World.size_setCell, World.size_drew] at hz
              try have : 0 < w7.heap.size := by omega
              try have : w.heap.size < w7.heap.size := by omega
              try have : w.heap.size + 1 < w7.heap.size := by omega
              try have : w.heap.size + 1 + 1 < w7.heap.size := by omega
              try have : w.heap.size + 1 + 1 + 1 < w7.heap.size := by omega
              try have : w1.heap.size < w7.heap.size := by omega
              try have : w1.heap.size + 1 < w7.heap.size := by omega
              try have : w2.heap.size < w7.heap.size := by omega
              try have : w2.heap.size + 1 < w7.heap.size := by omega
              try have : w3.heap.size < w7.heap.size := by omega
              try have : w3.heap.size + 1 < w7.heap.size := by omega
              try have : w4.heap.size < w7.heap.size := by omega
              try have : w4.heap.size + 1 < w7.heap.size := by omega
              try have : w5.heap.size < w7.heap.size := by omega
              try have : w5.heap.size + 1 < w7.heap.size := by omega
              try have : w6.heap.size < w7.heap.size := by omega
              try have : w6.heap.size + 1 < w7.heap.size := by omega
              have HG8 := hid (HG7.out.trans hg)
              clear A1 A2
              go_wp2
              go_ret
              exact ⟨rfl, HG8.out⟩
            · have C1 := CK.out 0 (by unfold rwK; rw [HB4.out, HE.out]; simp)
              have C2 := EN.out 0 (k + 3 + 9) HE.out (by simp)
              clear CK EN HE HB4
              go_wp2_with fail
              refine (C1 _ (Gr.refl _)).mono ?_
              rintro e w5 ⟨rfl, hg5⟩
              have t0 := hg5.keep t0
              have t1 := hg5.keep t1
              have t2 := hg5.keep t2
              have t3 := hg5.keep t3
              have t4 := hg5.keep t4
              have HG5 := hid hg5
              clear C1 hg5
              go_wp2_with fail
              refine (C2 _ HG5.out).mono ?_
              rintro e w6 ⟨oe, ce, rfl, hg6⟩
              have t0 := hg6.keep t0
              have t1 := hg6.keep t1
              have t2 := hg6.keep t2
              have t3 := hg6.keep t3
              have t4 := hg6.keep t4
              have HG6 := hid (HG5.out.trans hg6)
              have HG7 := hid (HG4.out.trans HG6.out)
              clear C2 hg6 HG5
              have A1 : ∀ W, Rg.Up w6 W → Calls Tryd.prog 8 #[] W fun e w' => e = .returned (.bool true) ∧ Gr W w' := fun W hW => AW.out W (HG7.out.trans hW)
              have A2 : ∀ W, Rg.Up w6 W → Calls Tryd.prog 11 #[.agg #[.string ⟨#[116]⟩, .slice (some ⟨gC, 0, none⟩) 2 2, .slice none 0 0, .int .i64 0, .slice none 0 0], .slice (some ⟨gv, 0, none⟩) 1 2] W fun e w' => e = .returned (.int .i64 160) ∧ Gr W w' := fun W hW => CK1.out W (HG6.out.trans hW)
              clear AW CK1
              have zt := lt_of_cell t0
              go_upto_region 23 with (fail)
              refine Rg.region_text 13 (Below.drew (Below.refl _ _)) (by kernel_rfl) (by kernel_rfl) (fun _ _ d _ _ h => by cases d <;> exact h) ?_
              simp only [List.append_eq, List.cons_append, List.nil_append, List.take_succ_cons, List.take_zero, List.drop_succ_cons, List.drop_zero]
              repeat (first
                  | (refine Rg.wpDets_skip (by rfl) ?_; simp only [Act.put, List.setIfInBounds_toArray, List.set_cons_zero, List.set_cons_succ])
                  | (refine Rg.wpDets_step ?_ (by rfl) (fun w hS => ?_) ?_
                     rotate_left
                     · have hc := Gr.cells hS
                       have hf := Gr.frees hS
                       go_simp
                       first
                       | (refine ⟨?_, Below.refl _ _⟩; with_reducible rfl)
                       | ((with_reducible refine (A1 _ hS).mono ?_); rintro e w' ⟨rfl, hg⟩; refine ⟨?_, hg⟩; with_reducible rfl)
                       | ((with_reducible refine (A2 _ hS).mono ?_); rintro e w' ⟨rfl, hg⟩; refine ⟨?_, hg⟩; with_reducible rfl)
                     simp only [Act.put, List.setIfInBounds_toArray, List.set_cons_zero, List.set_cons_succ]))
              refine Rg.wpDets_nil ?_
              refine Rg.wpFlts_nil ?_
              refine Rg.wpLays_nil ?_
              intro w7 hK
              have hg : Gr _ w7 := hK.up
              have hc := Gr.cells hg
              have hf := Gr.frees hg
              have hz := Gr.size hg
              try simp only [World.size_alloc, World.size_setCell, World.size_drew] at hz
              try have : 0 < w7.heap.size := by omega
              try have : w.heap.size < w7.heap.size := by omega
              try have : w.heap.size + 1 < w7.heap.size := by omega
              try have : w.heap.size + 1 + 1 < w7.heap.size := by omega
              try have : w.heap.size + 1 + 1 + 1 < w7.heap.size := by omega
              try have : w1.heap.size < w7.heap.size := by omega
              try have : w1.heap.size + 1 < w7.heap.size := by omega
              try have : w2.heap.size < w7.heap.size := by omega
              try have : w2.heap.size + 1 < w7.heap.size := by omega
              try have : w3.heap.size < w7.heap.size := by omega
              try have : w3.heap.size + 1 < w7.heap.size := by omega
              try have : w4.heap.size < w7.heap.size := by omega
              try have : w4.heap.size + 1 < w7.heap.size := by omega
              try have : w5.heap.size < w7.heap.size := by omega
              try have : w5.heap.size + 1 < w7.heap.size := by omega
              try have : w6.heap.size < w7.heap.size := by omega
              try have : w6.heap.size + 1 < w7.heap.size := by omega
              have HG8 := hid (HG7.out.trans hg)
              clear A1 A2
              go_wp2
              go_ret
              exact ⟨rfl, HG8.out⟩
          · cases b4
            · have C1 := CK.out 0 (by unfold rwK; rw [HB4.out, HE.out]; simp)
              have C2 := EN.out 0 (k + 3 + 9) HE.out (by simp)
              clear CK EN HE HB4
              go_wp2_with fail
              refine (C1 _ (Gr.refl _)).mono ?_
              rintro e w5 ⟨rfl, hg5⟩
              have t0 := hg5.keep t0
              have t1 := hg5.keep t1
              have t2 := hg5.keep t2
              have t3 := hg5.keep t3
              have t4 := hg5.keep t4
              have HG5 := hid hg5
              clear C1 hg5
              go_wp2_with fail
              refine (C2 _ HG5.out).mono ?_
              rintro e w6 ⟨oe, ce, rfl, hg6⟩
              have t0 := hg6.keep t0
              have t1 := hg6.keep t1
              have t2 := hg6.keep t2
              have t3 := hg6.keep t3
              have t4 := hg6.keep t4
              have HG6 := hid (HG5.out.trans hg6)
              have HG7 := hid (HG4.out.trans HG6.out)
              clear C2 hg6 HG5
              have A1 : ∀ W, Rg.Up w6 W → Calls Tryd.prog 8 #[] W fun e w' => e = .returned (.bool true) ∧ Gr W w' := fun W hW => AW.out W (HG7.out.trans hW)
              have A2 : ∀ W, Rg.Up w6 W → Calls Tryd.prog 11 #[.agg #[.string ⟨#[116]⟩, .slice (some ⟨gC, 0, none⟩) 2 2, .slice none 0 0, .int .i64 0, .slice none 0 0], .slice (some ⟨gv, 0, none⟩) 1 2] W fun e w' => e = .returned (.int .i64 160) ∧ Gr W w' := fun W hW => CK1.out W (HG6.out.trans hW)
              clear AW CK1
              have zt := lt_of_cell t0
              go_upto_region 23 with (fail)
              refine Rg.region_text 13 (Below.drew (Below.refl _ _)) (by kernel_rfl) (by kernel_rfl) (fun _ _ d _ _ h => by cases d <;> exact h) ?_
              simp only [List.append_eq, List.cons_append, List.nil_append, List.take_succ_cons, List.take_zero, List.drop_succ_cons, List.drop_zero]
              repeat (first
                  | (refine Rg.wpDets_skip (by rfl) ?_; simp only [Act.put, List.setIfInBounds_toArray, List.set_cons_zero, List.set_cons_succ])
                  | (refine Rg.wpDets_step ?_ (by rfl) (fun w hS => ?_) ?_
                     rotate_left
                     · have hc := Gr.cells hS
                       have hf := Gr.frees hS
                       go_simp
                       first
                       | (refine ⟨?_, Below.refl _ _⟩; with_reducible rfl)
                       | ((with_reducible refine (A1 _ hS).mono ?_); rintro e w' ⟨rfl, hg⟩; refine ⟨?_, hg⟩; with_reducible rfl)
                       | ((with_reducible refine (A2 _ hS).mono ?_); rintro e w' ⟨rfl, hg⟩; refine ⟨?_, hg⟩; with_reducible rfl)
                     simp only [Act.put, List.setIfInBounds_toArray, List.set_cons_zero, List.set_cons_succ]))
              refine Rg.wpDets_nil ?_
              refine Rg.wpFlts_nil ?_
              refine Rg.wpLays_nil ?_
              intro w7 hK
              have hg : Gr _ w7 := hK.up
              have hc := Gr.cells hg
              have hf := Gr.frees hg
              have hz := Gr.size hg
              try simp only [World.size_alloc, World.size_setCell, World.size_drew] at hz
              try have : 0 < w7.heap.size := by omega
              try have : w.heap.size < w7.heap.size := by omega
              try have : w.heap.size + 1 < w7.heap.size := by omega
              try have : w.heap.size + 1 + 1 < w7.heap.size := by omega
              try have : w.heap.size + 1 + 1 + 1 < w7.heap.size := by omega
              try have : w1.heap.size < w7.heap.size := by omega
              try have : w1.heap.size + 1 < w7.heap.size := by omega
              try have : w2.heap.size < w7.heap.size := by omega
              try have : w2.heap.size + 1 < w7.heap.size := by omega
              try have : w3.heap.size < w7.heap.size := by omega
              try have : w3.heap.size + 1 < w7.heap.size := by omega
              try have : w4.heap.size < w7.heap.size := by omega
              try have : w4.heap.size + 1 < w7.heap.size := by omega
              try have : w5.heap.size < w7.heap.size := by omega
              try have : w5.heap.size + 1 < w7.heap.size := by omega
              try have : w6.heap.size < w7.heap.size := by omega
              try have : w6.heap.size + 1 < w7.heap.size := by omega
              have HG8 := hid (HG7.out.trans hg)
              clear A1 A2
              go_wp2
              go_ret
              exact ⟨rfl, HG8.out⟩
            · have C1 := CK.out 170 (by unfold rwK; rw [HB4.out]; simp)
              have C2 := EN.out 0 (k + 3 + 9) HE.out (by simp)
              clear CK EN HE HB4
              go_wp2_with fail
              refine (C1 _ (Gr.refl _)).mono ?_
              rintro e w5 ⟨rfl, hg5⟩
              have t0 := hg5.keep t0
              have t1 := hg5.keep t1
              have t2 := hg5.keep t2
              have t3 := hg5.keep t3
              have t4 := hg5.keep t4
              have HG5 := hid hg5
              clear C1 hg5
              go_wp2_with fail
              refine (C2 _ HG5.out).mono ?_
              rintro e w6 ⟨oe, ce, rfl, hg6⟩
              have t0 := hg6.keep t0
              have t1 := hg6.keep t1
              have t2 := hg6.keep t2
              have t3 := hg6.keep t3
              have t4 := hg6.keep t4
              have HG6 := hid (HG5.out.trans hg6)
              have HG7 := hid (HG4.out.trans HG6.out)
              clear C2 hg6 HG5
              have A1 := AW.out w6 HG7.out
              clear AW CK1
              go_wp2_with fail
              refine A1.mono ?_
              rintro e w7 ⟨rfl, hg7⟩
              have HG8 := hid (HG7.out.trans hg7)
              clear A1 hg7
              go_wp2
              go_ret
              exact ⟨rfl, HG8.out⟩
        · have hE : rwE k false = 170 := by unfold rwE; rw [if_neg (by simp; omega)]
          have HE := hid hE
          have g48 : decide ((k : Int) + 3 + 9 ≤ 480) = false := by rw [decide_eq_false_iff_not]; omega
          clear hE
          cases ix
          · cases b4
            · have C1 := CK.out 170 (by unfold rwK; rw [HB4.out, HE.out]; simp)
              have C2 := EN.out 170 (0) HE.out (by simp)
              clear CK EN HE HB4
              go_wp2_with fail
              refine (C1 _ (Gr.refl _)).mono ?_
              rintro e w5 ⟨rfl, hg5⟩
              have t0 := hg5.keep t0
              have t1 := hg5.keep t1
              have t2 := hg5.keep t2
              have t3 := hg5.keep t3
              have t4 := hg5.keep t4
              have HG5 := hid hg5
              clear C1 hg5
              go_wp2_with fail
              refine (C2 _ HG5.out).mono ?_
              rintro e w6 ⟨oe, ce, rfl, hg6⟩
              have t0 := hg6.keep t0
              have t1 := hg6.keep t1
              have t2 := hg6.keep t2
              have t3 := hg6.keep t3
              have t4 := hg6.keep t4
              have HG6 := hid (HG5.out.trans hg6)
              have HG7 := hid (HG4.out.trans HG6.out)
              clear C2 hg6 HG5
              have A1 : ∀ W, Rg.Up w6 W → Calls Tryd.prog 8 #[] W fun e w' => e = .returned (.bool true) ∧ Gr W w' := fun W hW => AW.out W (HG7.out.trans hW)
              have A2 : ∀ W, Rg.Up w6 W → Calls Tryd.prog 11 #[.agg #[.string ⟨#[116]⟩, .slice (some ⟨gC, 0, none⟩) 2 2, .slice none 0 0, .int .i64 0, .slice none 0 0], .slice (some ⟨gv, 0, none⟩) 1 2] W fun e w' => e = .returned (.int .i64 160) ∧ Gr W w' := fun W hW => CK1.out W (HG6.out.trans hW)
              clear AW CK1
              have zt := lt_of_cell t0
              go_upto_region 23 with (fail)
              refine Rg.region_text 13 (Below.drew (Below.refl _ _)) (by kernel_rfl) (by kernel_rfl) (fun _ _ d _ _ h => by cases d <;> exact h) ?_
              simp only [List.append_eq, List.cons_append, List.nil_append, List.take_succ_cons, List.take_zero, List.drop_succ_cons, List.drop_zero]
              repeat (first
                  | (refine Rg.wpDets_skip (by rfl) ?_; simp only [Act.put, List.setIfInBounds_toArray, List.set_cons_zero, List.set_cons_succ])
                  | (refine Rg.wpDets_step ?_ (by rfl) (fun w hS => ?_) ?_
                     rotate_left
                     · have hc := Gr.cells hS
                       have hf := Gr.frees hS
                       go_simp
                       first
                       | (refine ⟨?_, Below.refl _ _⟩; with_reducible rfl)
                       | ((with_reducible refine (A1 _ hS).mono ?_); rintro e w' ⟨rfl, hg⟩; refine ⟨?_, hg⟩; with_reducible rfl)
                       | ((with_reducible refine (A2 _ hS).mono ?_); rintro e w' ⟨rfl, hg⟩; refine ⟨?_, hg⟩; with_reducible rfl)
                     simp only [Act.put, List.setIfInBounds_toArray, List.set_cons_zero, List.set_cons_succ]))
              refine Rg.wpDets_nil ?_
              refine Rg.wpFlts_nil ?_
              refine Rg.wpLays_nil ?_
              intro w7 hK
              have hg : Gr _ w7 := hK.up
              have hc := Gr.cells hg
              have hf := Gr.frees hg
              have hz := Gr.size hg
              try simp only [World.size_alloc, World.size_setCell, World.size_drew] at hz
              try have : 0 < w7.heap.size := by omega
              try have : w.heap.size < w7.heap.size := by omega
              try have : w.heap.size + 1 < w7.heap.size := by omega
              try have : w.heap.size + 1 + 1 < w7.heap.size := by omega
              try have : w.heap.size + 1 + 1 + 1 < w7.heap.size := by omega
              try have : w1.heap.size < w7.heap.size := by omega
              try have : w1.heap.size + 1 < w7.heap.size := by omega
              try have : w2.heap.size < w7.heap.size := by omega
              try have : w2.heap.size + 1 < w7.heap.size := by omega
              try have : w3.heap.size < w7.heap.size := by omega
              try have : w3.heap.size + 1 < w7.heap.size := by omega
              try have : w4.heap.size < w7.heap.size := by omega
              try have : w4.heap.size + 1 < w7.heap.size := by omega
              try have : w5.heap.size < w7.heap.size := by omega
              try have : w5.heap.size + 1 < w7.heap.size := by omega
              try have : w6.heap.size < w7.heap.size := by omega
              try have : w6.heap.size + 1 < w7.heap.size := by omega
              have HG8 := hid (HG7.out.trans hg)
              clear A1 A2
              go_wp2
              go_ret
              exact ⟨rfl, HG8.out⟩
            · have C1 := CK.out 170 (by unfold rwK; rw [HB4.out, HE.out]; simp)
              have C2 := EN.out 170 (0) HE.out (by simp)
              clear CK EN HE HB4
              go_wp2_with fail
              refine (C1 _ (Gr.refl _)).mono ?_
              rintro e w5 ⟨rfl, hg5⟩
              have t0 := hg5.keep t0
              have t1 := hg5.keep t1
              have t2 := hg5.keep t2
              have t3 := hg5.keep t3
              have t4 := hg5.keep t4
              have HG5 := hid hg5
              clear C1 hg5
              go_wp2_with fail
              refine (C2 _ HG5.out).mono ?_
              rintro e w6 ⟨oe, ce, rfl, hg6⟩
              have t0 := hg6.keep t0
              have t1 := hg6.keep t1
              have t2 := hg6.keep t2
              have t3 := hg6.keep t3
              have t4 := hg6.keep t4
              have HG6 := hid (HG5.out.trans hg6)
              have HG7 := hid (HG4.out.trans HG6.out)
              clear C2 hg6 HG5
              have A1 : ∀ W, Rg.Up w6 W → Calls Tryd.prog 8 #[] W fun e w' => e = .returned (.bool true) ∧ Gr W w' := fun W hW => AW.out W (HG7.out.trans hW)
              have A2 : ∀ W, Rg.Up w6 W → Calls Tryd.prog 11 #[.agg #[.string ⟨#[116]⟩, .slice (some ⟨gC, 0, none⟩) 2 2, .slice none 0 0, .int .i64 0, .slice none 0 0], .slice (some ⟨gv, 0, none⟩) 1 2] W fun e w' => e = .returned (.int .i64 160) ∧ Gr W w' := fun W hW => CK1.out W (HG6.out.trans hW)
              clear AW CK1
              have zt := lt_of_cell t0
              go_upto_region 23 with (fail)
              refine Rg.region_text 13 (Below.drew (Below.refl _ _)) (by kernel_rfl) (by kernel_rfl) (fun _ _ d _ _ h => by cases d <;> exact h) ?_
              simp only [List.append_eq, List.cons_append, List.nil_append, List.take_succ_cons, List.take_zero, List.drop_succ_cons, List.drop_zero]
              repeat (first
                  | (refine Rg.wpDets_skip (by rfl) ?_; simp only [Act.put, List.setIfInBounds_toArray, List.set_cons_zero, List.set_cons_succ])
                  | (refine Rg.wpDets_step ?_ (by rfl) (fun w hS => ?_) ?_
                     rotate_left
                     · have hc := Gr.cells hS
                       have hf := Gr.frees hS
                       go_simp
                       first
                       | (refine ⟨?_, Below.refl _ _⟩; with_reducible rfl)
                       | ((with_reducible refine (A1 _ hS).mono ?_); rintro e w' ⟨rfl, hg⟩; refine ⟨?_, hg⟩; with_reducible rfl)
                       | ((with_reducible refine (A2 _ hS).mono ?_); rintro e w' ⟨rfl, hg⟩; refine ⟨?_, hg⟩; with_reducible rfl)
                     simp only [Act.put, List.setIfInBounds_toArray, List.set_cons_zero, List.set_cons_succ]))
              refine Rg.wpDets_nil ?_
              refine Rg.wpFlts_nil ?_
              refine Rg.wpLays_nil ?_
              intro w7 hK
              have hg : Gr _ w7 := hK.up
              have hc := Gr.cells hg
              have hf := Gr.frees hg
              have hz := Gr.size hg
              try simp only [World.size_alloc, World.size_setCell, World.size_drew] at hz
              try have : 0 < w7.heap.size := by omega
              try have : w.heap.size < w7.heap.size := by omega
              try have : w.heap.size + 1 < w7.heap.size := by omega
              try have : w.heap.size + 1 + 1 < w7.heap.size := by omega
              try have : w.heap.size + 1 + 1 + 1 < w7.heap.size := by omega
              try have : w1.heap.size < w7.heap.size := by omega
              try have : w1.heap.size + 1 < w7.heap.size := by omega
              try have : w2.heap.size < w7.heap.size := by omega
              try have : w2.heap.size + 1 < w7.heap.size := by omega
              try have : w3.heap.size < w7.heap.size := by omega
              try have : w3.heap.size + 1 < w7.heap.size := by omega
              try have : w4.heap.size < w7.heap.size := by omega
              try have : w4.heap.size + 1 < w7.heap.size := by omega
              try have : w5.heap.size < w7.heap.size := by omega
              try have : w5.heap.size + 1 < w7.heap.size := by omega
              try have : w6.heap.size < w7.heap.size := by omega
              try have : w6.heap.size + 1 < w7.heap.size := by omega
              have HG8 := hid (HG7.out.trans hg)
              clear A1 A2
              go_wp2
              go_ret
              exact ⟨rfl, HG8.out⟩
          · cases b4
            · have C1 := CK.out 170 (by unfold rwK; rw [HB4.out, HE.out]; simp)
              have C2 := EN.out 170 (0) HE.out (by simp)
              clear CK EN HE HB4
              go_wp2_with fail
              refine (C1 _ (Gr.refl _)).mono ?_
              rintro e w5 ⟨rfl, hg5⟩
              have t0 := hg5.keep t0
              have t1 := hg5.keep t1
              have t2 := hg5.keep t2
              have t3 := hg5.keep t3
              have t4 := hg5.keep t4
              have HG5 := hid hg5
              clear C1 hg5
              go_wp2_with fail
              refine (C2 _ HG5.out).mono ?_
              rintro e w6 ⟨oe, ce, rfl, hg6⟩
              have t0 := hg6.keep t0
              have t1 := hg6.keep t1
              have t2 := hg6.keep t2
              have t3 := hg6.keep t3
              have t4 := hg6.keep t4
              have HG6 := hid (HG5.out.trans hg6)
              have HG7 := hid (HG4.out.trans HG6.out)
              clear C2 hg6 HG5
              have A1 : ∀ W, Rg.Up w6 W → Calls Tryd.prog 8 #[] W fun e w' => e = .returned (.bool true) ∧ Gr W w' := fun W hW => AW.out W (HG7.out.trans hW)
              have A2 : ∀ W, Rg.Up w6 W → Calls Tryd.prog 11 #[.agg #[.string ⟨#[116]⟩, .slice (some ⟨gC, 0, none⟩) 2 2, .slice none 0 0, .int .i64 0, .slice none 0 0], .slice (some ⟨gv, 0, none⟩) 1 2] W fun e w' => e = .returned (.int .i64 160) ∧ Gr W w' := fun W hW => CK1.out W (HG6.out.trans hW)
              clear AW CK1
              have zt := lt_of_cell t0
              go_upto_region 23 with (fail)
              refine Rg.region_text 13 (Below.drew (Below.refl _ _)) (by kernel_rfl) (by kernel_rfl) (fun _ _ d _ _ h => by cases d <;> exact h) ?_
              simp only [List.append_eq, List.cons_append, List.nil_append, List.take_succ_cons, List.take_zero, List.drop_succ_cons, List.drop_zero]
              repeat (first
                  | (refine Rg.wpDets_skip (by rfl) ?_; simp only [Act.put, List.setIfInBounds_toArray, List.set_cons_zero, List.set_cons_succ])
                  | (refine Rg.wpDets_step ?_ (by rfl) (fun w hS => ?_) ?_
                     rotate_left
                     · have hc := Gr.cells hS
                       have hf := Gr.frees hS
                       go_simp
                       first
                       | (refine ⟨?_, Below.refl _ _⟩; with_reducible rfl)
                       | ((with_reducible refine (A1 _ hS).mono ?_); rintro e w' ⟨rfl, hg⟩; refine ⟨?_, hg⟩; with_reducible rfl)
                       | ((with_reducible refine (A2 _ hS).mono ?_); rintro e w' ⟨rfl, hg⟩; refine ⟨?_, hg⟩; with_reducible rfl)
                     simp only [Act.put, List.setIfInBounds_toArray, List.set_cons_zero, List.set_cons_succ]))
              refine Rg.wpDets_nil ?_
              refine Rg.wpFlts_nil ?_
              refine Rg.wpLays_nil ?_
              intro w7 hK
              have hg : Gr _ w7 := hK.up
              have hc := Gr.cells hg
              have hf := Gr.frees hg
              have hz := Gr.size hg
              try simp only [World.size_alloc, World.size_setCell, World.size_drew] at hz
              try have : 0 < w7.heap.size := by omega
              try have : w.heap.size < w7.heap.size := by omega
              try have : w.heap.size + 1 < w7.heap.size := by omega
              try have : w.heap.size + 1 + 1 < w7.heap.size := by omega
              try have : w.heap.size + 1 + 1 + 1 < w7.heap.size := by omega
              try have : w1.heap.size < w7.heap.size := by omega
              try have : w1.heap.size + 1 < w7.heap.size := by omega
              try have : w2.heap.size < w7.heap.size := by omega
              try have : w2.heap.size + 1 < w7.heap.size := by omega
              try have : w3.heap.size < w7.heap.size := by omega
              try have : w3.heap.size + 1 < w7.heap.size := by omega
              try have : w4.heap.size < w7.heap.size := by omega
              try have : w4.heap.size + 1 < w7.heap.size := by omega
              try have : w5.heap.size < w7.heap.size := by omega
              try have : w5.heap.size + 1 < w7.heap.size := by omega
              try have : w6.heap.size < w7.heap.size := by omega
              try have : w6.heap.size + 1 < w7.heap.size := by omega
              have HG8 := hid (HG7.out.trans hg)
              clear A1 A2
              go_wp2
              go_ret
              exact ⟨rfl, HG8.out⟩
            · have C1 := CK.out 170 (by unfold rwK; rw [HB4.out]; simp)
              have C2 := EN.out 170 (0) HE.out (by simp)
              clear CK EN HE HB4
              go_wp2_with fail
              refine (C1 _ (Gr.refl _)).mono ?_
              rintro e w5 ⟨rfl, hg5⟩
              have t0 := hg5.keep t0
              have t1 := hg5.keep t1
              have t2 := hg5.keep t2
              have t3 := hg5.keep t3
              have t4 := hg5.keep t4
              have HG5 := hid hg5
              clear C1 hg5
              go_wp2_with fail
              refine (C2 _ HG5.out).mono ?_
              rintro e w6 ⟨oe, ce, rfl, hg6⟩
              have t0 := hg6.keep t0
              have t1 := hg6.keep t1
              have t2 := hg6.keep t2
              have t3 := hg6.keep t3
              have t4 := hg6.keep t4
              have HG6 := hid (HG5.out.trans hg6)
              have HG7 := hid (HG4.out.trans HG6.out)
              clear C2 hg6 HG5
              have A1 := AW.out w6 HG7.out
              clear AW CK1
              go_wp2_with fail
              refine A1.mono ?_
              rintro e w7 ⟨rfl, hg7⟩
              have HG8 := hid (HG7.out.trans hg7)
              clear A1 hg7
              go_wp2
              go_ret
              exact ⟨rfl, HG8.out⟩
      · go_upto_region 12 with (fail)
        change Code.wp _ _ _ _ (w3.alloc (.cells (cellsF vF (rwL k true)).toArray 32))
        rw [HWV.out, HGV.out]
        clear HWV HGV
        obtain ⟨b4, hb4⟩ : ∃ q, decide (40 < k) = q := ⟨_, rfl⟩
        have hb4i : decide ((40 : Int) < (k : Int)) = b4 := by rw [← hb4]; congr 1; simp; omega
        have HB4 := hid hb4
        clear hb4
        by_cases h48 : k + 3 + 1 ≤ 480
        · have hE : rwE k true = 0 := by unfold rwE; rw [if_pos (by simp; omega)]
          have HE := hid hE
          have g48 : decide ((k : Int) + 3 + 1 ≤ 480) = true := by rw [decide_eq_true_iff]; omega
          clear hE
          cases ix
          · cases b4
            · have C1 := CK.out 163 (by unfold rwK; rw [HB4.out]; simp)
              have C2 := EN.out 0 (k + 3 + 1) HE.out (by simp)
              clear CK EN HE HB4
              go_wp2_with fail
              refine (C1 _ (Gr.refl _)).mono ?_
              rintro e w5 ⟨rfl, hg5⟩
              have t0 := hg5.keep t0
              have t1 := hg5.keep t1
              have t2 := hg5.keep t2
              have t3 := hg5.keep t3
              have t4 := hg5.keep t4
              have HG5 := hid hg5
              clear C1 hg5
              go_wp2_with fail
              refine (C2 _ HG5.out).mono ?_
              rintro e w6 ⟨oe, ce, rfl, hg6⟩
              have t0 := hg6.keep t0
              have t1 := hg6.keep t1
              have t2 := hg6.keep t2
              have t3 := hg6.keep t3
              have t4 := hg6.keep t4
              have HG6 := hid (HG5.out.trans hg6)
              have HG7 := hid (HG4.out.trans HG6.out)
              clear C2 hg6 HG5
              have A1 := AW.out w6 HG7.out
              clear AW CK1
              go_wp2_with fail
              refine A1.mono ?_
              rintro e w7 ⟨rfl, hg7⟩
              have HG8 := hid (HG7.out.trans hg7)
              clear A1 hg7
              go_wp2
              go_ret
              exact ⟨rfl, HG8.out⟩
            · have C1 := CK.out 163 (by unfold rwK; rw [HB4.out]; simp)
              have C2 := EN.out 0 (k + 3 + 1) HE.out (by simp)
              clear CK EN HE HB4
              go_wp2_with fail
              refine (C1 _ (Gr.refl _)).mono ?_
              rintro e w5 ⟨rfl, hg5⟩
              have t0 := hg5.keep t0
              have t1 := hg5.keep t1
              have t2 := hg5.keep t2
              have t3 := hg5.keep t3
              have t4 := hg5.keep t4
              have HG5 := hid hg5
              clear C1 hg5
              go_wp2_with fail
              refine (C2 _ HG5.out).mono ?_
              rintro e w6 ⟨oe, ce, rfl, hg6⟩
              have t0 := hg6.keep t0
              have t1 := hg6.keep t1
              have t2 := hg6.keep t2
              have t3 := hg6.keep t3
              have t4 := hg6.keep t4
              have HG6 := hid (HG5.out.trans hg6)
              have HG7 := hid (HG4.out.trans HG6.out)
              clear C2 hg6 HG5
              have A1 := AW.out w6 HG7.out
              clear AW CK1
              go_wp2_with fail
              refine A1.mono ?_
              rintro e w7 ⟨rfl, hg7⟩
              have HG8 := hid (HG7.out.trans hg7)
              clear A1 hg7
              go_wp2
              go_ret
              exact ⟨rfl, HG8.out⟩
          · cases b4
            · have C1 := CK.out 163 (by unfold rwK; rw [HB4.out]; simp)
              have C2 := EN.out 0 (k + 3 + 1) HE.out (by simp)
              clear CK EN HE HB4
              go_wp2_with fail
              refine (C1 _ (Gr.refl _)).mono ?_
              rintro e w5 ⟨rfl, hg5⟩
              have t0 := hg5.keep t0
              have t1 := hg5.keep t1
              have t2 := hg5.keep t2
              have t3 := hg5.keep t3
              have t4 := hg5.keep t4
              have HG5 := hid hg5
              clear C1 hg5
              go_wp2_with fail
              refine (C2 _ HG5.out).mono ?_
              rintro e w6 ⟨oe, ce, rfl, hg6⟩
              have t0 := hg6.keep t0
              have t1 := hg6.keep t1
              have t2 := hg6.keep t2
              have t3 := hg6.keep t3
              have t4 := hg6.keep t4
              have HG6 := hid (HG5.out.trans hg6)
              have HG7 := hid (HG4.out.trans HG6.out)
              clear C2 hg6 HG5
              have A1 := AW.out w6 HG7.out
              clear AW CK1
              go_wp2_with fail
              refine A1.mono ?_
              rintro e w7 ⟨rfl, hg7⟩
              have HG8 := hid (HG7.out.trans hg7)
              clear A1 hg7
              go_wp2
              go_ret
              exact ⟨rfl, HG8.out⟩
            · have C1 := CK.out 170 (by unfold rwK; rw [HB4.out]; simp)
              have C2 := EN.out 0 (k + 3 + 1) HE.out (by simp)
              clear CK EN HE HB4
              go_wp2_with fail
              refine (C1 _ (Gr.refl _)).mono ?_
              rintro e w5 ⟨rfl, hg5⟩
              have t0 := hg5.keep t0
              have t1 := hg5.keep t1
              have t2 := hg5.keep t2
              have t3 := hg5.keep t3
              have t4 := hg5.keep t4
              have HG5 := hid hg5
              clear C1 hg5
              go_wp2_with fail
              refine (C2 _ HG5.out).mono ?_
              rintro e w6 ⟨oe, ce, rfl, hg6⟩
              have t0 := hg6.keep t0
              have t1 := hg6.keep t1
              have t2 := hg6.keep t2
              have t3 := hg6.keep t3
              have t4 := hg6.keep t4
              have HG6 := hid (HG5.out.trans hg6)
              have HG7 := hid (HG4.out.trans HG6.out)
              clear C2 hg6 HG5
              have A1 := AW.out w6 HG7.out
              clear AW CK1
              go_wp2_with fail
              refine A1.mono ?_
              rintro e w7 ⟨rfl, hg7⟩
              have HG8 := hid (HG7.out.trans hg7)
              clear A1 hg7
              go_wp2
              go_ret
              exact ⟨rfl, HG8.out⟩
        · have hE : rwE k true = 170 := by unfold rwE; rw [if_neg (by simp; omega)]
          have HE := hid hE
          have g48 : decide ((k : Int) + 3 + 1 ≤ 480) = false := by rw [decide_eq_false_iff_not]; omega
          clear hE
          cases ix
          · cases b4
            · have C1 := CK.out 163 (by unfold rwK; rw [HB4.out]; simp)
              have C2 := EN.out 170 (0) HE.out (by simp)
              clear CK EN HE HB4
              go_wp2_with fail
              refine (C1 _ (Gr.refl _)).mono ?_
              rintro e w5 ⟨rfl, hg5⟩
              have t0 := hg5.keep t0
              have t1 := hg5.keep t1
              have t2 := hg5.keep t2
              have t3 := hg5.keep t3
              have t4 := hg5.keep t4
              have HG5 := hid hg5
              clear C1 hg5
              go_wp2_with fail
              refine (C2 _ HG5.out).mono ?_
              rintro e w6 ⟨oe, ce, rfl, hg6⟩
              have t0 := hg6.keep t0
              have t1 := hg6.keep t1
              have t2 := hg6.keep t2
              have t3 := hg6.keep t3
              have t4 := hg6.keep t4
              have HG6 := hid (HG5.out.trans hg6)
              have HG7 := hid (HG4.out.trans HG6.out)
              clear C2 hg6 HG5
              have A1 := AW.out w6 HG7.out
              clear AW CK1
              go_wp2_with fail
              refine A1.mono ?_
              rintro e w7 ⟨rfl, hg7⟩
              have HG8 := hid (HG7.out.trans hg7)
              clear A1 hg7
              go_wp2
              go_ret
              exact ⟨rfl, HG8.out⟩
            · have C1 := CK.out 163 (by unfold rwK; rw [HB4.out]; simp)
              have C2 := EN.out 170 (0) HE.out (by simp)
              clear CK EN HE HB4
              go_wp2_with fail
              refine (C1 _ (Gr.refl _)).mono ?_
              rintro e w5 ⟨rfl, hg5⟩
              have t0 := hg5.keep t0
              have t1 := hg5.keep t1
              have t2 := hg5.keep t2
              have t3 := hg5.keep t3
              have t4 := hg5.keep t4
              have HG5 := hid hg5
              clear C1 hg5
              go_wp2_with fail
              refine (C2 _ HG5.out).mono ?_
              rintro e w6 ⟨oe, ce, rfl, hg6⟩
              have t0 := hg6.keep t0
              have t1 := hg6.keep t1
              have t2 := hg6.keep t2
              have t3 := hg6.keep t3
              have t4 := hg6.keep t4
              have HG6 := hid (HG5.out.trans hg6)
              have HG7 := hid (HG4.out.trans HG6.out)
              clear C2 hg6 HG5
              have A1 := AW.out w6 HG7.out
              clear AW CK1
              go_wp2_with fail
              refine A1.mono ?_
              rintro e w7 ⟨rfl, hg7⟩
              have HG8 := hid (HG7.out.trans hg7)
              clear A1 hg7
              go_wp2
              go_ret
              exact ⟨rfl, HG8.out⟩
          · cases b4
            · have C1 := CK.out 163 (by unfold rwK; rw [HB4.out]; simp)
              have C2 := EN.out 170 (0) HE.out (by simp)
              clear CK EN HE HB4
              go_wp2_with fail
              refine (C1 _ (Gr.refl _)).mono ?_
              rintro e w5 ⟨rfl, hg5⟩
              have t0 := hg5.keep t0
              have t1 := hg5.keep t1
              have t2 := hg5.keep t2
              have t3 := hg5.keep t3
              have t4 := hg5.keep t4
              have HG5 := hid hg5
              clear C1 hg5
              go_wp2_with fail
              refine (C2 _ HG5.out).mono ?_
              rintro e w6 ⟨oe, ce, rfl, hg6⟩
              have t0 := hg6.keep t0
              have t1 := hg6.keep t1
              have t2 := hg6.keep t2
              have t3 := hg6.keep t3
              have t4 := hg6.keep t4
              have HG6 := hid (HG5.out.trans hg6)
              have HG7 := hid (HG4.out.trans HG6.out)
              clear C2 hg6 HG5
              have A1 := AW.out w6 HG7.out
              clear AW CK1
              go_wp2_with fail
              refine A1.mono ?_
              rintro e w7 ⟨rfl, hg7⟩
              have HG8 := hid (HG7.out.trans hg7)
              clear A1 hg7
              go_wp2
              go_ret
              exact ⟨rfl, HG8.out⟩
            · have C1 := CK.out 170 (by unfold rwK; rw [HB4.out]; simp)
              have C2 := EN.out 170 (0) HE.out (by simp)
              clear CK EN HE HB4
              go_wp2_with fail
              refine (C1 _ (Gr.refl _)).mono ?_
              rintro e w5 ⟨rfl, hg5⟩
              have t0 := hg5.keep t0
              have t1 := hg5.keep t1
              have t2 := hg5.keep t2
              have t3 := hg5.keep t3
              have t4 := hg5.keep t4
              have HG5 := hid hg5
              clear C1 hg5
              go_wp2_with fail
              refine (C2 _ HG5.out).mono ?_
              rintro e w6 ⟨oe, ce, rfl, hg6⟩
              have t0 := hg6.keep t0
              have t1 := hg6.keep t1
              have t2 := hg6.keep t2
              have t3 := hg6.keep t3
              have t4 := hg6.keep t4
              have HG6 := hid (HG5.out.trans hg6)
              have HG7 := hid (HG4.out.trans HG6.out)
              clear C2 hg6 HG5
              have A1 := AW.out w6 HG7.out
              clear AW CK1
              go_wp2_with fail
              refine A1.mono ?_
              rintro e w7 ⟨rfl, hg7⟩
              have HG8 := hid (HG7.out.trans hg7)
              clear A1 hg7
              go_wp2
              go_ret
              exact ⟨rfl, HG8.out⟩
end Go.Proofs.YtacbhkmkknicoaaDoor

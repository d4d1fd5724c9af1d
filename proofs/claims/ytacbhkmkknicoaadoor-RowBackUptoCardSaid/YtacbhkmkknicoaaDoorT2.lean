/- row: a table that bytes say. (By mkT2.py.) -/
import Derived.Test.YtacbhkmkknicoaaDoorT1
import Derived.Test.YtacbhkmkknicoaaDoorX1
namespace Go.Proofs.YtacbhkmkknicoaaDoor
open Go.RowKit
set_option linter.unusedSimpArgs false
set_option linter.unusedVariables false
attribute [local go_sem] Rg.leads_value Rg.leads_skip Rg.leads_enter Rg.brings_value Rg.brings_skip Rg.brings_enter Rg.bringsG_value Rg.bringsG_enter Rg.still_value Rg.still_skip Rg.bringsS_value Rg.bringsS_skip Rg.bringsS_enter
theorem clipC (oa : Option Addr) (n c : Nat) (w : World) (hn : n ≤ c) : Calls Tryd.prog 36 #[.slice oa n c] w fun e w' => e = .returned (.slice oa n n) ∧ w' = w := by
  go_enter Tryd.func36, Tryd.ntmps36
  go_wp2
  go_ret
  exact ⟨rfl, rfl⟩
theorem clipX (oa : Option Addr) (n c : Nat) (w : World) (hn : n ≤ c) : Calls Tryd.prog 37 #[.slice oa n c] w fun e w' => e = .returned (.slice oa n n) ∧ w' = w := by
  go_enter Tryd.func37, Tryd.ntmps37
  go_wp2
  go_ret
  exact ⟨rfl, rfl⟩
theorem clipI (oa : Option Addr) (n c : Nat) (w : World) (hn : n ≤ c) : Calls Tryd.prog 38 #[.slice oa n c] w fun e w' => e = .returned (.slice oa n n) ∧ w' = w := by
  go_enter Tryd.func38, Tryd.ntmps38
  go_wp2
  go_ret
  exact ⟨rfl, rfl⟩
set_option maxHeartbeats 16000000 in
set_option maxRecDepth 100000 in
theorem table_any (ol : Option Addr) (cl : Nat) (b : List Int) (w : World) (hc : b.length ≤ cl) (hp : BAt w ol b) (hb : byteI b) (hl : b.length ≤ 1000000000) : Calls Tryd.prog 14 #[.slice ol b.length cl] w (TbP w (tabO (tabR (stOf (splitV b))))) := by
  have C := hid (fun W (h : Gr w W) => split_any ol cl b W hc (hp.keep h) hb (by omega))
  clear hp hc
  obtain ⟨R, hR⟩ : ∃ R, splitV b = R := ⟨_, rfl⟩
  rw [hR] at C ⊢
  have HLB : Hid ((stOf R).1.length ≤ 1000000000) := hid (by
    cases R with
    | none => simp [stOf]
    | some l =>
      have := (splitV_back hb hR).1
      have h2 := len_join l
      rw [this] at h2
      show l.length ≤ _
      omega)
  obtain ⟨q0, hq0⟩ : ∃ q, stOf R = q := ⟨_, rfl⟩
  rw [hq0] at HLB ⊢
  have HQ0 := hid hq0
  obtain ⟨R0, hR0⟩ : ∃ R, tabR q0 = R := ⟨_, rfl⟩
  rw [hR0]
  have HR00 := hid hR0
  clear hR hb hl hq0 hR0
  generalize b.length = nb at *
  go_enter Tryd.func14, Tryd.ntmps14
  go_wp2_with fail
  refine (C.out _ ((Gr.refl w).alloc _)).mono ?_
  intro e w1 he
  obtain ⟨oa, ok, l, hst, rfl, hat, hg⟩ := spp_st he
  have hst := HQ0.out.symm.trans hst
  subst hst
  have hg0 : Gr w (w.alloc (.cells #[.string ⟨#[]⟩, .slice none 0 0, .slice none 0 0, .int .i64 0, .slice none 0 0] 29)) := (Gr.refl _).alloc _
  obtain ⟨r0, hr0⟩ : ∃ r, w.heap.size = r := ⟨_, rfl⟩
  have hbox : w1.heap[r0]? = some (.cells #[.string ⟨#[]⟩, .slice none 0 0, .slice none 0 0, .int .i64 0, .slice none 0 0] 29 (0, 0)) := by
    rw [hg.block r0 (by rw [← hr0]; simp), ← hr0]
    exact heap_alloc_new _ _
  have hg1 : Gr w w1 := Gr.own hg
  have HRS := hid (rs_new 69 (!ok) (Nat.le_refl _) hat)
  have hz : w1.heap.size ≤ w1.heap.size := Nat.le_refl _
  obtain ⟨p, hp⟩ : ∃ p, w1.heap.size = p := ⟨_, rfl⟩
  have hrp : r0 < p := by rw [← hp]; exact (Array.getElem?_eq_some_iff.1 hbox).1
  rw [hr0]
  clear C he hg hat
  rw [hp] at HRS
  go_wp2_with fail
  refine (rdtext_any p l (!ok) _ HRS.out).mono ?_
  rintro e w2 ⟨rfl, hrs, hgo⟩
  have hga : Gr w1 w2 := (Gr.refl w1).alloc (.cells #[.slice oa l.length l.length, .bool (!ok)] 69) |>.grown hgo (fun k e => by cases e; omega)
  have htx0 := tx_new (takeR 2 l (!ok)).1.s hrs (Nat.le_of_eq hp) hga
  have HF0 : Hid (R0 = tb1 (takeR 2 l (!ok)).1.s (takeR 2 l (!ok)).2) := hid (HR00.out.symm.trans (tb0 _))
  have hll : (takeR 2 l (!ok)).2.1.length ≤ 1000000000 := Nat.le_trans (takeR_len _ _ _) HLB.out
  have HTP := hid hg1
  generalize takeR 2 l (!ok) = a0 at *
  obtain ⟨av, al, ab⟩ := a0
  simp only at htx0 HF0 hll
  go_upto_region 4 with (fail)
  obtain ⟨nm, hnm⟩ : ∃ s, av.s = s := ⟨_, rfl⟩
  rw [hnm] at HF0 htx0
  rw [hnm]
  obtain ⟨q, hq⟩ : ∃ q, w2.heap.size = q := ⟨_, rfl⟩
  rw [hq] at htx0
  rw [hq]
  obtain ⟨w3, hw3⟩ : ∃ W, w2.alloc (.cells #[.string nm, .slice none 0 0, .slice none 0 0, .int .i64 0, .slice none 0 0] 29) = W := ⟨_, rfl⟩
  rw [hw3] at htx0
  rw [hw3]
  have HTX := hid htx0
  clear htx0 hw3 hq hnm hga hgo hrs HRS HQ0 HR00 hg0 hg1 hz
  obtain ⟨base, hbase⟩ : ∃ b, q + 1 = b := ⟨_, rfl⟩
  rw [hbase] at HTX
  have hqb : q < base := by omega
  clear hbase
  go_wp2_with fail
  refine (tx_call HTX.out (count_any p al ab _ HTX.out.r)).mono ?_
  rintro e w4 ⟨u, rfl, rfl, htx⟩
  have hbd := cntR_bd al ab
  have hle := cntR_len al ab
  have HF1 : Hid (R0 = tb2 nm (its colR (cntR al ab).1.toNat (cntR al ab).2).1 (its colR (cntR al ab).1.toNat (cntR al ab).2).2) := hid HF0.out
  generalize cntR al ab = c1 at *
  obtain ⟨n1, qa⟩ := c1
  simp only at htx hbd hle HF1
  have hn1 : n1 ≤ 1000000000 := by omega
  have hqa : qa.1.length ≤ 1000000000 := by omega
  have HTX := hid htx
  obtain ⟨F1, hF1⟩ : ∃ F : List Col → Sq → World → Prop, F = fun cs q' W => ∃ v1, TX p q base w1 69 nm v1 (.slice none 0 0) 0 (.slice none 0 0) cs [] [] q'.1 q'.2 W := ⟨_, rfl⟩
  have HF := hid hF1
  have S1 : Hid (TbRel colR qa n1 F1 (.int .i64 0) w4) := hid ⟨0, rfl, hbd.1, by rw [hF1]; exact ⟨_, HTX.out⟩⟩
  have hn0 := hbd.1
  clear hbd hle hll htx HTX hF1 HF0
  clear HLB
  go_wp2_with fail
  go_loopw [23] (fun s23 wr => TbRel colR qa n1 F1 s23 wr) (fun s23 _ => n1.toNat - (intOf s23).toNat)
  case atStart => exact S1.out
  case round =>
    clear S1
    obtain ⟨k, rfl, hk, hst⟩ := hrel
    rw [HF.out] at hst
    obtain ⟨v1, htx⟩ := hst
    obtain ⟨⟨cs, qc⟩, hcq⟩ : ∃ r, its colR k qa = r := ⟨_, rfl⟩
    have hlen : cs.length = k := by
      have := its_len colR qa k
      rw [hcq] at this; exact this
    rw [hcq] at htx
    simp only at htx
    have HCQ := hid hcq
    clear hcq
    by_cases hlt : (k : Int) < n1
    · have g1 : decide ((k : Int) < n1) = true := by rw [decide_eq_true_iff]; exact hlt
      go_upto_region 6 with (fail)
      have HST := hid (its_succ colR k qa)
      rw [HCQ.out] at HST
      simp only at HST
      obtain ⟨F, hF⟩ : ∃ F : Nat → World → Prop, F = fun s W => TX p q base w1 69 nm v1 (.slice none 0 0) 0 (.slice none 0 0) cs [] [] (seqS [2, 1, 3, 3] qc s).1 (seqS [2, 1, 3, 3] qc s).2 W := ⟨_, rfl⟩
      have HK : Hid (∀ s W W', F s W → Gr W W' → F s W') := hid (fun s W W' h hg => by rw [hF] at h ⊢; exact h.gr hg)
      have HC : Hid (∀ s W, F s W → W.cell? ⟨q, 1, none⟩ = some v1 ∧ q < W.heap.size) := hid (fun s W h => by rw [hF] at h; exact ⟨by rw [Rg.blk_cells h.h 1]; rfl, h.lt⟩)
      have C1 : Hid (∀ W, F 0 W → Calls Tryd.prog 32 #[.pointer (some ⟨p, 0, none⟩)] W (fun e w' => ∃ u', e = .returned u' ∧ (u' = .string (colR qc).1.nm ∧ F 1 w'))) := hid (fun W h => by rw [hF] at h ⊢; exact tx_call h (rdtext_any p (seqS [2, 1, 3, 3] qc 0).1 (seqS [2, 1, 3, 3] qc 0).2 W h.r))
      have C2 : Hid (∀ W, F 1 W → Calls Tryd.prog 34 #[.pointer (some ⟨p, 0, none⟩)] W (fun e w' => ∃ u', e = .returned u' ∧ (u' = .int .i64 (colR qc).1.ty ∧ F 2 w'))) := hid (fun W h => by rw [hF] at h ⊢; exact tx_call h (rdnum_any p (seqS [2, 1, 3, 3] qc 1).1 (seqS [2, 1, 3, 3] qc 1).2 W h.r))
      have C3 : Hid (∀ W, F 2 W → Calls Tryd.prog 35 #[.pointer (some ⟨p, 0, none⟩)] W (fun e w' => ∃ u', e = .returned u' ∧ (u' = .bool (colR qc).1.nn ∧ F 3 w'))) := hid (fun W h => by rw [hF] at h ⊢; exact tx_call h (rdyes_any p (seqS [2, 1, 3, 3] qc 2).1 (seqS [2, 1, 3, 3] qc 2).2 W h.r))
      have C4 : Hid (∀ W, F 3 W → Calls Tryd.prog 35 #[.pointer (some ⟨p, 0, none⟩)] W (fun e w' => ∃ u', e = .returned u' ∧ (u' = .bool (colR qc).1.uq ∧ F 4 w'))) := hid (fun W h => by rw [hF] at h ⊢; exact tx_call h (rdyes_any p (seqS [2, 1, 3, 3] qc 3).1 (seqS [2, 1, 3, 3] qc 3).2 W h.r))
      have HO : Hid (∀ W, F 4 W → W.ownsRow base 24 4 v1 cs.length (cellsF cF cs)) := hid (fun W h => by rw [hF] at h; exact h.c)
      have HZ : Hid (∀ W, F 4 W → base ≤ W.heap.size) := hid (fun W h => by rw [hF] at h; exact h.z3)
      have FI : Hid (∀ W, F 4 W → ∀ v' W3, Gz v1 W W3 → W3.ownsRow base 24 4 v' (cs ++ [(colR qc).1]).length (cellsF cF (cs ++ [(colR qc).1])) → (W3.cell? ⟨q, 1, none⟩ = some v1 ∧ W3.frozen? ⟨q, 1, none⟩ = false ∧ q < W3.heap.size) ∧ TbRel colR qa n1 F1 (.int .i64 ((k : Int) + 1)) (W3.setCell ⟨q, 1, none⟩ v')) := hid (fun W h v' W3 hq h3 => by
        rw [hF] at h
        obtain ⟨p1, p2⟩ := h.put1 hq h3
        have ph := p1.trans h.h
        refine ⟨⟨by rw [Rg.blk_cells ph 1]; rfl, Rg.blk_free ph _, (Array.getElem?_eq_some_iff.1 ph).1⟩, k + 1, by go_num, by omega, ?_⟩
        rw [HST.out, HF.out]
        exact ⟨_, p2⟩)
      have hF0 : F 0 wr := by rw [hF]; exact htx
      have HS0 := hid hF0
      clear hF0 hF htx HST HCQ
      generalize (colR qc).1 = x at *
      refine Rg.region_chain 12 [3, 5, 7, 9, 11] [] (StT 4 11 (cF x) F) [some (.pointer (some ⟨q, 1, none⟩)), some v1, some (.pointer (some ⟨p, 0, none⟩)), some (.string x.nm), some (.pointer (some ⟨p, 0, none⟩)), some (.int .i64 x.ty), some (.pointer (some ⟨p, 0, none⟩)), some (.bool x.nn), some (.pointer (some ⟨p, 0, none⟩)), some (.bool x.uq), some (.agg #[.string x.nm, .int .i64 x.ty, .bool x.nn, .bool x.uq]), none]
        (fun v => by rw [st_at (by omega)]; exact HK.out 0 _ _ HS0.out ((Gr.refl _).drew)) (by kernel_rfl) (by kernel_rfl) (by kernel_rfl) (by kernel_rfl) (fun _ _ d _ _ h => by cases d <;> exact h) ?_
      intro OPS _ v
      simp only [List.take_succ_cons, List.take_zero, Rg.wpC, Option.getD_some, Option.getD_none, Act.put, List.setIfInBounds_toArray, List.set_cons_zero, List.set_cons_succ, show List.contains [3, 5, 7, 9, 11] 0 = false from rfl, show List.contains [3, 5, 7, 9, 11] 1 = false from rfl, show List.contains [3, 5, 7, 9, 11] 2 = false from rfl, show List.contains [3, 5, 7, 9, 11] 3 = true from rfl, show List.contains [3, 5, 7, 9, 11] 4 = false from rfl, show List.contains [3, 5, 7, 9, 11] 5 = true from rfl, show List.contains [3, 5, 7, 9, 11] 6 = false from rfl, show List.contains [3, 5, 7, 9, 11] 7 = true from rfl, show List.contains [3, 5, 7, 9, 11] 8 = false from rfl, show List.contains [3, 5, 7, 9, 11] 9 = true from rfl, show List.contains [3, 5, 7, 9, 11] 10 = false from rfl, show List.contains [3, 5, 7, 9, 11] 11 = true from rfl, Bool.false_eq_true, if_false, if_true, Nat.reduceAdd]
      refine ⟨?_, ?_, ?_, ?_, ?_, ?_, ?_, ?_, ?_, ?_, ?_, ?_, ?_⟩
      · refine sc_still (by rfl) (by rfl) (fun s W _ hS => ?_)
        obtain ⟨j, hj⟩ := st_any hS
        obtain ⟨c1, z1⟩ := HC.out j W hj
        go_simp
      · refine sc_still (by rfl) (by rfl) (fun s W _ hS => ?_)
        obtain ⟨j, hj⟩ := st_any hS
        obtain ⟨c1, z1⟩ := HC.out j W hj
        go_simp
      · refine sc_still (by rfl) (by rfl) (fun s W _ hS => ?_)
        obtain ⟨j, hj⟩ := st_any hS
        obtain ⟨c1, z1⟩ := HC.out j W hj
        go_simp
      · refine sc_call (by rfl) (by rfl) (fun W hS => ?_)
        rw [st_at (by omega)] at hS
        go_simp
        refine (C1.out W hS).mono ?_
        rintro e w' ⟨u, rfl, hu, hf⟩
        exact ⟨u, rfl, hu, by rw [st_at (by omega)]; exact hf⟩
      · refine sc_still (by rfl) (by rfl) (fun s W _ hS => ?_)
        obtain ⟨j, hj⟩ := st_any hS
        obtain ⟨c1, z1⟩ := HC.out j W hj
        go_simp
      · refine sc_call (by rfl) (by rfl) (fun W hS => ?_)
        rw [st_at (by omega)] at hS
        go_simp
        refine (C2.out W hS).mono ?_
        rintro e w' ⟨u, rfl, hu, hf⟩
        exact ⟨u, rfl, hu, by rw [st_at (by omega)]; exact hf⟩
      · refine sc_still (by rfl) (by rfl) (fun s W _ hS => ?_)
        obtain ⟨j, hj⟩ := st_any hS
        obtain ⟨c1, z1⟩ := HC.out j W hj
        go_simp
      · refine sc_call (by rfl) (by rfl) (fun W hS => ?_)
        rw [st_at (by omega)] at hS
        go_simp
        refine (C3.out W hS).mono ?_
        rintro e w' ⟨u, rfl, hu, hf⟩
        exact ⟨u, rfl, hu, by rw [st_at (by omega)]; exact hf⟩
      · refine sc_still (by rfl) (by rfl) (fun s W _ hS => ?_)
        obtain ⟨j, hj⟩ := st_any hS
        obtain ⟨c1, z1⟩ := HC.out j W hj
        go_simp
      · refine sc_call (by rfl) (by rfl) (fun W hS => ?_)
        rw [st_at (by omega)] at hS
        go_simp
        refine (C4.out W hS).mono ?_
        rintro e w' ⟨u, rfl, hu, hf⟩
        exact ⟨u, rfl, hu, by rw [st_at (by omega)]; exact hf⟩
      · refine sc_still (by rfl) (by rfl) (fun s W _ hS => ?_)
        obtain ⟨j, hj⟩ := st_any hS
        obtain ⟨c1, z1⟩ := HC.out j W hj
        go_simp
      · refine sc_new (by rfl) (by rfl) (fun W hS => ?_)
        rw [st_at (by omega)] at hS
        go_simp
        rw [st_end (by omega)]
        refine ⟨HK.out 4 _ _ hS ((Gr.refl _).alloc _), ?_⟩
        rw [upd_same]
        exact one_new W (cF x) 24
      · intro W hS
        rw [st_end (by omega)] at hS
        obtain ⟨h4, g, hg, hcs⟩ := hS
        generalize v 11 = vv at *
        subst hg
        simp only [List.drop_succ_cons, List.drop_zero]
        have HOW := hid (HO.out W h4)
        have HFI := hid (FI.out W h4)
        have HZB := hid (HZ.out W h4)
        clear HO FI HS0 HK HC HZ C1 C2 C3 C4
        obtain ⟨i0, hi0, hz0, hz1, hz2⟩ := info_parts c_info
        go_wp2_with (at_builtin; refine wpList_append_own _ rfl _ _ 25 rfl base 24 i0 (.agg #[.string ⟨#[]⟩, .int .i64 0, .bool false, .bool false]) 4 32 Tryd.underlying25 hi0 hz0 hz1 hz2 rfl (by decide) _ _ _ rfl HOW.out ⟨g, 0, none⟩ 1 1 (cF x) rfl rfl ?ma1 ?ma2 ?ma3 ?ma4 ?ma5 ?_)
        case ma1 =>
          intro j u hu
          rw [addN, Nat.zero_add]
          exact hcs j u hu
        case ma2 => exact cE.one _
        case ma3 => unfold maxLen; omega
        case ma4 => omega
        case ma5 => exact HZB.out
        intro v' w8 hown3 hq8 _
        obtain ⟨g', cap', rfl, _, _, _⟩ := own_form hown3 (by omega)
        obtain ⟨⟨c3, f3, z3⟩, hrel'⟩ := HFI.out _ w8 hq8 (by rw [List.length_append, cellsF_snoc, hlen]; exact hown3)
        have HR := hid hrel'
        clear hown3 hq8 HFI HOW hcs h4 hrel'
        go_wp2
        exact ⟨HR.out, by simp [intOf]; omega⟩
    · have hkn : n1.toNat = k := by omega
      have g1 : decide ((k : Int) < n1) = false := by rw [decide_eq_false_iff_not]; exact hlt
      have HF1 : Hid (R0 = tb2 nm cs qc) := hid (by have := HF1.out; rw [hkn, HCQ.out] at this; exact this)
      have hcl : cs.length ≤ 1000000000 := by omega
      have hql : qc.1.length ≤ 1000000000 := by
        have := rdr_col.its_shorter qa k
        rw [HCQ.out] at this
        exact Nat.le_trans this hqa
      have HTX := hid htx
      clear hkn htx HCQ HF hlt hk hlen hn0 hn1 hqa
      obtain ⟨al, ab⟩ := qc
      simp only at hql
      go_wp2_with fail
      refine (tx_call HTX.out (count_any p al ab _ HTX.out.r)).mono ?_
      rintro e w5 ⟨u, rfl, rfl, htx⟩
      have hbd := cntR_bd al ab
      have hle := cntR_len al ab
      have HF2 : Hid (R0 = tb2h nm cs (its ixR (cntR al ab).1.toNat (cntR al ab).2).1 (its ixR (cntR al ab).1.toNat (cntR al ab).2).2) := hid HF1.out
      generalize cntR al ab = c1 at *
      obtain ⟨n2, qa⟩ := c1
      simp only at htx hbd hle HF2
      have hn2 : n2 ≤ 1000000000 := by omega
      have hqa : qa.1.length ≤ 1000000000 := by omega
      have HTX := hid htx
      obtain ⟨F2, hF2⟩ : ∃ F : List Ix → Sq → World → Prop, F = fun xs q' W => ∃ v2, TX p q base w1 69 nm v1 v2 0 (.slice none 0 0) cs xs [] q'.1 q'.2 W := ⟨_, rfl⟩
      have HF := hid hF2
      have S2 : Hid (TbRel ixR qa n2 F2 (.int .i64 0) w5) := hid ⟨0, rfl, hbd.1, by rw [hF2]; exact ⟨_, HTX.out⟩⟩
      have hn0 := hbd.1
      clear hbd hle hql htx HTX hF2 HF1
      go_wp2_with fail
      go_loopw [42] (fun s42 wr => TbRel ixR qa n2 F2 s42 wr) (fun s42 _ => n2.toNat - (intOf s42).toNat)
      case atStart => exact S2.out
      case round =>
        clear S2
        obtain ⟨k, rfl, hk, hst⟩ := hrel
        rw [HF.out] at hst
        obtain ⟨v2, htx⟩ := hst
        obtain ⟨⟨xs, qc⟩, hcq⟩ : ∃ r, its ixR k qa = r := ⟨_, rfl⟩
        have hlen : xs.length = k := by
          have := its_len ixR qa k
          rw [hcq] at this; exact this
        rw [hcq] at htx
        simp only at htx
        have HCQ := hid hcq
        clear hcq
        by_cases hlt : (k : Int) < n2
        · have g1 : decide ((k : Int) < n2) = true := by rw [decide_eq_true_iff]; exact hlt
          go_upto_region 10 with (fail)
          have HST := hid (its_succ ixR k qa)
          rw [HCQ.out] at HST
          simp only at HST
          obtain ⟨F, hF⟩ : ∃ F : Nat → World → Prop, F = fun s W => TX p q base w1 69 nm v1 v2 0 (.slice none 0 0) cs xs [] (seqS [2, 1, 3] qc s).1 (seqS [2, 1, 3] qc s).2 W := ⟨_, rfl⟩
          have HK : Hid (∀ s W W', F s W → Gr W W' → F s W') := hid (fun s W W' h hg => by rw [hF] at h ⊢; exact h.gr hg)
          have HC : Hid (∀ s W, F s W → W.cell? ⟨q, 2, none⟩ = some v2 ∧ q < W.heap.size) := hid (fun s W h => by rw [hF] at h; exact ⟨by rw [Rg.blk_cells h.h 2]; rfl, h.lt⟩)
          have C1 : Hid (∀ W, F 0 W → Calls Tryd.prog 32 #[.pointer (some ⟨p, 0, none⟩)] W (fun e w' => ∃ u', e = .returned u' ∧ (u' = .string (ixR qc).1.nm ∧ F 1 w'))) := hid (fun W h => by rw [hF] at h ⊢; exact tx_call h (rdtext_any p (seqS [2, 1, 3] qc 0).1 (seqS [2, 1, 3] qc 0).2 W h.r))
          have C2 : Hid (∀ W, F 1 W → Calls Tryd.prog 34 #[.pointer (some ⟨p, 0, none⟩)] W (fun e w' => ∃ u', e = .returned u' ∧ (u' = .int .i64 (ixR qc).1.co ∧ F 2 w'))) := hid (fun W h => by rw [hF] at h ⊢; exact tx_call h (rdnum_any p (seqS [2, 1, 3] qc 1).1 (seqS [2, 1, 3] qc 1).2 W h.r))
          have C3 : Hid (∀ W, F 2 W → Calls Tryd.prog 35 #[.pointer (some ⟨p, 0, none⟩)] W (fun e w' => ∃ u', e = .returned u' ∧ (u' = .bool (ixR qc).1.uq ∧ F 3 w'))) := hid (fun W h => by rw [hF] at h ⊢; exact tx_call h (rdyes_any p (seqS [2, 1, 3] qc 2).1 (seqS [2, 1, 3] qc 2).2 W h.r))
          have HO : Hid (∀ W, F 3 W → W.ownsRow base 60 3 v2 xs.length (cellsF xF xs)) := hid (fun W h => by rw [hF] at h; exact h.x)
          have HZ : Hid (∀ W, F 3 W → base ≤ W.heap.size) := hid (fun W h => by rw [hF] at h; exact h.z3)
          have FI : Hid (∀ W, F 3 W → ∀ v' W3, Gz v2 W W3 → W3.ownsRow base 60 3 v' (xs ++ [(ixR qc).1]).length (cellsF xF (xs ++ [(ixR qc).1])) → (W3.cell? ⟨q, 2, none⟩ = some v2 ∧ W3.frozen? ⟨q, 2, none⟩ = false ∧ q < W3.heap.size) ∧ TbRel ixR qa n2 F2 (.int .i64 ((k : Int) + 1)) (W3.setCell ⟨q, 2, none⟩ v')) := hid (fun W h v' W3 hq h3 => by
            rw [hF] at h
            obtain ⟨p1, p2⟩ := h.put2 hq h3
            have ph := p1.trans h.h
            refine ⟨⟨by rw [Rg.blk_cells ph 2]; rfl, Rg.blk_free ph _, (Array.getElem?_eq_some_iff.1 ph).1⟩, k + 1, by go_num, by omega, ?_⟩
            rw [HST.out, HF.out]
            exact ⟨_, p2⟩)
          have hF0 : F 0 wr := by rw [hF]; exact htx
          have HS0 := hid hF0
          clear hF0 hF htx HST HCQ
          generalize (ixR qc).1 = x at *
          refine Rg.region_chain 10 [3, 5, 7, 9] [] (StT 3 9 (xF x) F) [some (.pointer (some ⟨q, 2, none⟩)), some v2, some (.pointer (some ⟨p, 0, none⟩)), some (.string x.nm), some (.pointer (some ⟨p, 0, none⟩)), some (.int .i64 x.co), some (.pointer (some ⟨p, 0, none⟩)), some (.bool x.uq), some (.agg #[.string x.nm, .int .i64 x.co, .bool x.uq]), none]
            (fun v => by rw [st_at (by omega)]; exact HK.out 0 _ _ HS0.out ((Gr.refl _).drew)) (by kernel_rfl) (by kernel_rfl) (by kernel_rfl) (by kernel_rfl) (fun _ _ d _ _ h => by cases d <;> exact h) ?_
          intro OPS _ v
          simp only [List.take_succ_cons, List.take_zero, Rg.wpC, Option.getD_some, Option.getD_none, Act.put, List.setIfInBounds_toArray, List.set_cons_zero, List.set_cons_succ, show List.contains [3, 5, 7, 9] 0 = false from rfl, show List.contains [3, 5, 7, 9] 1 = false from rfl, show List.contains [3, 5, 7, 9] 2 = false from rfl, show List.contains [3, 5, 7, 9] 3 = true from rfl, show List.contains [3, 5, 7, 9] 4 = false from rfl, show List.contains [3, 5, 7, 9] 5 = true from rfl, show List.contains [3, 5, 7, 9] 6 = false from rfl, show List.contains [3, 5, 7, 9] 7 = true from rfl, show List.contains [3, 5, 7, 9] 8 = false from rfl, show List.contains [3, 5, 7, 9] 9 = true from rfl, Bool.false_eq_true, if_false, if_true, Nat.reduceAdd]
          refine ⟨?_, ?_, ?_, ?_, ?_, ?_, ?_, ?_, ?_, ?_, ?_⟩
          · refine sc_still (by rfl) (by rfl) (fun s W _ hS => ?_)
            obtain ⟨j, hj⟩ := st_any hS
            obtain ⟨c1, z1⟩ := HC.out j W hj
            go_simp
          · refine sc_still (by rfl) (by rfl) (fun s W _ hS => ?_)
            obtain ⟨j, hj⟩ := st_any hS
            obtain ⟨c1, z1⟩ := HC.out j W hj
            go_simp
          · refine sc_still (by rfl) (by rfl) (fun s W _ hS => ?_)
            obtain ⟨j, hj⟩ := st_any hS
            obtain ⟨c1, z1⟩ := HC.out j W hj
            go_simp
          · refine sc_call (by rfl) (by rfl) (fun W hS => ?_)
            rw [st_at (by omega)] at hS
            go_simp
            refine (C1.out W hS).mono ?_
            rintro e w' ⟨u, rfl, hu, hf⟩
            exact ⟨u, rfl, hu, by rw [st_at (by omega)]; exact hf⟩
          · refine sc_still (by rfl) (by rfl) (fun s W _ hS => ?_)
            obtain ⟨j, hj⟩ := st_any hS
            obtain ⟨c1, z1⟩ := HC.out j W hj
            go_simp
          · refine sc_call (by rfl) (by rfl) (fun W hS => ?_)
            rw [st_at (by omega)] at hS
            go_simp
            refine (C2.out W hS).mono ?_
            rintro e w' ⟨u, rfl, hu, hf⟩
            exact ⟨u, rfl, hu, by rw [st_at (by omega)]; exact hf⟩
          · refine sc_still (by rfl) (by rfl) (fun s W _ hS => ?_)
            obtain ⟨j, hj⟩ := st_any hS
            obtain ⟨c1, z1⟩ := HC.out j W hj
            go_simp
          · refine sc_call (by rfl) (by rfl) (fun W hS => ?_)
            rw [st_at (by omega)] at hS
            go_simp
            refine (C3.out W hS).mono ?_
            rintro e w' ⟨u, rfl, hu, hf⟩
            exact ⟨u, rfl, hu, by rw [st_at (by omega)]; exact hf⟩
          · refine sc_still (by rfl) (by rfl) (fun s W _ hS => ?_)
            obtain ⟨j, hj⟩ := st_any hS
            obtain ⟨c1, z1⟩ := HC.out j W hj
            go_simp
          · refine sc_new (by rfl) (by rfl) (fun W hS => ?_)
            rw [st_at (by omega)] at hS
            go_simp
            rw [st_end (by omega)]
            refine ⟨HK.out 3 _ _ hS ((Gr.refl _).alloc _), ?_⟩
            rw [upd_same]
            exact one_new W (xF x) 60
          · intro W hS
            rw [st_end (by omega)] at hS
            obtain ⟨h4, g, hg, hcs⟩ := hS
            generalize v 9 = vv at *
            subst hg
            simp only [List.drop_succ_cons, List.drop_zero]
            have HOW := hid (HO.out W h4)
            have HFI := hid (FI.out W h4)
            have HZB := hid (HZ.out W h4)
            clear HO FI HS0 HK HC HZ C1 C2 C3
            obtain ⟨i0, hi0, hz0, hz1, hz2⟩ := info_parts x_info
            go_wp2_with (at_builtin; refine wpList_append_own _ rfl _ _ 26 rfl base 60 i0 (.agg #[.string ⟨#[]⟩, .int .i64 0, .bool false]) 3 32 Tryd.underlying26 hi0 hz0 hz1 hz2 rfl (by decide) _ _ _ rfl HOW.out ⟨g, 0, none⟩ 1 1 (xF x) rfl rfl ?ma1 ?ma2 ?ma3 ?ma4 ?ma5 ?_)
            case ma1 =>
              intro j u hu
              rw [addN, Nat.zero_add]
              exact hcs j u hu
            case ma2 => exact xE.one _
            case ma3 => unfold maxLen; omega
            case ma4 => omega
            case ma5 => exact HZB.out
            intro v' w8 hown3 hq8 _
            obtain ⟨g', cap', rfl, _, _, _⟩ := own_form hown3 (by omega)
            obtain ⟨⟨c3, f3, z3⟩, hrel'⟩ := HFI.out _ w8 hq8 (by rw [List.length_append, cellsF_snoc, hlen]; exact hown3)
            have HR := hid hrel'
            clear hown3 hq8 HFI HOW hcs h4 hrel'
            go_wp2
            exact ⟨HR.out, by simp [intOf]; omega⟩
        · have hkn : n2.toNat = k := by omega
          have g1 : decide ((k : Int) < n2) = false := by rw [decide_eq_false_iff_not]; exact hlt
          have HF2 : Hid (R0 = tb2h nm cs xs qc) := hid (by have := HF2.out; rw [hkn, HCQ.out] at this; exact this)
          have hxl : xs.length ≤ 1000000000 := by omega
          have hql : qc.1.length ≤ 1000000000 := by
            have := rdr_ix.its_shorter qa k
            rw [HCQ.out] at this
            exact Nat.le_trans this hqa
          have HTX := hid htx
          clear hkn htx HCQ HF hlt hk hlen hn0 hn2 hqa
          obtain ⟨al, ab⟩ := qc
          simp only at hql
          go_wp2_with fail
          refine (tx_call HTX.out (rdnum_any p al ab _ HTX.out.r)).mono ?_
          rintro e w6 ⟨u, rfl, rfl, htx⟩
          have hle := takeR_len 1 al ab
          have HF3 : Hid (R0 = tb3 nm cs xs (takeR 1 al ab).1.n (takeR 1 al ab).2) := hid HF2.out
          generalize takeR 1 al ab = c1 at *
          obtain ⟨hv, al', ab'⟩ := c1
          simp only at htx hle HF3
          obtain ⟨hd, hhd⟩ : ∃ n, hv.n = n := ⟨_, rfl⟩
          rw [hhd] at HF3
          rw [hhd]
          have c3 : w6.cell? ⟨q, 3, none⟩ = some (.int .i64 0) := by rw [Rg.blk_cells htx.h 3]; rfl
          have f3 : w6.frozen? ⟨q, 3, none⟩ = false := Rg.blk_free htx.h _
          have z3 := htx.lt
          have HTX := hid (htx.puth hd)
          have hql2 : al'.length ≤ 1000000000 := by omega
          clear htx hle hql hhd hv HF2
          go_wp2_with fail
          refine (tx_call HTX.out (count_any p al' ab' _ HTX.out.r)).mono ?_
          rintro e w7 ⟨u, rfl, rfl, htx⟩
          have hbd := cntR_bd al' ab'
          have hle := cntR_len al' ab'
          have HF4 : Hid (R0 = (mkT nm cs xs hd (its numR (cntR al' ab').1.toNat (cntR al' ab').2).1, (its numR (cntR al' ab').1.toNat (cntR al' ab').2).2)) := hid HF3.out
          generalize cntR al' ab' = c1 at *
          obtain ⟨n3, qa⟩ := c1
          simp only at htx hbd hle HF4
          have hn3 : n3 ≤ 1000000000 := by omega
          have HTX := hid htx
          obtain ⟨F3, hF3⟩ : ∃ F : List Int → Sq → World → Prop, F = fun rs q' W => ∃ v3, TX p q base w1 69 nm v1 v2 hd v3 cs xs rs q'.1 q'.2 W := ⟨_, rfl⟩
          have HF := hid hF3
          have S3 : Hid (TbRel numR qa n3 F3 (.int .i64 0) w7) := hid ⟨0, rfl, hbd.1, by rw [hF3]; exact ⟨_, HTX.out⟩⟩
          have hn0 := hbd.1
          clear hbd hle hql2 htx HTX hF3 HF3 c3 f3 z3
          go_wp2_with fail
          go_loopw [62] (fun s62 wr => TbRel numR qa n3 F3 s62 wr) (fun s62 _ => n3.toNat - (intOf s62).toNat)
          case atStart => exact S3.out
          case round =>
            clear S3
            obtain ⟨k, rfl, hk, hst⟩ := hrel
            rw [HF.out] at hst
            obtain ⟨v3, htx⟩ := hst
            obtain ⟨⟨rs, qc⟩, hcq⟩ : ∃ r, its numR k qa = r := ⟨_, rfl⟩
            have hlen : rs.length = k := by
              have := its_len numR qa k
              rw [hcq] at this; exact this
            rw [hcq] at htx
            simp only at htx
            have HCQ := hid hcq
            clear hcq
            by_cases hlt : (k : Int) < n3
            · have g1 : decide ((k : Int) < n3) = true := by rw [decide_eq_true_iff]; exact hlt
              go_upto_region 15 with (fail)
              have HST := hid (its_succ numR k qa)
              rw [HCQ.out] at HST
              simp only at HST
              obtain ⟨F, hF⟩ : ∃ F : Nat → World → Prop, F = fun s W => TX p q base w1 69 nm v1 v2 hd v3 cs xs rs (seqS [1] qc s).1 (seqS [1] qc s).2 W := ⟨_, rfl⟩
              have HK : Hid (∀ s W W', F s W → Gr W W' → F s W') := hid (fun s W W' h hg => by rw [hF] at h ⊢; exact h.gr hg)
              have HC : Hid (∀ s W, F s W → W.cell? ⟨q, 4, none⟩ = some v3 ∧ q < W.heap.size) := hid (fun s W h => by rw [hF] at h; exact ⟨by rw [Rg.blk_cells h.h 4]; rfl, h.lt⟩)
              have C1 : Hid (∀ W, F 0 W → Calls Tryd.prog 34 #[.pointer (some ⟨p, 0, none⟩)] W (fun e w' => ∃ u', e = .returned u' ∧ (u' = .int .i64 (numR qc).1 ∧ F 1 w'))) := hid (fun W h => by rw [hF] at h ⊢; exact tx_call h (rdnum_any p (seqS [1] qc 0).1 (seqS [1] qc 0).2 W h.r))
              have HO : Hid (∀ W, F 1 W → W.ownsRow base 3 1 v3 rs.length (cellsF iF rs)) := hid (fun W h => by rw [hF] at h; exact h.i)
              have HZ : Hid (∀ W, F 1 W → base ≤ W.heap.size) := hid (fun W h => by rw [hF] at h; exact h.z3)
              have FI : Hid (∀ W, F 1 W → ∀ v' W3, Gz v3 W W3 → W3.ownsRow base 3 1 v' (rs ++ [(numR qc).1]).length (cellsF iF (rs ++ [(numR qc).1])) → (W3.cell? ⟨q, 4, none⟩ = some v3 ∧ W3.frozen? ⟨q, 4, none⟩ = false ∧ q < W3.heap.size) ∧ TbRel numR qa n3 F3 (.int .i64 ((k : Int) + 1)) (W3.setCell ⟨q, 4, none⟩ v')) := hid (fun W h v' W3 hq h3 => by
                rw [hF] at h
                obtain ⟨p1, p2⟩ := h.put3 hq h3
                have ph := p1.trans h.h
                refine ⟨⟨by rw [Rg.blk_cells ph 4]; rfl, Rg.blk_free ph _, (Array.getElem?_eq_some_iff.1 ph).1⟩, k + 1, by go_num, by omega, ?_⟩
                rw [HST.out, HF.out]
                exact ⟨_, p2⟩)
              have hF0 : F 0 wr := by rw [hF]; exact htx
              have HS0 := hid hF0
              clear hF0 hF htx HST HCQ
              generalize (numR qc).1 = x at *
              refine Rg.region_chain 5 [3, 4] [] (StT 1 4 (iF x) F) [some (.pointer (some ⟨q, 4, none⟩)), some v3, some (.pointer (some ⟨p, 0, none⟩)), some (.int .i64 x), none]
                (fun v => by rw [st_at (by omega)]; exact HK.out 0 _ _ HS0.out ((Gr.refl _).drew)) (by kernel_rfl) (by kernel_rfl) (by kernel_rfl) (by kernel_rfl) (fun _ _ d _ _ h => by cases d <;> exact h) ?_
              intro OPS _ v
              simp only [List.take_succ_cons, List.take_zero, Rg.wpC, Option.getD_some, Option.getD_none, Act.put, List.setIfInBounds_toArray, List.set_cons_zero, List.set_cons_succ, show List.contains [3, 4] 0 = false from rfl, show List.contains [3, 4] 1 = false from rfl, show List.contains [3, 4] 2 = false from rfl, show List.contains [3, 4] 3 = true from rfl, show List.contains [3, 4] 4 = true from rfl, Bool.false_eq_true, if_false, if_true, Nat.reduceAdd]
              refine ⟨?_, ?_, ?_, ?_, ?_, ?_⟩
              · refine sc_still (by rfl) (by rfl) (fun s W _ hS => ?_)
                obtain ⟨j, hj⟩ := st_any hS
                obtain ⟨c1, z1⟩ := HC.out j W hj
                go_simp
              · refine sc_still (by rfl) (by rfl) (fun s W _ hS => ?_)
                obtain ⟨j, hj⟩ := st_any hS
                obtain ⟨c1, z1⟩ := HC.out j W hj
                go_simp
              · refine sc_still (by rfl) (by rfl) (fun s W _ hS => ?_)
                obtain ⟨j, hj⟩ := st_any hS
                obtain ⟨c1, z1⟩ := HC.out j W hj
                go_simp
              · refine sc_call (by rfl) (by rfl) (fun W hS => ?_)
                rw [st_at (by omega)] at hS
                go_simp
                refine (C1.out W hS).mono ?_
                rintro e w' ⟨u, rfl, hu, hf⟩
                exact ⟨u, rfl, hu, by rw [st_at (by omega)]; exact hf⟩
              · refine sc_new (by rfl) (by rfl) (fun W hS => ?_)
                rw [st_at (by omega)] at hS
                go_simp
                rw [st_end (by omega)]
                refine ⟨HK.out 1 _ _ hS ((Gr.refl _).alloc _), ?_⟩
                rw [upd_same]
                exact one_new W (iF x) 3
              · intro W hS
                rw [st_end (by omega)] at hS
                obtain ⟨h4, g, hg, hcs⟩ := hS
                generalize v 4 = vv at *
                subst hg
                simp only [List.drop_succ_cons, List.drop_zero]
                have HOW := hid (HO.out W h4)
                have HFI := hid (FI.out W h4)
                have HZB := hid (HZ.out W h4)
                clear HO FI HS0 HK HC HZ C1
                obtain ⟨i0, hi0, hz0, hz1, hz2⟩ := info_parts i_info
                go_wp2_with (at_builtin; refine wpList_append_own _ rfl _ _ 27 rfl base 3 i0 (.int .i64 0) 1 8 Tryd.underlying27 hi0 hz0 hz1 hz2 rfl (by decide) _ _ _ rfl HOW.out ⟨g, 0, none⟩ 1 1 (iF x) rfl rfl ?ma1 ?ma2 ?ma3 ?ma4 ?ma5 ?_)
                case ma1 =>
                  intro j u hu
                  rw [addN, Nat.zero_add]
                  exact hcs j u hu
                case ma2 => exact iE.one _
                case ma3 => unfold maxLen; omega
                case ma4 => omega
                case ma5 => exact HZB.out
                intro v' w8 hown3 hq8 _
                obtain ⟨g', cap', rfl, _, _, _⟩ := own_form hown3 (by omega)
                obtain ⟨⟨c3, f3, z3⟩, hrel'⟩ := HFI.out _ w8 hq8 (by rw [List.length_append, cellsF_snoc, hlen]; exact hown3)
                have HR := hid hrel'
                clear hown3 hq8 HFI HOW hcs h4 hrel'
                go_wp2
                exact ⟨HR.out, by simp [intOf]; omega⟩
            · have hkn : n3.toNat = k := by omega
              have g1 : decide ((k : Int) < n3) = false := by rw [decide_eq_false_iff_not]; exact hlt
              have HF5 : Hid (R0 = (mkT nm cs xs hd rs, qc)) := hid (by have := HF4.out; rw [hkn, HCQ.out] at this; exact this)
              have hrl : rs.length ≤ 1000000000 := by omega
              have HTX := hid htx
              clear hkn HCQ HF hlt hk hlen hn0 hn3
              obtain ⟨ql, bad⟩ := qc
              simp only at htx
              obtain ⟨oe, ce, hh, _⟩ := htx.r.ex
              have zp : p < wr.heap.size := (Array.getElem?_eq_some_iff.1 hh).1
              have e0 := Rg.blk_cells hh 0
              have e1 := Rg.blk_cells hh 1
              simp only [List.getElem?_toArray, List.getElem?_cons_zero, List.getElem?_cons_succ] at e0 e1
              have hbx : wr.heap[r0]? = some (.cells #[.string ⟨#[]⟩, .slice none 0 0, .slice none 0 0, .int .i64 0, .slice none 0 0] 29 (0, 0)) := by
                rw [htx.g.block r0 (by rw [hp]; exact hrp)]
                exact hbox
              have HBX := hid hbx
              have HGW := hid (HTP.out.trans htx.g)
              have HR0 := hid (Nat.le_of_eq hr0)
              clear htx hh
              have hemp : ∀ W, wr.grownBy W (some r0) → R0.2 ≠ ([], false) → TbP w (tabO R0) (.returned (.tuple #[.agg #[.string ⟨#[]⟩, .slice none 0 0, .slice none 0 0, .int .i64 0, .slice none 0 0], .bool false])) W := fun W hW hne => by
                have e : tabO R0 = none := by
                  unfold tabO
                  rw [if_neg]
                  intro hcc
                  simp only [Bool.and_eq_true, List.isEmpty_iff, Bool.not_eq_true'] at hcc
                  exact hne (Prod.ext hcc.1 hcc.2)
                rw [e]
                exact ⟨HGW.out.grown hW (fun k e => by cases e; exact HR0.out), noT, ⟨.inl rfl, .inl rfl, .inl rfl, Nat.zero_le _, Nat.zero_le _, Nat.zero_le _⟩, rfl, rfl⟩
              have HEM := hid hemp
              have x0 := Rg.blk_cells hbx 0
              have x1 := Rg.blk_cells hbx 1
              have x2 := Rg.blk_cells hbx 2
              have x3 := Rg.blk_cells hbx 3
              have x4 := Rg.blk_cells hbx 4
              simp only [List.getElem?_toArray, List.getElem?_cons_zero, List.getElem?_cons_succ] at x0 x1 x2 x3 x4
              have y0 := Rg.blk_free hbx 0
              have y1 := Rg.blk_free hbx 1
              have y2 := Rg.blk_free hbx 2
              have y3 := Rg.blk_free hbx 3
              have y4 := Rg.blk_free hbx 4
              have zr : r0 < wr.heap.size := by omega
              have S5 : Hid (∀ a b c d e, wr.grownBy (((((wr.setCell ⟨r0, 0, none⟩ a).setCell ⟨r0, 1, none⟩ b).setCell ⟨r0, 2, none⟩ c).setCell ⟨r0, 3, none⟩ d).setCell ⟨r0, 4, none⟩ e) (some r0)) := hid (fun a b c d e => ((((Go1.set r0 0 wr a).trans (Go1.set r0 1 _ b)).trans (Go1.set r0 2 _ c)).trans (Go1.set r0 3 _ d)).trans (Go1.set r0 4 _ e))
              have HB1 := hid hbox
              have HRP := hid hrp
              have HRW := hid hr0
              clear hemp hbx hrp hr0 hbox
              cases bad with
              | true =>
                have HNE : Hid (R0.2 ≠ ([], false)) := hid (by rw [HF5.out]; intro h; cases h)
                clear HTX HF5
                generalize tabO R0 = RR at *
                go_wp2
                have B5 := box_all HBX.out (.string ⟨#[]⟩) (.slice none 0 0) (.slice none 0 0) (.int .i64 0) (.slice none 0 0)
                have G5 := S5.out (.string ⟨#[]⟩) (.slice none 0 0) (.slice none 0 0) (.int .i64 0) (.slice none 0 0)
                generalize (((((wr.setCell ⟨r0, 0, none⟩ (.string ⟨#[]⟩)).setCell ⟨r0, 1, none⟩ (.slice none 0 0)).setCell ⟨r0, 2, none⟩ (.slice none 0 0)).setCell ⟨r0, 3, none⟩ (.int .i64 0)).setCell ⟨r0, 4, none⟩ (.slice none 0 0)) = W8 at B5 G5 ⊢
                have k0 := Rg.blk_cells B5 0
                have k1 := Rg.blk_cells B5 1
                have k2 := Rg.blk_cells B5 2
                have k3 := Rg.blk_cells B5 3
                have k4 := Rg.blk_cells B5 4
                simp only [List.getElem?_toArray, List.getElem?_cons_zero, List.getElem?_cons_succ] at k0 k1 k2 k3 k4
                refine bodyPost_ret (by simp [results, Tryd.results14, go_sem, k0, k1, k2, k3, k4]; try rfl) rfl (HEM.out _ G5 HNE.out)
              | false =>
                by_cases hq0 : ql = []
                · subst hq0
                  have HTY : Hid (tabO R0 = some (mkT nm cs xs hd rs)) := hid (by rw [HF5.out]; rfl)
                  obtain ⟨oc, cc, ox, cx, od, cr, ev1, ev2, ev3, l1, l2, l3, htf⟩ := HTX.out.fin
                  subst ev1 ev2 ev3
                  have HTF := hid htf
                  have CL1 := fun W => clipC oc cs.length cc W l1
                  have CL2 := fun W => clipX ox xs.length cx W l2
                  have CL3 := fun W => clipI od rs.length cr W l3
                  have g2 : decide ((0 : Int) < (([] : List V).length : Int)) = false := rfl
                  clear HTX HF5 htf l1 l2 l3 HEM S5
                  simp only [List.length_nil] at e0
                  go_upto_region 19 with (fail)
                  obtain ⟨F, hF⟩ : ∃ F : Nat → World → Prop, F = fun s W => TF q w1 nm (if 3 < s then .slice oc cs.length cs.length else .slice oc cs.length cc) (if 4 < s then .slice ox xs.length xs.length else .slice ox xs.length cx) hd (.slice od rs.length cr) oc cs ox xs od rs W := ⟨_, rfl⟩
                  have HK : Hid (∀ s W W', F s W → Gr W W' → F s W') := hid (fun s W W' h hg => by rw [hF] at h ⊢; exact h.gr hg)
                  have H0 : Hid (F 0 wr) := hid (by rw [hF]; exact HTF.out)
                  have HUP : Hid (∀ s W, s < 3 → F s W → F (s + 1) W) := hid (fun s W hs h => by rw [hF] at h ⊢; simp only at h ⊢; rw [if_neg (by omega), if_neg (by omega)] at h ⊢; exact h)
                  have H3 : Hid (∀ W, F 3 W → F 4 (W.setCell ⟨q, 1, none⟩ (.slice oc cs.length cs.length))) := hid (fun W h => by rw [hF] at h ⊢; exact TF.set h 1 _ rfl)
                  have H4 : Hid (∀ W, F 4 W → F 5 (W.setCell ⟨q, 2, none⟩ (.slice ox xs.length xs.length))) := hid (fun W h => by rw [hF] at h ⊢; exact TF.set h 2 _ rfl)
                  have H5 : Hid (∀ W, F 5 W → TF q w1 nm (.slice oc cs.length cs.length) (.slice ox xs.length xs.length) hd (.slice od rs.length rs.length) oc cs ox xs od rs (W.setCell ⟨q, 4, none⟩ (.slice od rs.length rs.length))) := hid (fun W h => by rw [hF] at h; exact TF.set h 4 _ rfl)
                  have HZ : Hid (∀ s W, F s W → q < W.heap.size ∧ (∀ k, W.frozen? ⟨q, k, none⟩ = false) ∧ W.cell? ⟨q, 4, none⟩ = some (.slice od rs.length cr)) := hid (fun s W h => by rw [hF] at h; exact ⟨h.lt, fun k => Rg.blk_free h.h k, by rw [Rg.blk_cells h.h 4]; rfl⟩)
                  have HC1 : Hid (∀ s W, s ≤ 3 → F s W → W.cell? ⟨q, 1, none⟩ = some (.slice oc cs.length cc)) := hid (fun s W hs h => by rw [hF] at h; (try simp only at h); rw [if_neg (by omega)] at h; rw [Rg.blk_cells h.h 1]; rfl)
                  have HC2 : Hid (∀ s W, s ≤ 4 → F s W → W.cell? ⟨q, 2, none⟩ = some (.slice ox xs.length cx)) := hid (fun s W hs h => by rw [hF] at h; (try simp only at h); rw [if_neg (show ¬ 4 < s by omega)] at h; rw [Rg.blk_cells h.h 2]; rfl)
                  clear HTF hF x0 x1 x2 x3 x4 y0 y1 y2 y3 y4 e0 e1 zp zr
                  refine Rg.region_chain 14 [2, 5, 8, 10, 12] [(1, 10), (4, 12)] (fun s _ W => F s W) [some (.pointer (some ⟨q, 1, none⟩)), some (.slice oc cs.length cc), some (.slice oc cs.length cs.length), some (.pointer (some ⟨q, 2, none⟩)), some (.slice ox xs.length cx), some (.slice ox xs.length xs.length), some (.pointer (some ⟨q, 4, none⟩)), some (.slice od rs.length cr), some (.slice od rs.length rs.length), some (.pointer (some ⟨q, 1, none⟩)), some undef, some (.pointer (some ⟨q, 2, none⟩)), some undef, some (.pointer (some ⟨q, 4, none⟩))]
                    (fun v => HK.out 0 _ _ H0.out ((Gr.refl _).drew)) (by kernel_rfl) (by kernel_rfl) (by kernel_rfl) (by kernel_rfl) (fun _ _ d _ _ h => by cases d <;> exact h) ?_
                  intro OPS _ v
                  simp only [List.take_succ_cons, List.take_zero, Rg.wpC, Option.getD_some, Option.getD_none, Act.put, List.setIfInBounds_toArray, List.set_cons_zero, List.set_cons_succ, show List.contains [2, 5, 8, 10, 12] 0 = false from rfl, show List.contains [2, 5, 8, 10, 12] 1 = false from rfl, show List.contains [2, 5, 8, 10, 12] 2 = true from rfl, show List.contains [2, 5, 8, 10, 12] 3 = false from rfl, show List.contains [2, 5, 8, 10, 12] 4 = false from rfl, show List.contains [2, 5, 8, 10, 12] 5 = true from rfl, show List.contains [2, 5, 8, 10, 12] 6 = false from rfl, show List.contains [2, 5, 8, 10, 12] 7 = false from rfl, show List.contains [2, 5, 8, 10, 12] 8 = true from rfl, show List.contains [2, 5, 8, 10, 12] 9 = false from rfl, show List.contains [2, 5, 8, 10, 12] 10 = true from rfl, show List.contains [2, 5, 8, 10, 12] 11 = false from rfl, show List.contains [2, 5, 8, 10, 12] 12 = true from rfl, show List.contains [2, 5, 8, 10, 12] 13 = false from rfl, Bool.false_eq_true, if_false, if_true, Nat.reduceAdd]
                  refine ⟨?_, ?_, ?_, ?_, ?_, ?_, ?_, ?_, ?_, ?_, ?_, ?_, ?_, ?_, ?_⟩
                  · refine sc_still (by rfl) (by rfl) (fun s W hl hS => ?_)
                    obtain ⟨z1, f1, c1⟩ := HZ.out _ W hS
                    go_simp
                  · refine sc_still (by rfl) (by rfl) (fun s W hl hS => ?_)
                    have hs : s ≤ 3 := hl 10 (by simp)
                    have c1 := HC1.out s W hs hS
                    obtain ⟨z1, f1, _⟩ := HZ.out _ W hS
                    go_simp
                  · refine sc_call (by rfl) (by rfl) (fun W hS => ?_)
                    go_simp
                    refine (CL1 W).mono ?_
                    rintro e w' ⟨rfl, rfl⟩
                    exact ⟨_, rfl, rfl, HUP.out 0 _ (by omega) hS⟩
                  · refine sc_still (by rfl) (by rfl) (fun s W hl hS => ?_)
                    obtain ⟨z1, f1, c1⟩ := HZ.out _ W hS
                    go_simp
                  · refine sc_still (by rfl) (by rfl) (fun s W hl hS => ?_)
                    have hs : s ≤ 4 := hl 12 (by simp)
                    have c1 := HC2.out s W hs hS
                    obtain ⟨z1, f1, _⟩ := HZ.out _ W hS
                    go_simp
                  · refine sc_call (by rfl) (by rfl) (fun W hS => ?_)
                    go_simp
                    refine (CL2 W).mono ?_
                    rintro e w' ⟨rfl, rfl⟩
                    exact ⟨_, rfl, rfl, HUP.out 1 _ (by omega) hS⟩
                  · refine sc_still (by rfl) (by rfl) (fun s W hl hS => ?_)
                    obtain ⟨z1, f1, c1⟩ := HZ.out _ W hS
                    go_simp
                  · refine sc_still (by rfl) (by rfl) (fun s W hl hS => ?_)
                    obtain ⟨z1, f1, c1⟩ := HZ.out _ W hS
                    go_simp
                  · refine sc_call (by rfl) (by rfl) (fun W hS => ?_)
                    go_simp
                    refine (CL3 W).mono ?_
                    rintro e w' ⟨rfl, rfl⟩
                    exact ⟨_, rfl, rfl, HUP.out 2 _ (by omega) hS⟩
                  · refine sc_still (by rfl) (by rfl) (fun s W hl hS => ?_)
                    obtain ⟨z1, f1, c1⟩ := HZ.out _ W hS
                    go_simp
                  · refine sc_call (by rfl) (by rfl) (fun W hS => ?_)
                    have c1 := HC1.out 3 W (by omega) hS
                    obtain ⟨z1, f1, _⟩ := HZ.out _ W hS
                    have f1 := f1 1
                    go_simp
                    exact H3.out W hS
                  · refine sc_still (by rfl) (by rfl) (fun s W hl hS => ?_)
                    obtain ⟨z1, f1, c1⟩ := HZ.out _ W hS
                    go_simp
                  · refine sc_call (by rfl) (by rfl) (fun W hS => ?_)
                    have c1 := HC2.out 4 W (by omega) hS
                    obtain ⟨z1, f1, _⟩ := HZ.out _ W hS
                    have f1 := f1 2
                    go_simp
                    exact H4.out W hS
                  · refine sc_still (by rfl) (by rfl) (fun s W hl hS => ?_)
                    obtain ⟨z1, f1, c1⟩ := HZ.out _ W hS
                    go_simp
                  · intro W hS
                    simp only [List.drop_succ_cons, List.drop_zero]
                    obtain ⟨z1, f1, c1⟩ := HZ.out _ W hS
                    have f1 := f1 4
                    have H6 := H5.out W hS
                    clear hS HK H0 HUP H3 H4 H5 HZ HC1 HC2
                    obtain ⟨W6, hW6⟩ : ∃ W', W.setCell ⟨q, 4, none⟩ (.slice od rs.length rs.length) = W' := ⟨_, rfl⟩
                    rw [hW6] at H6
                    have hb6 : W6.heap[r0]? = some (.cells #[.string ⟨#[]⟩, .slice none 0 0, .slice none 0 0, .int .i64 0, .slice none 0 0] 29 (0, 0)) := by
                      rw [H6.g.block r0 (by rw [hp]; exact HRP.out)]
                      exact HB1.out
                    have x0 := Rg.blk_cells hb6 0
                    have x1 := Rg.blk_cells hb6 1
                    have x2 := Rg.blk_cells hb6 2
                    have x3 := Rg.blk_cells hb6 3
                    have x4 := Rg.blk_cells hb6 4
                    have u0 := Rg.blk_cells H6.h 0
                    have u1 := Rg.blk_cells H6.h 1
                    have u2 := Rg.blk_cells H6.h 2
                    have u3 := Rg.blk_cells H6.h 3
                    have u4 := Rg.blk_cells H6.h 4
                    simp only [List.getElem?_toArray, List.getElem?_cons_zero, List.getElem?_cons_succ] at x0 x1 x2 x3 x4 u0 u1 u2 u3 u4
                    have y0 := Rg.blk_free hb6 0
                    have y1 := Rg.blk_free hb6 1
                    have y2 := Rg.blk_free hb6 2
                    have y3 := Rg.blk_free hb6 3
                    have y4 := Rg.blk_free hb6 4
                    have zr : r0 < W6.heap.size := lt_of_cell x0
                    have zq := H6.lt
                    have HB6 := hid hb6
                    have H66 := hid H6
                    have hz1 := H6.z
                    have hrq : r0 < q := by have := HRP.out; omega
                    have HRQ := hid hrq
                    clear hb6 H6 hz1
                    go_wp2
                    have B5 := box_all HB6.out (.string nm) (.slice oc cs.length cs.length) (.slice ox xs.length xs.length) (.int .i64 hd) (.slice od rs.length rs.length)
                    have G5 : Go1 r0 W6 _ := ((((Go1.set r0 0 W6 (.string nm)).trans (Go1.set r0 1 _ (.slice oc cs.length cs.length))).trans (Go1.set r0 2 _ (.slice ox xs.length xs.length))).trans (Go1.set r0 3 _ (.int .i64 hd))).trans (Go1.set r0 4 _ (.slice od rs.length rs.length))
                    generalize (((((W6.setCell ⟨r0, 0, none⟩ (.string nm)).setCell ⟨r0, 1, none⟩ (.slice oc cs.length cs.length)).setCell ⟨r0, 2, none⟩ (.slice ox xs.length xs.length)).setCell ⟨r0, 3, none⟩ (.int .i64 hd)).setCell ⟨r0, 4, none⟩ (.slice od rs.length rs.length)) = W8 at B5 G5 ⊢
                    have k0 := Rg.blk_cells B5 0
                    have k1 := Rg.blk_cells B5 1
                    have k2 := Rg.blk_cells B5 2
                    have k3 := Rg.blk_cells B5 3
                    have k4 := Rg.blk_cells B5 4
                    simp only [List.getElem?_toArray, List.getElem?_cons_zero, List.getElem?_cons_succ] at k0 k1 k2 k3 k4
                    have FIN : TbP w (tabO R0) (.returned (.tuple #[.agg #[.string nm, .slice oc cs.length cs.length, .slice ox xs.length xs.length, .int .i64 hd, .slice od rs.length rs.length], .bool true])) W8 := by
                      rw [HTY.out]
                      refine ⟨(HTP.out.trans H66.out.g).grown G5 (fun k e => by cases e; exact HR0.out), ⟨nm, oc, cs, cs.length, ox, xs, xs.length, hd, od, rs, rs.length⟩, ⟨at_go H66.out.c G5 (fun g o k e => ?_), at_go H66.out.x G5 (fun g o k e => ?_), at_go H66.out.r G5 (fun g o k e => ?_), by show cs.length ≤ _; omega, by show xs.length ≤ _; omega, by show rs.length ≤ _; omega⟩, rfl, rfl⟩
                      · have := H66.out.c1 g o k e
                        have := HRQ.out
                        omega
                      · have := H66.out.x1 g o k e
                        have := HRQ.out
                        omega
                      · have := H66.out.r1 g o k e
                        have := HRQ.out
                        omega
                    refine bodyPost_ret (by simp [results, Tryd.results14, go_sem, k0, k1, k2, k3, k4]; try rfl) rfl FIN
                · skip
                  have HNE : Hid (R0.2 ≠ ([], false)) := hid (by rw [HF5.out]; intro h; cases h; exact hq0 rfl)
                  have g2 : (0 : Int) < (ql.length : Int) := by
                    have := List.length_pos_iff.2 hq0
                    omega
                  have g3 : decide ((0 : Int) < (ql.length : Int)) = true := by rw [decide_eq_true_iff]; exact g2
                  clear HTX HF5 hq0
                  generalize tabO R0 = RR at *
                  go_wp2
                  have B5 := box_all HBX.out (.string ⟨#[]⟩) (.slice none 0 0) (.slice none 0 0) (.int .i64 0) (.slice none 0 0)
                  have G5 := S5.out (.string ⟨#[]⟩) (.slice none 0 0) (.slice none 0 0) (.int .i64 0) (.slice none 0 0)
                  generalize (((((wr.setCell ⟨r0, 0, none⟩ (.string ⟨#[]⟩)).setCell ⟨r0, 1, none⟩ (.slice none 0 0)).setCell ⟨r0, 2, none⟩ (.slice none 0 0)).setCell ⟨r0, 3, none⟩ (.int .i64 0)).setCell ⟨r0, 4, none⟩ (.slice none 0 0)) = W8 at B5 G5 ⊢
                  have k0 := Rg.blk_cells B5 0
                  have k1 := Rg.blk_cells B5 1
                  have k2 := Rg.blk_cells B5 2
                  have k3 := Rg.blk_cells B5 3
                  have k4 := Rg.blk_cells B5 4
                  simp only [List.getElem?_toArray, List.getElem?_cons_zero, List.getElem?_cons_succ] at k0 k1 k2 k3 k4
                  refine bodyPost_ret (by simp [results, Tryd.results14, go_sem, k0, k1, k2, k3, k4]; try rfl) rfl (HEM.out _ G5 HNE.out)
end Go.Proofs.YtacbhkmkknicoaaDoor

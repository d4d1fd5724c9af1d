/- row: the walk of RowBack. -/
import Derived.Test.YtacbhkmkknicoaaDoorLe
import Derived.Test.YtacbhkmkknicoaaDoorSa
import Derived.Test.YtacbhkmkknicoaaDoorT2
import Derived.Test.YtacbhkmkknicoaaDoorPr3
namespace Go.Proofs.YtacbhkmkknicoaaDoor
open Go.RowKit
set_option linter.unusedSimpArgs false
set_option linter.unusedVariables false
attribute [local go_sem] Rg.leads_value Rg.leads_skip Rg.leads_enter Rg.brings_value Rg.brings_skip Rg.brings_enter Rg.bringsG_value Rg.bringsG_enter rwV
/-- these bytes -/
def GBs (l : List Int) (u : Value) (w : World) : Prop := ∃ oa c, u = .slice oa l.length c ∧ BAt w oa l
theorem gbs_keep (i1 i2 : Nat) (l1 l2 : List Int) : ∀ k u w w', Rg.Gat [(i1, GBs l1), (i2, GBs l2)] k u w → Rg.Up w w' → Rg.Gat [(i1, GBs l1), (i2, GBs l2)] k u w' := by
  intro k u w w' h hu
  unfold Rg.Gat at h ⊢
  split at h
  · rename_i hk
    rw [if_pos hk]
    obtain ⟨oa, c, e, hB⟩ := h
    exact ⟨oa, c, e, hB.keep hu⟩
  · rename_i hk
    rw [if_neg hk]
    unfold Rg.Gat at h ⊢
    split at h
    · rename_i hk2
      rw [if_pos hk2]
      obtain ⟨oa, c, e, hB⟩ := h
      exact ⟨oa, c, e, hB.keep hu⟩
    · rename_i hk2
      rw [if_neg hk2]
      trivial
/-- a value without what its kind does not want -/
def cleanV (v : V) : V := if v.t = 1 then numV v.n else if v.t = 2 then textV v.s else if v.t = 3 then boolV v.b else nul
theorem clean_cl {v : V} (h : VOk v) : Cl (cleanV v) := by
  unfold cleanV
  split
  · exact .inr (.inl ⟨_, rfl, h.1⟩)
  · split
    · exact .inr (.inr (.inl ⟨_, rfl⟩))
    · split
      · exact .inr (.inr (.inr ⟨_, rfl⟩))
      · exact .inl rfl
theorem clean_enc (v : V) : encV (cleanV v) = encV v := by
  unfold cleanV
  by_cases h1 : v.t = 1
  · rw [if_pos h1]; unfold encV; rw [if_pos h1]; rfl
  · rw [if_neg h1]
    by_cases h2 : v.t = 2
    · rw [if_pos h2]; unfold encV; rw [if_neg h1, if_pos h2]; rfl
    · rw [if_neg h2]
      by_cases h3 : v.t = 3
      · rw [if_pos h3]; unfold encV; rw [if_neg h1, if_neg h2, if_pos h3]; rfl
      · rw [if_neg h3]; unfold encV; rw [if_neg h1, if_neg h2, if_neg h3]; rfl
theorem clean_join (l : List V) : joinV (l.map cleanV) = joinV l := by
  induction l with
  | nil => rfl
  | cons a r ih => rw [List.map_cons, join_cons, join_cons, clean_enc, ih]
theorem clean_cmp {v : V} (h : 0 ≤ v.t ∧ v.t ≤ 3) : cmpV (cleanV v) v = 0 := by
  have rI : ∀ x, cmpI x x = 0 := fun x => cmp_I.rf x
  unfold cleanV
  by_cases h1 : v.t = 1
  · rw [if_pos h1]; unfold cmpV; rw [if_pos (by rw [h1]; rfl), if_pos (show (numV v.n).t = 1 from rfl)]; exact rI _
  · rw [if_neg h1]
    by_cases h2 : v.t = 2
    · rw [if_pos h2]; unfold cmpV; rw [if_pos (by rw [h2]; rfl), if_neg (show ¬ (textV v.s).t = 1 from fun e => absurd (show (2 : Int) = 1 from e) (by decide)), if_pos (show (textV v.s).t = 2 from rfl)]
      exact cmp_B.rf v
    · rw [if_neg h2]
      by_cases h3 : v.t = 3
      · rw [if_pos h3]; unfold cmpV; rw [if_pos (by rw [h3]; rfl), if_neg (show ¬ (boolV v.b).t = 1 from fun e => absurd (show (3 : Int) = 1 from e) (by decide)), if_neg (show ¬ (boolV v.b).t = 2 from fun e => absurd (show (3 : Int) = 2 from e) (by decide)), if_pos (show (boolV v.b).t = 3 from rfl)]; exact rI _
      · rw [if_neg h3]
        have h0 : v.t = 0 := by omega
        unfold cmpV
        rw [if_pos (by rw [h0]; rfl), if_neg (show ¬ nul.t = 1 by decide), if_neg (show ¬ nul.t = 2 by decide), if_neg (show ¬ nul.t = 3 by decide)]
theorem clean_row : ∀ l : List V, (∀ v ∈ l, 0 ≤ v.t ∧ v.t ≤ 3) → cmpR (l.map cleanV) l = 0
  | [], _ => rfl
  | a :: r, h => by
    have h1 := clean_cmp (h a (by simp))
    have h2 := clean_row r (fun v hv => h v (by simp [hv]))
    simp only [List.map_cons, cmpR]
    rw [if_pos h1]; exact h2
theorem clean_split {l : List V} (h : ∀ v ∈ l, VOk v) : splitV (joinV l) = some (l.map cleanV) ∧ byteI (joinV l) := by
  have hc : ∀ v ∈ l.map cleanV, Cl v := fun v hv => by
    obtain ⟨x, hx, rfl⟩ := List.mem_map.1 hv
    exact clean_cl (h x hx)
  rw [← clean_join]
  exact ⟨split_join hc, join_byte hc⟩
/-- how many of the first k are as x -/
def cn (L : List Rw) (x : List V) (k : Nat) : Nat := (L.take k).countP (fun r => decide (cmpR r.l x = 0))
theorem cn_le (L : List Rw) (x : List V) (k : Nat) : cn L x k ≤ L.length := by
  unfold cn
  exact Nat.le_trans List.countP_le_length (by simp; omega)
theorem cn_succ (L : List Rw) (x : List V) (k : Nat) (hk : k < L.length) : cn L x (k + 1) = cn L x k + if cmpR (gx L k).l x = 0 then 1 else 0 := by
  unfold cn
  rw [List.take_add_one, List.getElem?_eq_getElem hk, List.countP_append, gx_of L k hk]
  congr 1
  by_cases h : cmpR L[k].l x = 0
  · simp [h]
  · simp [h]
theorem cn_perm {L M : List Rw} (x : List V) (h : (L.map (·.l)).Perm (M.map (·.l))) : cn L x L.length = cn M x M.length := by
  unfold cn
  rw [List.take_length, List.take_length]
  have e : ∀ N : List Rw, N.countP (fun r => decide (cmpR r.l x = 0)) = (N.map (·.l)).countP (fun y => decide (cmpR y x = 0)) := fun N => by rw [List.countP_map]; rfl
  rw [e, e]
  exact h.countP_eq _
set_option maxHeartbeats 16000000 in
set_option maxRecDepth 100000 in
theorem back_walk (oa : Option Addr) (c : Nat) (l : List Rw) (t : Tb) (m : Int) (w : World) (hl : l.length ≤ 9223372036854775807) (hp : RAt w oa l) (hr : ∀ r ∈ l, RwI w r ∧ (∀ v ∈ r.l, VOk v) ∧ (joinV r.l).length ≤ 140737488355328) (hT : TbAt w t) (hf : (joinV (schL t)).length ≤ 1000000000 ∧ (∀ v ∈ schL t, VOk v) ∧ t.cs.length ≤ 2000000 ∧ t.xs.length ≤ 2000000 ∧ t.rs.length ≤ 2000000) (hcl : ∀ v ∈ schL t, Cl v) (hm : w.cell? ⟨0, 0, none⟩ = some (.int .i64 m)) :
    Calls Tryd.prog 7 #[.slice oa l.length c, t.val] w fun e w' => e = .returned (.bool true) ∧ Gr w w' := by
  have AW := hid (fun W (hW : Gr w W) => awake_any m W (hW.keep hm))
  have HP := hid hp
  have HR := hid hr
  have CT := hid (fun W (hW : Gr w W) => schema_any t W (hT.keep hW) ⟨hf.2.2.1, hf.2.2.2.1, hf.2.2.2.2⟩ hf.2.1 (by have := hf.1; omega))
  have HSPL : Hid (splitV (joinV (schL t)) = some (schL t) ∧ byteI (joinV (schL t)) ∧ (joinV (schL t)).length ≤ 1000000000) := hid ⟨split_join hcl, join_byte hcl, hf.1⟩
  have HON := hid (tab_on t)
  have HF := hid hf
  clear hp hr hm hT hf hcl
  obtain ⟨nm, oc, cs, cc, ox, xs, cx, hd, od, rs, cr⟩ := t
  unfold Tb.val at CT ⊢
  simp only at CT ⊢
  have hg0 : Gr w (w.alloc (.cells #[.string nm, .slice oc cs.length cc, .slice ox xs.length cx, .int .i64 hd, .slice od rs.length cr] 29)) := (Gr.refl _).alloc _
  obtain ⟨b0, b1, b2, b3, b4⟩ := box5 w (.string nm) (.slice oc cs.length cc) (.slice ox xs.length cx) (.int .i64 hd) (.slice od rs.length cr)
  obtain ⟨gB, hgB⟩ : ∃ g, w.heap.size = g := ⟨_, rfl⟩
  rw [hgB] at b0 b1 b2 b3 b4
  obtain ⟨wB, hwB⟩ : ∃ W, w.alloc (.cells #[.string nm, .slice oc cs.length cc, .slice ox xs.length cx, .int .i64 hd, .slice od rs.length cr] 29) = W := ⟨_, rfl⟩
  rw [hwB] at b0 b1 b2 b3 b4 hg0
  have HG0 := hid hg0
  have HB := hid (And.intro b0 (And.intro b1 (And.intro b2 (And.intro b3 b4))))
  have HWB := hid hwB
  have HGB := hid hgB
  clear b0 b1 b2 b3 b4 hg0 hwB hgB
  by_cases h40 : 40 < l.length
  · have g1 : decide ((40 : Int) < (l.length : Int)) = true := by rw [decide_eq_true_iff]; omega
    have g2 : decide (40 < l.length) = true := by rw [decide_eq_true_iff]; exact h40
    clear HP HR CT HSPL HON
    generalize l.length = N at *
    go_enter Tryd.func7, Tryd.ntmps7
    go_upto_region 1 with (fail)
    rw [HGB.out, HWB.out]
    go_wp2_with fail
    refine (AW.out _ HG0.out).mono ?_
    rintro e w1 ⟨rfl, hg⟩
    have HG := hid (HG0.out.trans hg)
    clear hg AW
    go_wp2
    go_ret
    exact ⟨rfl, HG.out⟩
  · have g1 : decide ((40 : Int) < (l.length : Int)) = false := by rw [decide_eq_false_iff_not]; omega
    have g2 : decide (40 < l.length) = false := by rw [decide_eq_false_iff_not]; exact h40
    have hl4 : l.length ≤ 40 := by omega
    have SRT := hid (fun W (hW : Gr w W) => sort_any oa c l W hl4 (HP.out.keep hW) (fun r hr => ⟨(HR.out r hr).1.1.keep hW, (HR.out r hr).1.2⟩))
    clear h40 hl
    obtain ⟨N, hN⟩ : ∃ N, l.length = N := ⟨_, rfl⟩
    rw [hN] at hl4 g1 g2 SRT ⊢
    have HN := hid hN
    clear hN
    go_enter Tryd.func7, Tryd.ntmps7
    go_upto_region 1 with (fail)
    rw [HGB.out, HWB.out]
    go_wp2_with fail
    refine (SRT.out _ HG0.out).mono ?_
    rintro e ws ⟨oa', d0, rfl, hmp, hg2, hrn, hcase⟩
    have hd0 : d0.length = N := by
      have h1 := congrArg List.length hmp
      have h2 := HN.out
      simp at h1
      omega
    have hpm := stF_perm d0 (by omega)
    have hsg := stF_sg d0
    have HDP : Hid (((stF d0).map (·.l)).Perm (l.map (·.l))) := hid (by rw [← hmp]; exact hpm.map _)
    have HDL : Hid ((stF d0).length = N) := hid (by rw [hpm.length_eq]; exact hd0)
    have HSG : Hid (∀ i, i + 1 < N → cmpR (gx (stF d0) i).l (gx (stF d0) (i + 1)).l ≤ 0) := hid (fun i hi => hsg i (i + 1) (Nat.zero_le _) (by omega) (by rw [hd0]; exact hi))
    have HRN : Hid (∀ W, Gr ws W → ∀ i, i < N → VAt W (gx (stF d0) i).oa (gx (stF d0) i).l ∧ (gx (stF d0) i).l.length ≤ 9223372036854775807) := hid (fun W hW i hi => by
      have h1 := hrn _ (gx_mem (stF d0) i (by rw [hpm.length_eq, hd0]; exact hi))
      exact ⟨h1.1.keep hW, h1.2.1⟩)
    have HLX : Hid (∀ W, Gr ws W → ∀ i, i < N → VAt W (gx l i).oa (gx l i).l ∧ (gx l i).l.length ≤ 9223372036854775807) := hid (fun W hW i hi => by
      have h1 := (HR.out _ (gx_mem l i (by rw [HN.out]; exact hi))).1
      exact ⟨h1.1.keep ((HG0.out.trans hg2).trans hW), by have := h1.2.1; omega⟩)
    have HLC : Hid (∀ W, Gr ws W → ∀ i, i < N → ∃ b off, oa = some ⟨b, off, none⟩ ∧ W.cell? ⟨b, off + i, none⟩ = some (.slice (gx l i).oa (gx l i).l.length (gx l i).c)) := hid (fun W hW i hi => by
      have hil : i < l.length := by rw [HN.out]; exact hi
      have h1 := r_get (HP.out.keep ((HG0.out.trans hg2).trans hW)) i hil
      rw [gx_of l i hil]; exact h1)
    have HDC : Hid (∀ W, Gr ws W → ∀ i, i < N → ∃ g, oa' = some ⟨g, 0, none⟩ ∧ W.cell? ⟨g, i, none⟩ = some (.slice (gx (stF d0) i).oa (gx (stF d0) i).l.length (gx (stF d0) i).c)) := hid (fun W hW i hi => by
      rcases hcase with h0 | ⟨g, cur, e, _, _, _, hc⟩
      · rw [h0] at hd0; simp at hd0; omega
      · exact ⟨g, e, hW.keep (hc i (by rw [hd0]; exact hi))⟩)
    have HG2 := hid (HG0.out.trans hg2)
    have HB2 := hid (And.intro (hg2.keep HB.out.1) (And.intro (hg2.keep HB.out.2.1) (And.intro (hg2.keep HB.out.2.2.1) (And.intro (hg2.keep HB.out.2.2.2.1) (hg2.keep HB.out.2.2.2.2)))))
    rw [hd0]
    generalize stF d0 = D at *
    clear hmp hg2 hrn hcase hd0 hpm hsg SRT HWB HGB HB HG0
    have p1 : ((N : Int) == (N : Int)) = true := by simp
    have p2 : ((N : Int) != (N : Int)) = false := by simp
    go_wp2_with fail
    go_loopw [6] (fun s6 wr => ∃ i : Nat, s6 = .int .i64 (i : Int) ∧ i ≤ N ∧ Gr ws wr) (fun s6 _ => N - (intOf s6).toNat)
    case atStart => exact ⟨0, rfl, Nat.zero_le _, Gr.refl _⟩
    case round =>
      obtain ⟨i, rfl, hi, hg⟩ := hrel
      have HG := hid hg
      clear hg
      by_cases hiN : i < N
      · obtain ⟨b, off, rfl, _⟩ := HLC.out _ HG.out i hiN
        obtain ⟨g, rfl, _⟩ := HDC.out _ HG.out i hiN
        have HLC2 : Hid (∀ W, Gr ws W → ∀ j, j < N → W.cell? ⟨b, off + j, none⟩ = some (.slice (gx l j).oa (gx l j).l.length (gx l j).c)) := hid (fun W hW j hj => by
          obtain ⟨b', off', e, h1⟩ := HLC.out W hW j hj
          cases e; exact h1)
        have HDC2 : Hid (∀ W, Gr ws W → ∀ j, j < N → W.cell? ⟨g, j, none⟩ = some (.slice (gx D j).oa (gx D j).l.length (gx D j).c)) := hid (fun W hW j hj => by
          obtain ⟨g', e, h1⟩ := HDC.out W hW j hj
          cases e; exact h1)
        have u1 : decide ((i : Int) < (N : Int)) = true := by rw [decide_eq_true_iff]; omega
        have u2 : decide (i < N) = true := by rw [decide_eq_true_iff]; exact hiN
        have u3' : (i : Int) < (N : Int) := by omega
        have u4' : (0 : Int) ≤ (i : Int) := by omega
        obtain ⟨x, hx⟩ : ∃ x, (gx l i).l = x := ⟨_, rfl⟩
        have HX := hid hx
        have HS0 : Hid (∃ k : Nat, (Value.int .i64 0) = .int .i64 (k : Int) ∧ (Value.int .i64 0) = .int .i64 ((cn l x k : Nat) : Int) ∧ (Value.int .i64 0) = .int .i64 ((cn D x k : Nat) : Int) ∧ k ≤ N ∧ Gr ws wr) := hid ⟨0, rfl, rfl, rfl, Nat.zero_le _, HG.out⟩
        clear hx HG
        go_wp2_with fail
        go_loopw [9, 7, 8] (fun s9 s7 s8 wr => ∃ k : Nat, s9 = .int .i64 (k : Int) ∧ s7 = .int .i64 ((cn l x k : Nat) : Int) ∧ s8 = .int .i64 ((cn D x k : Nat) : Int) ∧ k ≤ N ∧ Gr ws wr) (fun s9 _ _ _ => N - (intOf s9).toNat)
        case atStart => exact HS0.out
        case round =>
          clear HS0
          obtain ⟨k, rfl, rfl, rfl, hk, hg⟩ := hrel
          have HG := hid hg
          clear hg
          obtain ⟨n, hn⟩ : ∃ n, cn l x k = n := ⟨_, rfl⟩
          obtain ⟨mm, hmm⟩ : ∃ n, cn D x k = n := ⟨_, rfl⟩
          have hn40 : n ≤ 40 := by have h1 := cn_le l x k; have h2 := HN.out; omega
          have hm40 : mm ≤ 40 := by have h1 := cn_le D x k; have h2 := HDL.out; omega
          rw [hn, hmm]
          by_cases hkN : k < N
          · have r1 : decide ((k : Int) < (N : Int)) = true := by rw [decide_eq_true_iff]; omega
            have r2 : decide (k < N) = true := by rw [decide_eq_true_iff]; exact hkN
            have r3 : (k : Int) < (N : Int) := by omega
            have r4 : (0 : Int) ≤ (k : Int) := by omega
            have d0 := HLC2.out _ HG.out k hkN
            have d1 := HLC2.out _ HG.out i hiN
            have d2 := HDC2.out _ HG.out k hkN
            obtain ⟨C1, hC1⟩ : ∃ z, cmpR (gx l k).l (gx l i).l = z := ⟨_, rfl⟩
            obtain ⟨C2, hC2⟩ : ∃ z, cmpR (gx D k).l (gx l i).l = z := ⟨_, rfl⟩
            have CM1 : ∀ W, Rg.Up wr W → Calls Tryd.prog 21 #[.slice (gx l k).oa (gx l k).l.length (gx l k).c, .slice (gx l i).oa (gx l i).l.length (gx l i).c] W fun e w' => e = .returned (.int .i64 C1) ∧ Gr W w' := fun W hW => by
              have z1 := HLX.out W (Gr.trans HG.out hW) k hkN
              have z2 := HLX.out W (Gr.trans HG.out hW) i hiN
              rw [← hC1]
              exact cmpR_any _ _ _ _ _ _ W z1.2 z2.2 z1.1 z2.1
            have CM2 : ∀ W, Rg.Up wr W → Calls Tryd.prog 21 #[.slice (gx D k).oa (gx D k).l.length (gx D k).c, .slice (gx l i).oa (gx l i).l.length (gx l i).c] W fun e w' => e = .returned (.int .i64 C2) ∧ Gr W w' := fun W hW => by
              have z1 := HRN.out W (Gr.trans HG.out hW) k hkN
              have z2 := HLX.out W (Gr.trans HG.out hW) i hiN
              rw [← hC2]
              exact cmpR_any _ _ _ _ _ _ W z1.2 z2.2 z1.1 z2.1
            have SN : Hid (cn l x (k + 1) = n + if C1 = 0 then 1 else 0) := hid (by rw [cn_succ l x k (by rw [HN.out]; exact hkN), hn, ← hC1, HX.out])
            have SM : Hid (cn D x (k + 1) = mm + if C2 = 0 then 1 else 0) := hid (by rw [cn_succ D x k (by rw [HDL.out]; exact hkN), hmm, ← hC2, HX.out])
            have zz0 := lt_of_cell d0
            have zz1 := lt_of_cell d1
            have zz2 := lt_of_cell d2
            clear hC1 hC2 hn hmm
            by_cases h1 : C1 = 0
            · by_cases h2 : C2 = 0
              · skip
                have e1 : (C1 == 0) = true := by rw [beq_iff_eq]; exact h1
                have e2 : (C2 == 0) = true := by rw [beq_iff_eq]; exact h2
                have FI : Hid (∀ W, Gr wr W → ∃ k' : Nat, (Value.int .i64 ((k : Int) + 1)) = .int .i64 (k' : Int) ∧ (Value.int .i64 ((n : Int) + 1)) = .int .i64 ((cn l x k' : Nat) : Int) ∧ (Value.int .i64 ((mm : Int) + 1)) = .int .i64 ((cn D x k' : Nat) : Int) ∧ k' ≤ N ∧ Gr ws W) := hid (fun W hW => ⟨k + 1, by go_num, by rw [SN.out, if_pos h1]; first | rfl | go_num, by rw [SM.out, if_pos h2]; first | rfl | go_num, by omega, HG.out.trans hW⟩)
                clear SN SM 
                go_upto_region 13 with (fail)
                refine Rg.region_text 9 (Below.drew (Below.refl _ _)) (by kernel_rfl) (by kernel_rfl) (fun _ _ d _ _ h => by cases d <;> exact h) ?_
                simp only [List.append_eq, List.cons_append, List.nil_append, List.take_succ_cons, List.take_zero, List.drop_succ_cons, List.drop_zero]
                repeat (first
                    | (refine Rg.wpDets_skip (by rfl) ?_; simp only [Act.put, List.setIfInBounds_toArray, List.set_cons_zero, List.set_cons_succ])
                    | (refine Rg.wpDets_step ?_ (by rfl) (fun w hS => ?_) ?_
                       rotate_left
                       · have hc := Gr.cells hS
                         have hf := Gr.frees hS
                         go_simp
                         first
                         | (refine ⟨?_, Below.refl _ _⟩; with_reducible rfl)
                         | ((with_reducible refine (CM1 _ hS).mono ?_); rintro e w' ⟨rfl, hg⟩; refine ⟨?_, hg⟩; with_reducible rfl)
                       simp only [Act.put, List.setIfInBounds_toArray, List.set_cons_zero, List.set_cons_succ]))
                refine Rg.wpDets_nil ?_
                refine Rg.wpFlts_nil ?_
                refine Rg.wpLays_nil ?_
                intro w8 hK
                have hg : Gr _ w8 := hK.up
                have hc := Gr.cells hg
                have hf := Gr.frees hg
                have hz := Gr.size hg
                try simp only [World.size_alloc, World.size_setCell, World.size_drew] at hz
                try have : 0 < w8.heap.size := by omega
                try have : w.heap.size < w8.heap.size := by omega
                try have : w.heap.size + 1 < w8.heap.size := by omega
                try have : w.heap.size + 1 + 1 < w8.heap.size := by omega
                try have : w.heap.size + 1 + 1 + 1 < w8.heap.size := by omega
                try have : w1.heap.size < w8.heap.size := by omega
                try have : w1.heap.size + 1 < w8.heap.size := by omega
                try have : w2.heap.size < w8.heap.size := by omega
                try have : w2.heap.size + 1 < w8.heap.size := by omega
                try have : w3.heap.size < w8.heap.size := by omega
                try have : w3.heap.size + 1 < w8.heap.size := by omega
                try have : w4.heap.size < w8.heap.size := by omega
                try have : w4.heap.size + 1 < w8.heap.size := by omega
                try have : w5.heap.size < w8.heap.size := by omega
                try have : w5.heap.size + 1 < w8.heap.size := by omega
                try have : w6.heap.size < w8.heap.size := by omega
                try have : w6.heap.size + 1 < w8.heap.size := by omega
                try have : w7.heap.size < w8.heap.size := by omega
                try have : w7.heap.size + 1 < w8.heap.size := by omega
                have hg8 := hg
                have d0 := hg8.keep d0
                have d1 := hg8.keep d1
                have d2 := hg8.keep d2
                have zz0 := lt_of_cell d0
                have zz1 := lt_of_cell d1
                have zz2 := lt_of_cell d2
                have CM3 : ∀ W, Rg.Up w8 W → Calls Tryd.prog 21 #[.slice (gx D k).oa (gx D k).l.length (gx D k).c, .slice (gx l i).oa (gx l i).l.length (gx l i).c] W fun e w' => e = .returned (.int .i64 C2) ∧ Gr W w' := fun W hW => CM2 W (Gr.trans hg8 hW)
                clear hg
                go_upto_region 15 with (fail)
                refine Rg.region_text 9 (Below.drew (Below.refl _ _)) (by kernel_rfl) (by kernel_rfl) (fun _ _ d _ _ h => by cases d <;> exact h) ?_
                simp only [List.append_eq, List.cons_append, List.nil_append, List.take_succ_cons, List.take_zero, List.drop_succ_cons, List.drop_zero]
                repeat (first
                    | (refine Rg.wpDets_skip (by rfl) ?_; simp only [Act.put, List.setIfInBounds_toArray, List.set_cons_zero, List.set_cons_succ])
                    | (refine Rg.wpDets_step ?_ (by rfl) (fun w hS => ?_) ?_
                       rotate_left
                       · have hc := Gr.cells hS
                         have hf := Gr.frees hS
                         go_simp
                         first
                         | (refine ⟨?_, Below.refl _ _⟩; with_reducible rfl)
                         | ((with_reducible refine (CM3 _ hS).mono ?_); rintro e w' ⟨rfl, hg⟩; refine ⟨?_, hg⟩; with_reducible rfl)
                       simp only [Act.put, List.setIfInBounds_toArray, List.set_cons_zero, List.set_cons_succ]))
                refine Rg.wpDets_nil ?_
                refine Rg.wpFlts_nil ?_
                refine Rg.wpLays_nil ?_
                intro w9 hK
                have hg : Gr _ w9 := hK.up
                have hc := Gr.cells hg
                have hf := Gr.frees hg
                have hz := Gr.size hg
                try simp only [World.size_alloc, World.size_setCell, World.size_drew] at hz
                try have : 0 < w9.heap.size := by omega
                try have : w.heap.size < w9.heap.size := by omega
                try have : w.heap.size + 1 < w9.heap.size := by omega
                try have : w.heap.size + 1 + 1 < w9.heap.size := by omega
                try have : w.heap.size + 1 + 1 + 1 < w9.heap.size := by omega
                try have : w1.heap.size < w9.heap.size := by omega
                try have : w1.heap.size + 1 < w9.heap.size := by omega
                try have : w2.heap.size < w9.heap.size := by omega
                try have : w2.heap.size + 1 < w9.heap.size := by omega
                try have : w3.heap.size < w9.heap.size := by omega
                try have : w3.heap.size + 1 < w9.heap.size := by omega
                try have : w4.heap.size < w9.heap.size := by omega
                try have : w4.heap.size + 1 < w9.heap.size := by omega
                try have : w5.heap.size < w9.heap.size := by omega
                try have : w5.heap.size + 1 < w9.heap.size := by omega
                try have : w6.heap.size < w9.heap.size := by omega
                try have : w6.heap.size + 1 < w9.heap.size := by omega
                try have : w7.heap.size < w9.heap.size := by omega
                try have : w7.heap.size + 1 < w9.heap.size := by omega
                try have : w8.heap.size < w9.heap.size := by omega
                try have : w8.heap.size + 1 < w9.heap.size := by omega
                have FI2 := hid (FI.out _ (hg8.trans hg))
                clear FI CM1 CM2 CM3 hg hg8 d0 d1 d2
                go_wp2
                exact ⟨FI2.out, by simp [intOf]; omega⟩
              · skip
                have e1 : (C1 == 0) = true := by rw [beq_iff_eq]; exact h1
                have e2 : (C2 == 0) = false := by rw [beq_eq_false_iff_ne]; exact h2
                have FI : Hid (∀ W, Gr wr W → ∃ k' : Nat, (Value.int .i64 ((k : Int) + 1)) = .int .i64 (k' : Int) ∧ (Value.int .i64 ((n : Int) + 1)) = .int .i64 ((cn l x k' : Nat) : Int) ∧ (Value.int .i64 (mm : Int)) = .int .i64 ((cn D x k' : Nat) : Int) ∧ k' ≤ N ∧ Gr ws W) := hid (fun W hW => ⟨k + 1, by go_num, by rw [SN.out, if_pos h1]; first | rfl | go_num, by rw [SM.out, if_neg h2]; first | rfl | go_num, by omega, HG.out.trans hW⟩)
                clear SN SM 
                go_upto_region 13 with (fail)
                refine Rg.region_text 9 (Below.drew (Below.refl _ _)) (by kernel_rfl) (by kernel_rfl) (fun _ _ d _ _ h => by cases d <;> exact h) ?_
                simp only [List.append_eq, List.cons_append, List.nil_append, List.take_succ_cons, List.take_zero, List.drop_succ_cons, List.drop_zero]
                repeat (first
                    | (refine Rg.wpDets_skip (by rfl) ?_; simp only [Act.put, List.setIfInBounds_toArray, List.set_cons_zero, List.set_cons_succ])
                    | (refine Rg.wpDets_step ?_ (by rfl) (fun w hS => ?_) ?_
                       rotate_left
                       · have hc := Gr.cells hS
                         have hf := Gr.frees hS
                         go_simp
                         first
                         | (refine ⟨?_, Below.refl _ _⟩; with_reducible rfl)
                         | ((with_reducible refine (CM1 _ hS).mono ?_); rintro e w' ⟨rfl, hg⟩; refine ⟨?_, hg⟩; with_reducible rfl)
                       simp only [Act.put, List.setIfInBounds_toArray, List.set_cons_zero, List.set_cons_succ]))
                refine Rg.wpDets_nil ?_
                refine Rg.wpFlts_nil ?_
                refine Rg.wpLays_nil ?_
                intro w8 hK
                have hg : Gr _ w8 := hK.up
                have hc := Gr.cells hg
                have hf := Gr.frees hg
                have hz := Gr.size hg
                try simp only [World.size_alloc, World.size_setCell, World.size_drew] at hz
                try have : 0 < w8.heap.size := by omega
                try have : w.heap.size < w8.heap.size := by omega
                try have : w.heap.size + 1 < w8.heap.size := by omega
                try have : w.heap.size + 1 + 1 < w8.heap.size := by omega
                try have : w.heap.size + 1 + 1 + 1 < w8.heap.size := by omega
                try have : w1.heap.size < w8.heap.size := by omega
                try have : w1.heap.size + 1 < w8.heap.size := by omega
                try have : w2.heap.size < w8.heap.size := by omega
                try have : w2.heap.size + 1 < w8.heap.size := by omega
                try have : w3.heap.size < w8.heap.size := by omega
                try have : w3.heap.size + 1 < w8.heap.size := by omega
                try have : w4.heap.size < w8.heap.size := by omega
                try have : w4.heap.size + 1 < w8.heap.size := by omega
                try have : w5.heap.size < w8.heap.size := by omega
                try have : w5.heap.size + 1 < w8.heap.size := by omega
                try have : w6.heap.size < w8.heap.size := by omega
                try have : w6.heap.size + 1 < w8.heap.size := by omega
                try have : w7.heap.size < w8.heap.size := by omega
                try have : w7.heap.size + 1 < w8.heap.size := by omega
                have hg8 := hg
                have d0 := hg8.keep d0
                have d1 := hg8.keep d1
                have d2 := hg8.keep d2
                have zz0 := lt_of_cell d0
                have zz1 := lt_of_cell d1
                have zz2 := lt_of_cell d2
                have CM3 : ∀ W, Rg.Up w8 W → Calls Tryd.prog 21 #[.slice (gx D k).oa (gx D k).l.length (gx D k).c, .slice (gx l i).oa (gx l i).l.length (gx l i).c] W fun e w' => e = .returned (.int .i64 C2) ∧ Gr W w' := fun W hW => CM2 W (Gr.trans hg8 hW)
                clear hg
                go_upto_region 15 with (fail)
                refine Rg.region_text 9 (Below.drew (Below.refl _ _)) (by kernel_rfl) (by kernel_rfl) (fun _ _ d _ _ h => by cases d <;> exact h) ?_
                simp only [List.append_eq, List.cons_append, List.nil_append, List.take_succ_cons, List.take_zero, List.drop_succ_cons, List.drop_zero]
                repeat (first
                    | (refine Rg.wpDets_skip (by rfl) ?_; simp only [Act.put, List.setIfInBounds_toArray, List.set_cons_zero, List.set_cons_succ])
                    | (refine Rg.wpDets_step ?_ (by rfl) (fun w hS => ?_) ?_
                       rotate_left
                       · have hc := Gr.cells hS
                         have hf := Gr.frees hS
                         go_simp
                         first
                         | (refine ⟨?_, Below.refl _ _⟩; with_reducible rfl)
                         | ((with_reducible refine (CM3 _ hS).mono ?_); rintro e w' ⟨rfl, hg⟩; refine ⟨?_, hg⟩; with_reducible rfl)
                       simp only [Act.put, List.setIfInBounds_toArray, List.set_cons_zero, List.set_cons_succ]))
                refine Rg.wpDets_nil ?_
                refine Rg.wpFlts_nil ?_
                refine Rg.wpLays_nil ?_
                intro w9 hK
                have hg : Gr _ w9 := hK.up
                have hc := Gr.cells hg
                have hf := Gr.frees hg
                have hz := Gr.size hg
                try simp only [World.size_alloc, World.size_setCell, World.size_drew] at hz
                try have : 0 < w9.heap.size := by omega
                try have : w.heap.size < w9.heap.size := by omega
                try have : w.heap.size + 1 < w9.heap.size := by omega
                try have : w.heap.size + 1 + 1 < w9.heap.size := by omega
                try have : w.heap.size + 1 + 1 + 1 < w9.heap.size := by omega
                try have : w1.heap.size < w9.heap.size := by omega
                try have : w1.heap.size + 1 < w9.heap.size := by omega
                try have : w2.heap.size < w9.heap.size := by omega
                try have : w2.heap.size + 1 < w9.heap.size := by omega
                try have : w3.heap.size < w9.heap.size := by omega
                try have : w3.heap.size + 1 < w9.heap.size := by omega
                try have : w4.heap.size < w9.heap.size := by omega
                try have : w4.heap.size + 1 < w9.heap.size := by omega
                try have : w5.heap.size < w9.heap.size := by omega
                try have : w5.heap.size + 1 < w9.heap.size := by omega
                try have : w6.heap.size < w9.heap.size := by omega
                try have : w6.heap.size + 1 < w9.heap.size := by omega
                try have : w7.heap.size < w9.heap.size := by omega
                try have : w7.heap.size + 1 < w9.heap.size := by omega
                try have : w8.heap.size < w9.heap.size := by omega
                try have : w8.heap.size + 1 < w9.heap.size := by omega
                have FI2 := hid (FI.out _ (hg8.trans hg))
                clear FI CM1 CM2 CM3 hg hg8 d0 d1 d2
                go_wp2
                exact ⟨FI2.out, by simp [intOf]; omega⟩
            · by_cases h2 : C2 = 0
              · skip
                have e1 : (C1 == 0) = false := by rw [beq_eq_false_iff_ne]; exact h1
                have e2 : (C2 == 0) = true := by rw [beq_iff_eq]; exact h2
                have FI : Hid (∀ W, Gr wr W → ∃ k' : Nat, (Value.int .i64 ((k : Int) + 1)) = .int .i64 (k' : Int) ∧ (Value.int .i64 (n : Int)) = .int .i64 ((cn l x k' : Nat) : Int) ∧ (Value.int .i64 ((mm : Int) + 1)) = .int .i64 ((cn D x k' : Nat) : Int) ∧ k' ≤ N ∧ Gr ws W) := hid (fun W hW => ⟨k + 1, by go_num, by rw [SN.out, if_neg h1]; first | rfl | go_num, by rw [SM.out, if_pos h2]; first | rfl | go_num, by omega, HG.out.trans hW⟩)
                clear SN SM 
                go_upto_region 13 with (fail)
                refine Rg.region_text 9 (Below.drew (Below.refl _ _)) (by kernel_rfl) (by kernel_rfl) (fun _ _ d _ _ h => by cases d <;> exact h) ?_
                simp only [List.append_eq, List.cons_append, List.nil_append, List.take_succ_cons, List.take_zero, List.drop_succ_cons, List.drop_zero]
                repeat (first
                    | (refine Rg.wpDets_skip (by rfl) ?_; simp only [Act.put, List.setIfInBounds_toArray, List.set_cons_zero, List.set_cons_succ])
                    | (refine Rg.wpDets_step ?_ (by rfl) (fun w hS => ?_) ?_
                       rotate_left
                       · have hc := Gr.cells hS
                         have hf := Gr.frees hS
                         go_simp
                         first
                         | (refine ⟨?_, Below.refl _ _⟩; with_reducible rfl)
                         | ((with_reducible refine (CM1 _ hS).mono ?_); rintro e w' ⟨rfl, hg⟩; refine ⟨?_, hg⟩; with_reducible rfl)
                       simp only [Act.put, List.setIfInBounds_toArray, List.set_cons_zero, List.set_cons_succ]))
                refine Rg.wpDets_nil ?_
                refine Rg.wpFlts_nil ?_
                refine Rg.wpLays_nil ?_
                intro w8 hK
                have hg : Gr _ w8 := hK.up
                have hc := Gr.cells hg
                have hf := Gr.frees hg
                have hz := Gr.size hg
                try simp only [World.size_alloc, World.size_setCell, World.size_drew] at hz
                try have : 0 < w8.heap.size := by omega
                try have : w.heap.size < w8.heap.size := by omega
                try have : w.heap.size + 1 < w8.heap.size := by omega
                try have : w.heap.size + 1 + 1 < w8.heap.size := by omega
                try have : w.heap.size + 1 + 1 + 1 < w8.heap.size := by omega
                try have : w1.heap.size < w8.heap.size := by omega
                try have : w1.heap.size + 1 < w8.heap.size := by omega
                try have : w2.heap.size < w8.heap.size := by omega
                try have : w2.heap.size + 1 < w8.heap.size := by omega
                try have : w3.heap.size < w8.heap.size := by omega
                try have : w3.heap.size + 1 < w8.heap.size := by omega
                try have : w4.heap.size < w8.heap.size := by omega
                try have : w4.heap.size + 1 < w8.heap.size := by omega
                try have : w5.heap.size < w8.heap.size := by omega
                try have : w5.heap.size + 1 < w8.heap.size := by omega
                try have : w6.heap.size < w8.heap.size := by omega
                try have : w6.heap.size + 1 < w8.heap.size := by omega
                try have : w7.heap.size < w8.heap.size := by omega
                try have : w7.heap.size + 1 < w8.heap.size := by omega
                have hg8 := hg
                have d0 := hg8.keep d0
                have d1 := hg8.keep d1
                have d2 := hg8.keep d2
                have zz0 := lt_of_cell d0
                have zz1 := lt_of_cell d1
                have zz2 := lt_of_cell d2
                have CM3 : ∀ W, Rg.Up w8 W → Calls Tryd.prog 21 #[.slice (gx D k).oa (gx D k).l.length (gx D k).c, .slice (gx l i).oa (gx l i).l.length (gx l i).c] W fun e w' => e = .returned (.int .i64 C2) ∧ Gr W w' := fun W hW => CM2 W (Gr.trans hg8 hW)
                clear hg
                go_upto_region 15 with (fail)
                refine Rg.region_text 9 (Below.drew (Below.refl _ _)) (by kernel_rfl) (by kernel_rfl) (fun _ _ d _ _ h => by cases d <;> exact h) ?_
                simp only [List.append_eq, List.cons_append, List.nil_append, List.take_succ_cons, List.take_zero, List.drop_succ_cons, List.drop_zero]
                repeat (first
                    | (refine Rg.wpDets_skip (by rfl) ?_; simp only [Act.put, List.setIfInBounds_toArray, List.set_cons_zero, List.set_cons_succ])
                    | (refine Rg.wpDets_step ?_ (by rfl) (fun w hS => ?_) ?_
                       rotate_left
                       · have hc := Gr.cells hS
                         have hf := Gr.frees hS
                         go_simp
                         first
                         | (refine ⟨?_, Below.refl _ _⟩; with_reducible rfl)
                         | ((with_reducible refine (CM3 _ hS).mono ?_); rintro e w' ⟨rfl, hg⟩; refine ⟨?_, hg⟩; with_reducible rfl)
                       simp only [Act.put, List.setIfInBounds_toArray, List.set_cons_zero, List.set_cons_succ]))
                refine Rg.wpDets_nil ?_
                refine Rg.wpFlts_nil ?_
                refine Rg.wpLays_nil ?_
                intro w9 hK
                have hg : Gr _ w9 := hK.up
                have hc := Gr.cells hg
                have hf := Gr.frees hg
                have hz := Gr.size hg
                try simp only [World.size_alloc, World.size_setCell, World.size_drew] at hz
                try have : 0 < w9.heap.size := by omega
                try have : w.heap.size < w9.heap.size := by omega
                try have : w.heap.size + 1 < w9.heap.size := by omega
                try have : w.heap.size + 1 + 1 < w9.heap.size := by omega
                try have : w.heap.size + 1 + 1 + 1 < w9.heap.size := by omega
                try have : w1.heap.size < w9.heap.size := by omega
                try have : w1.heap.size + 1 < w9.heap.size := by omega
                try have : w2.heap.size < w9.heap.size := by omega
                try have : w2.heap.size + 1 < w9.heap.size := by omega
                try have : w3.heap.size < w9.heap.size := by omega
                try have : w3.heap.size + 1 < w9.heap.size := by omega
                try have : w4.heap.size < w9.heap.size := by omega
                try have : w4.heap.size + 1 < w9.heap.size := by omega
                try have : w5.heap.size < w9.heap.size := by omega
                try have : w5.heap.size + 1 < w9.heap.size := by omega
                try have : w6.heap.size < w9.heap.size := by omega
                try have : w6.heap.size + 1 < w9.heap.size := by omega
                try have : w7.heap.size < w9.heap.size := by omega
                try have : w7.heap.size + 1 < w9.heap.size := by omega
                try have : w8.heap.size < w9.heap.size := by omega
                try have : w8.heap.size + 1 < w9.heap.size := by omega
                have FI2 := hid (FI.out _ (hg8.trans hg))
                clear FI CM1 CM2 CM3 hg hg8 d0 d1 d2
                go_wp2
                exact ⟨FI2.out, by simp [intOf]; omega⟩
              · skip
                have e1 : (C1 == 0) = false := by rw [beq_eq_false_iff_ne]; exact h1
                have e2 : (C2 == 0) = false := by rw [beq_eq_false_iff_ne]; exact h2
                have FI : Hid (∀ W, Gr wr W → ∃ k' : Nat, (Value.int .i64 ((k : Int) + 1)) = .int .i64 (k' : Int) ∧ (Value.int .i64 (n : Int)) = .int .i64 ((cn l x k' : Nat) : Int) ∧ (Value.int .i64 (mm : Int)) = .int .i64 ((cn D x k' : Nat) : Int) ∧ k' ≤ N ∧ Gr ws W) := hid (fun W hW => ⟨k + 1, by go_num, by rw [SN.out, if_neg h1]; first | rfl | go_num, by rw [SM.out, if_neg h2]; first | rfl | go_num, by omega, HG.out.trans hW⟩)
                clear SN SM 
                go_upto_region 13 with (fail)
                refine Rg.region_text 9 (Below.drew (Below.refl _ _)) (by kernel_rfl) (by kernel_rfl) (fun _ _ d _ _ h => by cases d <;> exact h) ?_
                simp only [List.append_eq, List.cons_append, List.nil_append, List.take_succ_cons, List.take_zero, List.drop_succ_cons, List.drop_zero]
                repeat (first
                    | (refine Rg.wpDets_skip (by rfl) ?_; simp only [Act.put, List.setIfInBounds_toArray, List.set_cons_zero, List.set_cons_succ])
                    | (refine Rg.wpDets_step ?_ (by rfl) (fun w hS => ?_) ?_
                       rotate_left
                       · have hc := Gr.cells hS
                         have hf := Gr.frees hS
                         go_simp
                         first
                         | (refine ⟨?_, Below.refl _ _⟩; with_reducible rfl)
                         | ((with_reducible refine (CM1 _ hS).mono ?_); rintro e w' ⟨rfl, hg⟩; refine ⟨?_, hg⟩; with_reducible rfl)
                       simp only [Act.put, List.setIfInBounds_toArray, List.set_cons_zero, List.set_cons_succ]))
                refine Rg.wpDets_nil ?_
                refine Rg.wpFlts_nil ?_
                refine Rg.wpLays_nil ?_
                intro w8 hK
                have hg : Gr _ w8 := hK.up
                have hc := Gr.cells hg
                have hf := Gr.frees hg
                have hz := Gr.size hg
                try simp only [World.size_alloc, World.size_setCell, World.size_drew] at hz
                try have : 0 < w8.heap.size := by omega
                try have : w.heap.size < w8.heap.size := by omega
                try have : w.heap.size + 1 < w8.heap.size := by omega
                try have : w.heap.size + 1 + 1 < w8.heap.size := by omega
                try have : w.heap.size + 1 + 1 + 1 < w8.heap.size := by omega
                try have : w1.heap.size < w8.heap.size := by omega
                try have : w1.heap.size + 1 < w8.heap.size := by omega
                try have : w2.heap.size < w8.heap.size := by omega
                try have : w2.heap.size + 1 < w8.heap.size := by omega
                try have : w3.heap.size < w8.heap.size := by omega
                try have : w3.heap.size + 1 < w8.heap.size := by omega
                try have : w4.heap.size < w8.heap.size := by omega
                try have : w4.heap.size + 1 < w8.heap.size := by omega
                try have : w5.heap.size < w8.heap.size := by omega
                try have : w5.heap.size + 1 < w8.heap.size := by omega
                try have : w6.heap.size < w8.heap.size := by omega
                try have : w6.heap.size + 1 < w8.heap.size := by omega
                try have : w7.heap.size < w8.heap.size := by omega
                try have : w7.heap.size + 1 < w8.heap.size := by omega
                have hg8 := hg
                have d0 := hg8.keep d0
                have d1 := hg8.keep d1
                have d2 := hg8.keep d2
                have zz0 := lt_of_cell d0
                have zz1 := lt_of_cell d1
                have zz2 := lt_of_cell d2
                have CM3 : ∀ W, Rg.Up w8 W → Calls Tryd.prog 21 #[.slice (gx D k).oa (gx D k).l.length (gx D k).c, .slice (gx l i).oa (gx l i).l.length (gx l i).c] W fun e w' => e = .returned (.int .i64 C2) ∧ Gr W w' := fun W hW => CM2 W (Gr.trans hg8 hW)
                clear hg
                go_upto_region 15 with (fail)
                refine Rg.region_text 9 (Below.drew (Below.refl _ _)) (by kernel_rfl) (by kernel_rfl) (fun _ _ d _ _ h => by cases d <;> exact h) ?_
                simp only [List.append_eq, List.cons_append, List.nil_append, List.take_succ_cons, List.take_zero, List.drop_succ_cons, List.drop_zero]
                repeat (first
                    | (refine Rg.wpDets_skip (by rfl) ?_; simp only [Act.put, List.setIfInBounds_toArray, List.set_cons_zero, List.set_cons_succ])
                    | (refine Rg.wpDets_step ?_ (by rfl) (fun w hS => ?_) ?_
                       rotate_left
                       · have hc := Gr.cells hS
                         have hf := Gr.frees hS
                         go_simp
                         first
                         | (refine ⟨?_, Below.refl _ _⟩; with_reducible rfl)
                         | ((with_reducible refine (CM3 _ hS).mono ?_); rintro e w' ⟨rfl, hg⟩; refine ⟨?_, hg⟩; with_reducible rfl)
                       simp only [Act.put, List.setIfInBounds_toArray, List.set_cons_zero, List.set_cons_succ]))
                refine Rg.wpDets_nil ?_
                refine Rg.wpFlts_nil ?_
                refine Rg.wpLays_nil ?_
                intro w9 hK
                have hg : Gr _ w9 := hK.up
                have hc := Gr.cells hg
                have hf := Gr.frees hg
                have hz := Gr.size hg
                try simp only [World.size_alloc, World.size_setCell, World.size_drew] at hz
                try have : 0 < w9.heap.size := by omega
                try have : w.heap.size < w9.heap.size := by omega
                try have : w.heap.size + 1 < w9.heap.size := by omega
                try have : w.heap.size + 1 + 1 < w9.heap.size := by omega
                try have : w.heap.size + 1 + 1 + 1 < w9.heap.size := by omega
                try have : w1.heap.size < w9.heap.size := by omega
                try have : w1.heap.size + 1 < w9.heap.size := by omega
                try have : w2.heap.size < w9.heap.size := by omega
                try have : w2.heap.size + 1 < w9.heap.size := by omega
                try have : w3.heap.size < w9.heap.size := by omega
                try have : w3.heap.size + 1 < w9.heap.size := by omega
                try have : w4.heap.size < w9.heap.size := by omega
                try have : w4.heap.size + 1 < w9.heap.size := by omega
                try have : w5.heap.size < w9.heap.size := by omega
                try have : w5.heap.size + 1 < w9.heap.size := by omega
                try have : w6.heap.size < w9.heap.size := by omega
                try have : w6.heap.size + 1 < w9.heap.size := by omega
                try have : w7.heap.size < w9.heap.size := by omega
                try have : w7.heap.size + 1 < w9.heap.size := by omega
                try have : w8.heap.size < w9.heap.size := by omega
                try have : w8.heap.size + 1 < w9.heap.size := by omega
                have FI2 := hid (FI.out _ (hg8.trans hg))
                clear FI CM1 CM2 CM3 hg hg8 d0 d1 d2
                go_wp2
                exact ⟨FI2.out, by simp [intOf]; omega⟩
          · have hke : k = N := by omega
            subst hke
            have r1 : decide ((k : Int) < (k : Int)) = false := by rw [decide_eq_false_iff_not]; omega
            have hnm : n = mm := by
              have h1 := cn_perm x HDP.out
              rw [HN.out, HDL.out] at h1
              omega
            subst hnm
            have n1 : ((n : Int) == (n : Int)) = true := by simp
            have n2 : ((n : Int) != (n : Int)) = false := by simp
            obtain ⟨xo, hxo⟩ : ∃ o, (gx l i).oa = o := ⟨_, rfl⟩
            obtain ⟨xc, hxc⟩ : ∃ o, (gx l i).c = o := ⟨_, rfl⟩
            have hri := HR.out _ (gx_mem l i (by rw [HN.out]; exact hiN))
            rw [HX.out] at hri
            have XL : Hid (x.length ≤ 1000000) := hid (by have := hri.1.2.1; rw [HX.out] at this; exact this)
            have XSP := hid (clean_split hri.2.1)
            have VX : Hid (∀ W, Gr ws W → VAt W xo x) := hid (fun W hW => by
              have := (HLX.out W hW i hiN).1
              rw [HX.out, hxo] at this; exact this)
            have CX : Hid (∀ W, Gr ws W → W.cell? ⟨b, off + i, none⟩ = some (.slice xo x.length xc)) := hid (fun W hW => by
              have := HLC2.out W hW i hiN
              rw [HX.out, hxo, hxc] at this; exact this)
            obtain ⟨EV, hEV⟩ : ∃ z : Int, (if (joinV x).length ≤ 480 then (0 : Int) else 170) = z := ⟨_, rfl⟩
            have HEV := hid hEV
            have CE : Hid (∀ W, Gr ws W → Calls Tryd.prog 12 #[.slice xo x.length xc] W fun e w' => ∃ oa n c, e = .returned (.tuple #[.slice oa n c, .int .i64 EV]) ∧ (n = if (joinV x).length ≤ 480 then (joinV x).length else 0) ∧ n ≤ c ∧ ((joinV x).length ≤ 480 → BAt w' oa (joinV x)) ∧ Gr W w') := hid (fun W (hW : Gr ws W) => (rowenc_any xo xc x W (by have := XL.out; omega) (VX.out W hW) hri.2.1 hri.2.2).mono (fun e w' h => by unfold RowE at h; rw [hEV] at h; exact h))
            clear hEV
            have dd := CX.out _ HG.out
            have dz := lt_of_cell dd
            clear hri hn hmm hn40 hm40
            by_cases hi0 : i = 0
            · have f2 : ¬ ((0 : Int) < (i : Int)) := by omega
              have f3 : decide ((0 : Int) < (i : Int)) = false := by rw [decide_eq_false_iff_not]; exact f2
              have f4 : decide (0 < i) = false := by rw [decide_eq_false_iff_not]; omega
              clear hi0
              go_upto_region 17 with (fail)
              refine Rg.region_text 19 (Below.drew (Below.refl _ _)) (by kernel_rfl) (by kernel_rfl) (fun _ _ d _ _ h => by cases d <;> exact h) ?_
              simp only [List.append_eq, List.cons_append, List.nil_append, List.take_succ_cons, List.take_zero, List.drop_succ_cons, List.drop_zero]
              repeat (first
                  | (refine Rg.wpDets_skip (by rfl) ?_; simp only [Act.put, List.setIfInBounds_toArray, List.set_cons_zero, List.set_cons_succ])
                  | (refine Rg.wpDets_step ?_ (by rfl) (fun w hS => ?_) ?_
                     rotate_left
                     · have hc := Gr.cells hS
                       have hf := Gr.frees hS
                       go_simp
                       first
                       | (refine ⟨?_, Below.refl _ _⟩; with_reducible rfl)
                     simp only [Act.put, List.setIfInBounds_toArray, List.set_cons_zero, List.set_cons_succ]))
              refine Rg.wpDets_nil ?_
              refine Rg.wpFlts_nil ?_
              refine Rg.wpLays_nil ?_
              intro w9 hK
              have hg : Gr _ w9 := hK.up
              have hc := Gr.cells hg
              have hf := Gr.frees hg
              have hz := Gr.size hg
              try simp only [World.size_alloc, World.size_setCell, World.size_drew] at hz
              try have : 0 < w9.heap.size := by omega
              try have : w.heap.size < w9.heap.size := by omega
              try have : w.heap.size + 1 < w9.heap.size := by omega
              try have : w.heap.size + 1 + 1 < w9.heap.size := by omega
              try have : w.heap.size + 1 + 1 + 1 < w9.heap.size := by omega
              try have : w1.heap.size < w9.heap.size := by omega
              try have : w1.heap.size + 1 < w9.heap.size := by omega
              try have : w2.heap.size < w9.heap.size := by omega
              try have : w2.heap.size + 1 < w9.heap.size := by omega
              try have : w3.heap.size < w9.heap.size := by omega
              try have : w3.heap.size + 1 < w9.heap.size := by omega
              try have : w4.heap.size < w9.heap.size := by omega
              try have : w4.heap.size + 1 < w9.heap.size := by omega
              try have : w5.heap.size < w9.heap.size := by omega
              try have : w5.heap.size + 1 < w9.heap.size := by omega
              try have : w6.heap.size < w9.heap.size := by omega
              try have : w6.heap.size + 1 < w9.heap.size := by omega
              try have : w7.heap.size < w9.heap.size := by omega
              try have : w7.heap.size + 1 < w9.heap.size := by omega
              try have : w8.heap.size < w9.heap.size := by omega
              try have : w8.heap.size + 1 < w9.heap.size := by omega
              have dd := hg.keep dd
              have dz := lt_of_cell dd
              have HG9 := hid (HG.out.trans hg)
              clear hg
              go_wp2_with fail
              refine (CE.out _ HG9.out).mono ?_
              rintro e w10 ⟨oe, ne, ce, rfl, hne, hce, hbe, hge⟩
              have HG10 := hid (HG9.out.trans hge)
              have HBE := hid hbe
              have HNE := hid hne
              clear hge hbe hne HG9 CE
              go_wp2_with fail
              go_loopw [12] (fun s12 wr => ∃ q : Nat, s12 = .int .i64 (q : Int) ∧ q ≤ x.length ∧ (∀ v ∈ x.take q, 0 ≤ v.t ∧ v.t ≤ 3) ∧ Gr w10 wr) (fun s12 _ => x.length - (intOf s12).toNat)
              case atStart => exact ⟨0, rfl, Nat.zero_le _, fun v hv => by simp at hv, Gr.refl _⟩
              case round =>
                obtain ⟨q, rfl, hq, hok, hgq⟩ := hrel
                have HOK := hid hok
                have HGQ := hid hgq
                have HGA := hid (HG10.out.trans hgq)
                clear hok hgq
                have dd := CX.out _ HGA.out
                have dz := lt_of_cell dd
                by_cases hqx : q < x.length
                · obtain ⟨b5, off5, hxo5, y0, _⟩ := v_get (VX.out _ HGA.out) q hqx
                  have yz := lt_of_cell y0
                  have HTK : Hid (∀ v ∈ x.take (q + 1), v ∈ x.take q ∨ v = x[q]) := hid (fun v hv => by
                    rw [List.take_add_one, List.getElem?_eq_getElem hqx] at hv
                    rcases List.mem_append.1 hv with h | h
                    · exact .inl h
                    · exact .inr (by simpa using h))
                  generalize x[q] = v at *
                  obtain ⟨t0, ht0⟩ : ∃ t, v.t = t := ⟨_, rfl⟩
                  rw [ht0] at y0
                  have HT0 := hid ht0
                  clear ht0
                  have s1 : decide ((q : Int) < (x.length : Int)) = true := by rw [decide_eq_true_iff]; omega
                  have s2 : (q : Int) < (x.length : Int) := by omega
                  have s3 : (0 : Int) ≤ (q : Int) := by omega
                  have hxl := XL.out
                  obtain ⟨L, hL⟩ : ∃ L, x.length = L := ⟨_, rfl⟩
                  have HL := hid hL
                  rw [hL] at s1 s2 hq hqx hxl dd ⊢
                  have s4 : decide (q < L) = true := by rw [decide_eq_true_iff]; exact hqx
                  rw [hxo5] at dd
                  clear hL hxo5
                  by_cases hneg : t0 < 0
                  · have e1 : decide (t0 < 0) = true := by rw [decide_eq_true_iff]; exact hneg
                    clear HTK HOK HT0
                    go_wp2_with fail
                    refine (AW.out _ (HG2.out.trans HGA.out)).mono ?_
                    rintro e w11 ⟨rfl, hga⟩
                    have HFI := hid ((HG2.out.trans HGA.out).trans hga)
                    clear hga
                    go_wp2
                    first | exact ⟨rfl, HFI.out⟩ | (go_ret; exact ⟨rfl, HFI.out⟩)
                  · have e1 : decide (t0 < 0) = false := by rw [decide_eq_false_iff_not]; exact hneg
                    by_cases hbig : 3 < t0
                    · have e2 : decide (3 < t0) = true := by rw [decide_eq_true_iff]; exact hbig
                      clear HTK HOK HT0
                      go_wp2_with fail
                      refine (AW.out _ (HG2.out.trans HGA.out)).mono ?_
                      rintro e w11 ⟨rfl, hga⟩
                      have HFI := hid ((HG2.out.trans HGA.out).trans hga)
                      clear hga
                      go_wp2
                      first | exact ⟨rfl, HFI.out⟩ | (go_ret; exact ⟨rfl, HFI.out⟩)
                    · have e2 : decide (3 < t0) = false := by rw [decide_eq_false_iff_not]; exact hbig
                      have FI : Hid (∃ q' : Nat, (Value.int .i64 ((q : Int) + 1)) = .int .i64 (q' : Int) ∧ q' ≤ L ∧ (∀ v ∈ x.take q', 0 ≤ v.t ∧ v.t ≤ 3) ∧ Gr w10 wr) := hid ⟨q + 1, by go_num, by omega, fun v' hv => by
                        rcases HTK.out v' hv with h | h
                        · exact HOK.out v' h
                        · rw [h, HT0.out]; omega, HGQ.out⟩
                      clear HTK HOK HT0 HGQ
                      go_wp2
                      exact ⟨FI.out, by simp [intOf]; omega⟩
                · have hqe : q = x.length := by omega
                  have hall : ∀ v ∈ x, 0 ≤ v.t ∧ v.t ≤ 3 := by
                    have h1 := HOK.out
                    rw [hqe, List.take_length] at h1
                    exact h1
                  have HCL : Hid (cmpR (x.map cleanV) x = 0) := hid (clean_row x hall)
                  have s1 : decide ((q : Int) < (x.length : Int)) = false := by rw [decide_eq_false_iff_not]; omega
                  obtain ⟨L, hL⟩ : ∃ L, x.length = L := ⟨_, rfl⟩
                  have HL := hid hL
                  have hxl := XL.out
                  rw [hL] at s1 hq hqx hqe dd hxl ⊢
                  have s4 : decide (q < L) = false := by rw [decide_eq_false_iff_not]; exact hqx
                  have FI : Hid (∀ W, Gr wr W → ∃ i' : Nat, (Value.int .i64 ((i : Int) + 1)) = .int .i64 (i' : Int) ∧ i' ≤ k ∧ Gr ws W) := hid (fun W hW => ⟨i + 1, by go_num, by omega, HGA.out.trans hW⟩)
                  clear hall HOK hL hqe
                  by_cases h480 : (joinV x).length ≤ 480
                  · have hn1 : ne = (joinV x).length := by have := HNE.out; rw [if_pos h480] at this; exact this
                    subst hn1
                    have hE0 : EV = 0 := by rw [← HEV.out, if_pos h480]
                    subst hE0
                    have DE := hid (fun W (hW : Gr w10 W) => rdec_any oe ce (joinV x) W hce ((HBE.out h480).keep hW) XSP.out.2 (by omega))
                    have hspl := XSP.out.1
                    rw [hspl] at DE
                    clear hspl
                    obtain ⟨J, hJ⟩ : ∃ J, (joinV x).length = J := ⟨_, rfl⟩
                    rw [hJ] at DE h480 hce ⊢
                    clear hJ HNE HBE
                    go_wp2_with fail
                    refine (DE.out _ HGQ.out).mono ?_
                    rintro e w11 ⟨hg11, oz, rfl, hvz⟩
                    have HG11 := hid hg11
                    have CZ : Hid (Calls Tryd.prog 21 #[.slice oz (x.map cleanV).length (x.map cleanV).length, .slice xo L xc] w11 fun e w' => e = .returned (.int .i64 0) ∧ Gr w11 w') := hid (by
                      have h1 := cmpR_any oz (x.map cleanV).length (x.map cleanV) xo xc x w11 (by rw [List.length_map]; have := XL.out; omega) (by have := XL.out; omega) hvz (VX.out _ (HGA.out.trans hg11))
                      rw [HCL.out, HL.out] at h1
                      exact h1)
                    have dd := hg11.keep dd
                    have dz := lt_of_cell dd
                    clear hg11 hvz DE HCL
                    generalize (x.map cleanV).length = LZ at *
                    go_wp2_with fail
                    refine CZ.out.mono ?_
                    rintro e w12 ⟨rfl, hg12⟩
                    have FI2 := hid (FI.out _ (HG11.out.trans hg12))
                    clear hg12 FI CZ
                    go_wp2
                    exact ⟨FI2.out, by simp [intOf]; omega⟩
                  · have hE0 : EV = 170 := by rw [← HEV.out, if_neg h480]
                    subst hE0
                    have FI2 := hid (FI.out _ (Gr.refl _))
                    clear FI
                    go_wp2
                    exact ⟨FI2.out, by simp [intOf]; omega⟩
            · obtain ⟨i0, hi0'⟩ : ∃ z, i - 1 = z := ⟨_, rfl⟩
              have f1 : (i : Int) - 1 = (i0 : Int) := by omega
              have gw := IntWalk.i64_in (i0 : Int) (by omega)
              have f2 : (0 : Int) < (i : Int) := by omega
              have f3 : decide ((0 : Int) < (i : Int)) = true := by rw [decide_eq_true_iff]; exact f2
              have f4 : decide (0 < i) = true := by rw [decide_eq_true_iff]; omega
              have f5 : (i0 : Int) < (k : Int) := by omega
              have f6 : (0 : Int) ≤ (i0 : Int) := by omega
              have d1 := HDC2.out _ HG.out i0 (by omega)
              have d2 := HDC2.out _ HG.out i hiN
              have z1' := lt_of_cell d1
              obtain ⟨C3, hC3⟩ : ∃ z, cmpR (gx D i0).l (gx D i).l = z := ⟨_, rfl⟩
              have hC0 : C3 ≤ 0 := by
                have := HSG.out i0 (by omega)
                rw [show i0 + 1 = i by omega, hC3] at this
                exact this
              have f7 : decide (0 < C3) = false := by rw [decide_eq_false_iff_not]; omega
              have CM : ∀ W, Rg.Up wr W → Calls Tryd.prog 21 #[.slice (gx D i0).oa (gx D i0).l.length (gx D i0).c, .slice (gx D i).oa (gx D i).l.length (gx D i).c] W fun e w' => e = .returned (.int .i64 C3) ∧ Gr W w' := fun W hW => by
                have z1 := HRN.out W (Gr.trans HG.out hW) i0 (by omega)
                have z2 := HRN.out W (Gr.trans HG.out hW) i hiN
                rw [← hC3]
                exact cmpR_any _ _ _ _ _ _ W z1.2 z2.2 z1.1 z2.1
              clear hi0 hi0' hC3 hC0
              go_upto_region 17 with (fail)
              refine Rg.region_text 19 (Below.drew (Below.refl _ _)) (by kernel_rfl) (by kernel_rfl) (fun _ _ d _ _ h => by cases d <;> exact h) ?_
              simp only [List.append_eq, List.cons_append, List.nil_append, List.take_succ_cons, List.take_zero, List.drop_succ_cons, List.drop_zero]
              repeat (first
                  | (refine Rg.wpDets_skip (by rfl) ?_; simp only [Act.put, List.setIfInBounds_toArray, List.set_cons_zero, List.set_cons_succ])
                  | (refine Rg.wpDets_step ?_ (by rfl) (fun w hS => ?_) ?_
                     rotate_left
                     · have hc := Gr.cells hS
                       have hf := Gr.frees hS
                       go_simp
                       first
                       | (refine ⟨?_, Below.refl _ _⟩; with_reducible rfl)
                       | ((with_reducible refine (CM _ hS).mono ?_); rintro e w' ⟨rfl, hg⟩; refine ⟨?_, hg⟩; with_reducible rfl)
                     simp only [Act.put, List.setIfInBounds_toArray, List.set_cons_zero, List.set_cons_succ]))
              refine Rg.wpDets_nil ?_
              refine Rg.wpFlts_nil ?_
              refine Rg.wpLays_nil ?_
              intro w9 hK
              have hg : Gr _ w9 := hK.up
              have hc := Gr.cells hg
              have hf := Gr.frees hg
              have hz := Gr.size hg
              try simp only [World.size_alloc, World.size_setCell, World.size_drew] at hz
              try have : 0 < w9.heap.size := by omega
              try have : w.heap.size < w9.heap.size := by omega
              try have : w.heap.size + 1 < w9.heap.size := by omega
              try have : w.heap.size + 1 + 1 < w9.heap.size := by omega
              try have : w.heap.size + 1 + 1 + 1 < w9.heap.size := by omega
              try have : w1.heap.size < w9.heap.size := by omega
              try have : w1.heap.size + 1 < w9.heap.size := by omega
              try have : w2.heap.size < w9.heap.size := by omega
              try have : w2.heap.size + 1 < w9.heap.size := by omega
              try have : w3.heap.size < w9.heap.size := by omega
              try have : w3.heap.size + 1 < w9.heap.size := by omega
              try have : w4.heap.size < w9.heap.size := by omega
              try have : w4.heap.size + 1 < w9.heap.size := by omega
              try have : w5.heap.size < w9.heap.size := by omega
              try have : w5.heap.size + 1 < w9.heap.size := by omega
              try have : w6.heap.size < w9.heap.size := by omega
              try have : w6.heap.size + 1 < w9.heap.size := by omega
              try have : w7.heap.size < w9.heap.size := by omega
              try have : w7.heap.size + 1 < w9.heap.size := by omega
              try have : w8.heap.size < w9.heap.size := by omega
              try have : w8.heap.size + 1 < w9.heap.size := by omega
              have dd := hg.keep dd
              have dz := lt_of_cell dd
              clear CM d1 d2
              have HG9 := hid (HG.out.trans hg)
              clear hg
              go_wp2_with fail
              refine (CE.out _ HG9.out).mono ?_
              rintro e w10 ⟨oe, ne, ce, rfl, hne, hce, hbe, hge⟩
              have HG10 := hid (HG9.out.trans hge)
              have HBE := hid hbe
              have HNE := hid hne
              clear hge hbe hne HG9 CE
              go_wp2_with fail
              go_loopw [12] (fun s12 wr => ∃ q : Nat, s12 = .int .i64 (q : Int) ∧ q ≤ x.length ∧ (∀ v ∈ x.take q, 0 ≤ v.t ∧ v.t ≤ 3) ∧ Gr w10 wr) (fun s12 _ => x.length - (intOf s12).toNat)
              case atStart => exact ⟨0, rfl, Nat.zero_le _, fun v hv => by simp at hv, Gr.refl _⟩
              case round =>
                obtain ⟨q, rfl, hq, hok, hgq⟩ := hrel
                have HOK := hid hok
                have HGQ := hid hgq
                have HGA := hid (HG10.out.trans hgq)
                clear hok hgq
                have dd := CX.out _ HGA.out
                have dz := lt_of_cell dd
                by_cases hqx : q < x.length
                · obtain ⟨b5, off5, hxo5, y0, _⟩ := v_get (VX.out _ HGA.out) q hqx
                  have yz := lt_of_cell y0
                  have HTK : Hid (∀ v ∈ x.take (q + 1), v ∈ x.take q ∨ v = x[q]) := hid (fun v hv => by
                    rw [List.take_add_one, List.getElem?_eq_getElem hqx] at hv
                    rcases List.mem_append.1 hv with h | h
                    · exact .inl h
                    · exact .inr (by simpa using h))
                  generalize x[q] = v at *
                  obtain ⟨t0, ht0⟩ : ∃ t, v.t = t := ⟨_, rfl⟩
                  rw [ht0] at y0
                  have HT0 := hid ht0
                  clear ht0
                  have s1 : decide ((q : Int) < (x.length : Int)) = true := by rw [decide_eq_true_iff]; omega
                  have s2 : (q : Int) < (x.length : Int) := by omega
                  have s3 : (0 : Int) ≤ (q : Int) := by omega
                  have hxl := XL.out
                  obtain ⟨L, hL⟩ : ∃ L, x.length = L := ⟨_, rfl⟩
                  have HL := hid hL
                  rw [hL] at s1 s2 hq hqx hxl dd ⊢
                  have s4 : decide (q < L) = true := by rw [decide_eq_true_iff]; exact hqx
                  rw [hxo5] at dd
                  clear hL hxo5
                  by_cases hneg : t0 < 0
                  · have e1 : decide (t0 < 0) = true := by rw [decide_eq_true_iff]; exact hneg
                    clear HTK HOK HT0
                    go_wp2_with fail
                    refine (AW.out _ (HG2.out.trans HGA.out)).mono ?_
                    rintro e w11 ⟨rfl, hga⟩
                    have HFI := hid ((HG2.out.trans HGA.out).trans hga)
                    clear hga
                    go_wp2
                    first | exact ⟨rfl, HFI.out⟩ | (go_ret; exact ⟨rfl, HFI.out⟩)
                  · have e1 : decide (t0 < 0) = false := by rw [decide_eq_false_iff_not]; exact hneg
                    by_cases hbig : 3 < t0
                    · have e2 : decide (3 < t0) = true := by rw [decide_eq_true_iff]; exact hbig
                      clear HTK HOK HT0
                      go_wp2_with fail
                      refine (AW.out _ (HG2.out.trans HGA.out)).mono ?_
                      rintro e w11 ⟨rfl, hga⟩
                      have HFI := hid ((HG2.out.trans HGA.out).trans hga)
                      clear hga
                      go_wp2
                      first | exact ⟨rfl, HFI.out⟩ | (go_ret; exact ⟨rfl, HFI.out⟩)
                    · have e2 : decide (3 < t0) = false := by rw [decide_eq_false_iff_not]; exact hbig
                      have FI : Hid (∃ q' : Nat, (Value.int .i64 ((q : Int) + 1)) = .int .i64 (q' : Int) ∧ q' ≤ L ∧ (∀ v ∈ x.take q', 0 ≤ v.t ∧ v.t ≤ 3) ∧ Gr w10 wr) := hid ⟨q + 1, by go_num, by omega, fun v' hv => by
                        rcases HTK.out v' hv with h | h
                        · exact HOK.out v' h
                        · rw [h, HT0.out]; omega, HGQ.out⟩
                      clear HTK HOK HT0 HGQ
                      go_wp2
                      exact ⟨FI.out, by simp [intOf]; omega⟩
                · have hqe : q = x.length := by omega
                  have hall : ∀ v ∈ x, 0 ≤ v.t ∧ v.t ≤ 3 := by
                    have h1 := HOK.out
                    rw [hqe, List.take_length] at h1
                    exact h1
                  have HCL : Hid (cmpR (x.map cleanV) x = 0) := hid (clean_row x hall)
                  have s1 : decide ((q : Int) < (x.length : Int)) = false := by rw [decide_eq_false_iff_not]; omega
                  obtain ⟨L, hL⟩ : ∃ L, x.length = L := ⟨_, rfl⟩
                  have HL := hid hL
                  have hxl := XL.out
                  rw [hL] at s1 hq hqx hqe dd hxl ⊢
                  have s4 : decide (q < L) = false := by rw [decide_eq_false_iff_not]; exact hqx
                  have FI : Hid (∀ W, Gr wr W → ∃ i' : Nat, (Value.int .i64 ((i : Int) + 1)) = .int .i64 (i' : Int) ∧ i' ≤ k ∧ Gr ws W) := hid (fun W hW => ⟨i + 1, by go_num, by omega, HGA.out.trans hW⟩)
                  clear hall HOK hL hqe
                  by_cases h480 : (joinV x).length ≤ 480
                  · have hn1 : ne = (joinV x).length := by have := HNE.out; rw [if_pos h480] at this; exact this
                    subst hn1
                    have hE0 : EV = 0 := by rw [← HEV.out, if_pos h480]
                    subst hE0
                    have DE := hid (fun W (hW : Gr w10 W) => rdec_any oe ce (joinV x) W hce ((HBE.out h480).keep hW) XSP.out.2 (by omega))
                    have hspl := XSP.out.1
                    rw [hspl] at DE
                    clear hspl
                    obtain ⟨J, hJ⟩ : ∃ J, (joinV x).length = J := ⟨_, rfl⟩
                    rw [hJ] at DE h480 hce ⊢
                    clear hJ HNE HBE
                    go_wp2_with fail
                    refine (DE.out _ HGQ.out).mono ?_
                    rintro e w11 ⟨hg11, oz, rfl, hvz⟩
                    have HG11 := hid hg11
                    have CZ : Hid (Calls Tryd.prog 21 #[.slice oz (x.map cleanV).length (x.map cleanV).length, .slice xo L xc] w11 fun e w' => e = .returned (.int .i64 0) ∧ Gr w11 w') := hid (by
                      have h1 := cmpR_any oz (x.map cleanV).length (x.map cleanV) xo xc x w11 (by rw [List.length_map]; have := XL.out; omega) (by have := XL.out; omega) hvz (VX.out _ (HGA.out.trans hg11))
                      rw [HCL.out, HL.out] at h1
                      exact h1)
                    have dd := hg11.keep dd
                    have dz := lt_of_cell dd
                    clear hg11 hvz DE HCL
                    generalize (x.map cleanV).length = LZ at *
                    go_wp2_with fail
                    refine CZ.out.mono ?_
                    rintro e w12 ⟨rfl, hg12⟩
                    have FI2 := hid (FI.out _ (HG11.out.trans hg12))
                    clear hg12 FI CZ
                    go_wp2
                    exact ⟨FI2.out, by simp [intOf]; omega⟩
                  · have hE0 : EV = 170 := by rw [← HEV.out, if_neg h480]
                    subst hE0
                    have FI2 := hid (FI.out _ (Gr.refl _))
                    clear FI
                    go_wp2
                    exact ⟨FI2.out, by simp [intOf]; omega⟩
      · have hiN2 : i = N := by omega
        have u1 : decide ((i : Int) < (N : Int)) = false := by rw [decide_eq_false_iff_not]; omega
        have u2 : decide (i < N) = false := by rw [decide_eq_false_iff_not]; exact hiN
        have HGS := hid (HG2.out.trans HG.out)
        have b0 := HG.out.keep HB2.out.1
        have b1 := HG.out.keep HB2.out.2.1
        have b2 := HG.out.keep HB2.out.2.2.1
        have b3 := HG.out.keep HB2.out.2.2.2.1
        have b4 := HG.out.keep HB2.out.2.2.2.2
        have zb := lt_of_cell b0
        clear HDP HDL HSG HRN HLX HLC HDC HB2 HG2 HG HP HR hiN
        obtain ⟨SB, hSB⟩ : ∃ R, joinV (schL (⟨nm, oc, cs, cc, ox, xs, cx, hd, od, rs, cr⟩ : Tb)) = R := ⟨_, rfl⟩
        rw [hSB] at CT HSPL
        have TA := hid (fun ob cb W (h1 : SB.length ≤ cb) (h2 : BAt W ob SB) => table_any ob cb SB W h1 h2 HSPL.out.2.1 HSPL.out.2.2)
        have hR : tabO (tabR (stOf (splitV SB))) = some (mkT nm cs xs hd rs) := by
          rw [HSPL.out.1]
          show tabO (tabR (schL (⟨nm, oc, cs, cc, ox, xs, cx, hd, od, rs, cr⟩ : Tb), false)) = _
          rw [HON.out]; rfl
        rw [hR] at TA
        have CX2 : Hid (∀ (T : Tb) W, TbAt W T → schL T = schL (⟨nm, oc, cs, cc, ox, xs, cx, hd, od, rs, cr⟩ : Tb) → T.cs.length ≤ 2000000 ∧ T.xs.length ≤ 2000000 ∧ T.rs.length ≤ 2000000 → Calls Tryd.prog 16 #[T.val] W (RetB SB W)) := hid (fun T W h1 h2 h3 => by
          have h4 := schema_any T W h1 h3 (by rw [h2]; exact HF.out.2.1) (by rw [h2]; have := HF.out.1; omega)
          rw [h2, hSB] at h4
          exact h4)
        clear hR hSB
        go_wp2_with fail
        refine (CT.out _ HGS.out).mono ?_
        rintro e v1 ⟨ob, cb, rfl, hcb, hbb, hg1⟩
        have b0 := hg1.keep b0
        have b1 := hg1.keep b1
        have b2 := hg1.keep b2
        have b3 := hg1.keep b3
        have b4 := hg1.keep b4
        have zb := lt_of_cell b0
        have TB := hid (TA.out ob cb v1 hcb hbb)
        have HG1 := hid (HGS.out.trans hg1)
        clear hcb hbb hg1 TA
        go_wp2_with fail
        refine TB.out.mono ?_
        rintro e v2 ⟨hg2, tx, hx, hxe, rfl⟩
        obtain ⟨nm', oc', cs', cc', ox', xs', cx', hd', od', rs', cr'⟩ := tx
        have hxs : schL (⟨nm', oc', cs', cc', ox', xs', cx', hd', od', rs', cr'⟩ : Tb) = schL (⟨nm, oc, cs, cc, ox, xs, cx, hd, od, rs, cr⟩ : Tb) := by
          rw [schL_mk, hxe]; rfl
        simp only [mkT, Option.getD_some, Tb.mk.injEq] at hxe
        obtain ⟨e0, _, e2, _, _, e5, _, e7, _, e9, _⟩ := hxe
        subst e0 e2 e5 e7 e9
        unfold Tb.val
        simp only [Option.isSome_some]
        have b0 := hg2.keep b0
        have b1 := hg2.keep b1
        have b2 := hg2.keep b2
        have b3 := hg2.keep b3
        have b4 := hg2.keep b4
        have zb := lt_of_cell b0
        have HG2 := hid (HG1.out.trans hg2)
        have HXX := hid hx
        have HXS := hid hxs
        clear hx hxs hg2 TB
        clear p1 p2 u1 u2 hiN2 g1 g2 hi hl4
        go_upto_region 30 with (fail)
        obtain ⟨d0, d1, d2, d3, d4⟩ := box5 v2 (.string nm') (.slice oc' cs'.length cc') (.slice ox' xs'.length cx') (.int .i64 hd') (.slice od' rs'.length cr')
        have hg4 : Gr v2 (v2.alloc (.cells #[.string nm', .slice oc' cs'.length cc', .slice ox' xs'.length cx', .int .i64 hd', .slice od' rs'.length cr'] 29)) := (Gr.refl _).alloc _
        obtain ⟨gX, hgX⟩ : ∃ g, v2.heap.size = g := ⟨_, rfl⟩
        rw [hgX] at d0 d1 d2 d3 d4
        rw [hgX]
        obtain ⟨v3, hv3⟩ : ∃ W, v2.alloc (.cells #[.string nm', .slice oc' cs'.length cc', .slice ox' xs'.length cx', .int .i64 hd', .slice od' rs'.length cr'] 29) = W := ⟨_, rfl⟩
        rw [hv3] at d0 d1 d2 d3 d4 hg4
        rw [hv3]
        have b0 := hg4.keep b0
        have b1 := hg4.keep b1
        have b2 := hg4.keep b2
        have b3 := hg4.keep b3
        have b4 := hg4.keep b4
        have zb := lt_of_cell b0
        have zd := lt_of_cell d0
        have HG4 := hid (HG2.out.trans hg4)
        have HX4 := hid (HXX.out.keep hg4)
        clear hv3 hgX hg4
        have H1 : Hid (∀ W, Rg.Up v3 W → Calls Tryd.prog 16 #[.agg #[.string nm', .slice oc' cs'.length cc', .slice ox' xs'.length cx', .int .i64 hd', .slice od' rs'.length cr']] W (RetB SB W)) := hid (fun W hW => CX2.out ⟨nm', oc', cs', cc', ox', xs', cx', hd', od', rs', cr'⟩ W (HX4.out.keep hW) HXS.out HF.out.2.2)
        have H2 : Hid (∀ W, Rg.Up v3 W → Calls Tryd.prog 16 #[.agg #[.string nm', .slice oc cs'.length cc, .slice ox xs'.length cx, .int .i64 hd', .slice od rs'.length cr]] W (RetB SB W)) := hid (fun W hW => CT.out W (HG4.out.trans hW))
        have H4 : Hid (∀ W, Rg.Up v3 W → Calls Tryd.prog 8 #[] W fun e w' => e = .returned (.bool true) ∧ Gr W w') := hid (fun W hW => AW.out W (HG4.out.trans hW))
        clear CT CX2 AW HSPL HON HF HX4 HXX HXS HG1 HG2 HGS
        refine Rg.region_facts (W := v3) 29 [] [(4, [3]), (7, [6])] [(3, GBs SB), (6, GBs SB)] (fun _ => false) [3, 6]
          [some (.bool true), some (.bool true), some (.agg #[.string nm', .slice oc' cs'.length cc', .slice ox' xs'.length cx', .int .i64 hd', .slice od' rs'.length cr']), none, some (.string (strOfNums SB)), some (.agg #[.string nm', .slice oc cs'.length cc, .slice ox xs'.length cx, .int .i64 hd', .slice od rs'.length cr]), none, some (.string (strOfNums SB)), some (.bool true), some (.bool true), some (.bool true), some (.pointer (some ⟨gX, 0, none⟩)), some (.string nm'), some (.pointer (some ⟨gB, 0, none⟩)), some (.string nm'), some (.bool true), some (.bool true), some (.bool true), some (.pointer (some ⟨gX, 1, none⟩)), some (.slice oc' cs'.length cc'), some (.int .i64 (cs'.length : Int)), some (.pointer (some ⟨gB, 1, none⟩)), some (.slice oc cs'.length cc), some (.int .i64 (cs'.length : Int)), some (.bool true), some (.bool true), some (.bool true), some (.bool true), some (.bool true)]
          (Below.drew (Below.refl _ _)) (by kernel_rfl) (by kernel_rfl) ⟨rfl, rfl, trivial⟩ (gbs_keep _ _ _ _) (fun _ _ d _ _ h => by cases d <;> exact h) ?_
        intro v
        simp only [List.take_succ_cons, List.take_zero, Rg.wpF, Option.getD_some, Option.getD_none, Act.put, List.setIfInBounds_toArray, List.set_cons_zero, List.set_cons_succ]
        refine ⟨?_, ?_, ?_, ?_, ?_, ?_, ?_, ?_, ?_, ?_, ?_, ?_, ?_, ?_, ?_, ?_, ?_, ?_, ?_, ?_, ?_, ?_, ?_, ?_, ?_, ?_, ?_, ?_, ?_, ?_⟩
        · refine sf_det (by rfl) (by rfl) (fun w' hS hF => ?_)
          have hc := Gr.cells hS
          have hf := Gr.frees hS
          go_simp
          first
          | exact Below.refl _ _
          | (refine ⟨?_, Below.refl _ _⟩; with_reducible rfl)
        · refine sf_det (by rfl) (by rfl) (fun w' hS hF => ?_)
          have hc := Gr.cells hS
          have hf := Gr.frees hS
          go_simp
          first
          | exact Below.refl _ _
          | (refine ⟨?_, Below.refl _ _⟩; with_reducible rfl)
        · refine sf_det (by rfl) (by rfl) (fun w' hS hF => ?_)
          have hc := Gr.cells hS
          have hf := Gr.frees hS
          go_simp
          first
          | exact Below.refl _ _
          | (refine ⟨?_, Below.refl _ _⟩; with_reducible rfl)
        · refine sf_free (by rfl) (by rfl) (fun w' hS hF => ?_)
          go_simp
          refine (H1.out _ hS).mono ?_
          rintro e w'' ⟨oa9, c9, rfl, hcc9, hB9, hg9⟩
          exact ⟨_, rfl, ⟨oa9, c9, rfl, hB9⟩, hg9⟩
        · refine sf_det (by rfl) (by rfl) (fun w' hS hF => ?_)
          obtain ⟨oa9, c9, e, hB9⟩ := hF.1
          have cv := conv_b c9 hB9
          rw [e]
          go_simp
          first
          | exact Below.refl _ _
          | (refine ⟨?_, Below.refl _ _⟩; with_reducible rfl)
        · refine sf_det (by rfl) (by rfl) (fun w' hS hF => ?_)
          have hc := Gr.cells hS
          have hf := Gr.frees hS
          go_simp
          first
          | exact Below.refl _ _
          | (refine ⟨?_, Below.refl _ _⟩; with_reducible rfl)
        · refine sf_free (by rfl) (by rfl) (fun w' hS hF => ?_)
          go_simp
          refine (H2.out _ hS).mono ?_
          rintro e w'' ⟨oa9, c9, rfl, hcc9, hB9, hg9⟩
          exact ⟨_, rfl, ⟨oa9, c9, rfl, hB9⟩, hg9⟩
        · refine sf_det (by rfl) (by rfl) (fun w' hS hF => ?_)
          obtain ⟨oa9, c9, e, hB9⟩ := hF.1
          have cv := conv_b c9 hB9
          rw [e]
          go_simp
          first
          | exact Below.refl _ _
          | (refine ⟨?_, Below.refl _ _⟩; with_reducible rfl)
        · refine sf_det (by rfl) (by rfl) (fun w' hS hF => ?_)
          have hc := Gr.cells hS
          have hf := Gr.frees hS
          go_simp
          first
          | exact Below.refl _ _
          | (refine ⟨?_, Below.refl _ _⟩; with_reducible rfl)
        · refine sf_det (by rfl) (by rfl) (fun w' hS hF => ?_)
          have hc := Gr.cells hS
          have hf := Gr.frees hS
          go_simp
          first
          | exact Below.refl _ _
          | (refine ⟨?_, Below.refl _ _⟩; with_reducible rfl)
        · refine sf_det (by rfl) (by rfl) (fun w' hS hF => ?_)
          have hc := Gr.cells hS
          have hf := Gr.frees hS
          go_simp
          first
          | exact Below.refl _ _
          | (refine ⟨?_, Below.refl _ _⟩; with_reducible rfl)
        · refine sf_det (by rfl) (by rfl) (fun w' hS hF => ?_)
          have hc := Gr.cells hS
          have hf := Gr.frees hS
          go_simp
          first
          | exact Below.refl _ _
          | (refine ⟨?_, Below.refl _ _⟩; with_reducible rfl)
        · refine sf_det (by rfl) (by rfl) (fun w' hS hF => ?_)
          have hc := Gr.cells hS
          have hf := Gr.frees hS
          go_simp
          first
          | exact Below.refl _ _
          | (refine ⟨?_, Below.refl _ _⟩; with_reducible rfl)
        · refine sf_det (by rfl) (by rfl) (fun w' hS hF => ?_)
          have hc := Gr.cells hS
          have hf := Gr.frees hS
          go_simp
          first
          | exact Below.refl _ _
          | (refine ⟨?_, Below.refl _ _⟩; with_reducible rfl)
        · refine sf_det (by rfl) (by rfl) (fun w' hS hF => ?_)
          have hc := Gr.cells hS
          have hf := Gr.frees hS
          go_simp
          first
          | exact Below.refl _ _
          | (refine ⟨?_, Below.refl _ _⟩; with_reducible rfl)
        · refine sf_det (by rfl) (by rfl) (fun w' hS hF => ?_)
          have hc := Gr.cells hS
          have hf := Gr.frees hS
          go_simp
          first
          | exact Below.refl _ _
          | (refine ⟨?_, Below.refl _ _⟩; with_reducible rfl)
        · refine sf_det (by rfl) (by rfl) (fun w' hS hF => ?_)
          have hc := Gr.cells hS
          have hf := Gr.frees hS
          go_simp
          first
          | exact Below.refl _ _
          | (refine ⟨?_, Below.refl _ _⟩; with_reducible rfl)
        · refine sf_det (by rfl) (by rfl) (fun w' hS hF => ?_)
          have hc := Gr.cells hS
          have hf := Gr.frees hS
          go_simp
          first
          | exact Below.refl _ _
          | (refine ⟨?_, Below.refl _ _⟩; with_reducible rfl)
        · refine sf_det (by rfl) (by rfl) (fun w' hS hF => ?_)
          have hc := Gr.cells hS
          have hf := Gr.frees hS
          go_simp
          first
          | exact Below.refl _ _
          | (refine ⟨?_, Below.refl _ _⟩; with_reducible rfl)
        · refine sf_det (by rfl) (by rfl) (fun w' hS hF => ?_)
          have hc := Gr.cells hS
          have hf := Gr.frees hS
          go_simp
          first
          | exact Below.refl _ _
          | (refine ⟨?_, Below.refl _ _⟩; with_reducible rfl)
        · refine sf_det (by rfl) (by rfl) (fun w' hS hF => ?_)
          have hc := Gr.cells hS
          have hf := Gr.frees hS
          go_simp
          first
          | exact Below.refl _ _
          | (refine ⟨?_, Below.refl _ _⟩; with_reducible rfl)
        · refine sf_det (by rfl) (by rfl) (fun w' hS hF => ?_)
          have hc := Gr.cells hS
          have hf := Gr.frees hS
          go_simp
          first
          | exact Below.refl _ _
          | (refine ⟨?_, Below.refl _ _⟩; with_reducible rfl)
        · refine sf_det (by rfl) (by rfl) (fun w' hS hF => ?_)
          have hc := Gr.cells hS
          have hf := Gr.frees hS
          go_simp
          first
          | exact Below.refl _ _
          | (refine ⟨?_, Below.refl _ _⟩; with_reducible rfl)
        · refine sf_det (by rfl) (by rfl) (fun w' hS hF => ?_)
          have hc := Gr.cells hS
          have hf := Gr.frees hS
          go_simp
          first
          | exact Below.refl _ _
          | (refine ⟨?_, Below.refl _ _⟩; with_reducible rfl)
        · refine sf_det (by rfl) (by rfl) (fun w' hS hF => ?_)
          have hc := Gr.cells hS
          have hf := Gr.frees hS
          go_simp
          first
          | exact Below.refl _ _
          | (refine ⟨?_, Below.refl _ _⟩; with_reducible rfl)
        · refine sf_det (by rfl) (by rfl) (fun w' hS hF => ?_)
          have hc := Gr.cells hS
          have hf := Gr.frees hS
          go_simp
          first
          | exact Below.refl _ _
          | (refine ⟨?_, Below.refl _ _⟩; with_reducible rfl)
        · refine sf_det (by rfl) (by rfl) (fun w' hS hF => ?_)
          have hc := Gr.cells hS
          have hf := Gr.frees hS
          go_simp
          first
          | exact Below.refl _ _
          | (refine ⟨?_, Below.refl _ _⟩; with_reducible rfl)
        · refine sf_det (by rfl) (by rfl) (fun w' hS hF => ?_)
          go_simp
          refine (H4.out _ hS).mono ?_
          rintro e w'' ⟨rfl, hg9⟩
          exact ⟨rfl, hg9⟩
        · refine sf_det (by rfl) (by rfl) (fun w' hS hF => ?_)
          have hc := Gr.cells hS
          have hf := Gr.frees hS
          go_simp
          first
          | exact Below.refl _ _
          | (refine ⟨?_, Below.refl _ _⟩; with_reducible rfl)
        · intro w5 hK
          have hg : Gr _ w5 := hK.up
          have HGF := hid (HG4.out.trans hg)
          clear hK hg
          simp only [List.drop_succ_cons, List.drop_zero]
          go_wp2
          go_ret
          exact ⟨rfl, HGF.out⟩
end Go.Proofs.YtacbhkmkknicoaaDoor

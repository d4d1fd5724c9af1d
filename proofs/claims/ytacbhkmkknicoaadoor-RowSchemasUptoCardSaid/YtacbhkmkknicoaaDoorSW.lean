/- row: the walk of RowSchemas. -/
import Derived.Test.YtacbhkmkknicoaaDoorT2
import Derived.Test.YtacbhkmkknicoaaDoorT3
import Derived.Test.YtacbhkmkknicoaaDoorWt
namespace Go.Proofs.YtacbhkmkknicoaaDoor
open Go.RowKit
set_option linter.unusedSimpArgs false
set_option linter.unusedVariables false
attribute [local go_sem] Rg.leads_value Rg.leads_skip Rg.leads_enter Rg.brings_value Rg.brings_skip Rg.brings_enter Rg.bringsG_value Rg.bringsG_enter
theorem ones_sum (l : List Int) : (l.map fun _ => 1).sum = l.length := by
  induction l with
  | nil => rfl
  | cons c r ih => simp only [List.map_cons, List.sum_cons, List.length_cons, ih]; omega
theorem row_whole {b : List Int} {T : Tb} (hb : byteI b) (h : tabO (tabR (stOf (splitV b))) = some T) : splitV b = some (schL T) := by
  unfold tabO at h
  split at h
  · rename_i hcc
    simp only [Bool.and_eq_true, List.isEmpty_iff, Bool.not_eq_true'] at hcc
    have h2 : (tabR (stOf (splitV b))).2 = ([], false) := Prod.ext hcc.1 hcc.2
    cases hs : splitV b with
    | none =>
      rw [hs] at h2
      have h3 := (tab_back (l := []) (b := true) (fun v hv => by simp at hv) h2).1
      cases h3
    | some l =>
      rw [hs] at h2 h
      have h3 := (tab_back (splitV_back hb hs).2 h2).2
      have h4 : (tabR (l, false)).1 = T := Option.some.inj h
      rw [h4] at h3
      rw [h3]
  · cases h
theorem sch_len (t : Tb) : (schL t).length = 5 + 4 * t.cs.length + 3 * t.xs.length + t.rs.length := by
  simp only [schL, sch3, sch2, sch1, List.length_append, len4, len3, List.length_cons, List.length_nil, List.length_map]
  omega
/-- what Schema wants of the table told -/
theorem row_fit {b : List Int} (hb : byteI b) (hl : b.length ≤ 2000000) {X : Tb} (h : X = (tabO (tabR (stOf (splitV b)))).getD noT) :
    (joinV (schL X)).length ≤ 2000000 ∧ (∀ v ∈ schL X, VOk v) ∧ X.cs.length ≤ 2000000 ∧ X.xs.length ≤ 2000000 ∧ X.rs.length ≤ 2000000 := by
  cases hs : tabO (tabR (stOf (splitV b))) with
  | none =>
    rw [hs] at h
    subst h
    refine ⟨by decide, fun v hv => ?_, by decide, by decide, by decide⟩
    have hc : Cl v := cl_sch (t := noT) (B := 0) (by omega) (Nat.le_refl _) (Nat.le_refl _) (Nat.le_refl _) (fun x hx => by cases hx) (fun x hx => by cases hx) ⟨by show (-9223372036854775808 : Int) ≤ 0; omega, by show (0 : Int) ≤ _; omega⟩ (fun x hx => by cases hx) v hv
    have h6 := cl_text hc
    have h7 := join_mem hv
    have h8 : (joinV (schL noT)).length ≤ 100 := by decide
    have h10 : (encV v).length ≤ (joinV (schL noT)).length := h7
    exact ⟨h6.2, by omega⟩
  | some T =>
    rw [hs] at h
    have e : X = T := h
    subst e
    obtain ⟨hj, hc⟩ := splitV_back hb (row_whole hb hs)
    have hll := len_join (schL X)
    rw [hj] at hll
    have h9 := sch_len X
    refine ⟨by rw [hj]; exact hl, fun v hv => ?_, by omega, by omega, by omega⟩
    have h6 := cl_text (hc v hv)
    have h7 := join_mem hv
    rw [hj] at h7
    exact ⟨h6.2, by omega⟩
/-- a table that came in is not too long for Schema -/
theorem tab_fit {W : World} {t : Tb} (h : TbIn W t) (hw : wtT t ≤ 1048576) : (joinV (schL t)).length ≤ 140737488355328 ∧ (∀ v ∈ schL t, VOk v) ∧ t.cs.length ≤ 2000000 ∧ t.xs.length ≤ 2000000 ∧ t.rs.length ≤ 2000000 := by
  have hC : ∀ l : List Col, l.length ≤ (l.map wtC).sum ∧ (joinV (l.flatMap schC)).length ≤ 60 * (l.map wtC).sum := by
    intro l
    induction l with
    | nil => exact ⟨by simp, by simp [joinV]⟩
    | cons c r ih =>
      have e : (c :: r).flatMap schC = textV c.nm :: numV c.ty :: boolV c.nn :: boolV c.uq :: r.flatMap schC := rfl
      have h1 := encV_len (textV c.nm)
      have h2 : (encV (boolV c.nn)).length ≤ 9 := by cases c.nn <;> decide
      have h3 : (encV (boolV c.uq)).length ≤ 9 := by cases c.uq <;> decide
      have h4 : (textV c.nm).s.size = c.nm.size := rfl
      rw [e]
      simp only [join_cons, List.length_append, List.length_cons, List.map_cons, List.sum_cons, enc_num]
      unfold wtC at *
      omega
  have hX : ∀ l : List Ix, l.length ≤ (l.map wtX).sum ∧ (joinV (l.flatMap schX)).length ≤ 60 * (l.map wtX).sum := by
    intro l
    induction l with
    | nil => exact ⟨by simp, by simp [joinV]⟩
    | cons c r ih =>
      have e : (c :: r).flatMap schX = textV c.nm :: numV c.co :: boolV c.uq :: r.flatMap schX := rfl
      have h1 := encV_len (textV c.nm)
      have h3 : (encV (boolV c.uq)).length ≤ 9 := by cases c.uq <;> decide
      have h4 : (textV c.nm).s.size = c.nm.size := rfl
      rw [e]
      simp only [join_cons, List.length_append, List.length_cons, List.map_cons, List.sum_cons, enc_num]
      unfold wtX at *
      omega
  have hR : ∀ l : List Int, l.length = (l.map fun _ => 1).sum ∧ (joinV (l.map numV)).length = 9 * l.length := by
    intro l
    induction l with
    | nil => exact ⟨by simp, by simp [joinV]⟩
    | cons c r ih =>
      simp only [List.map_cons, join_cons, List.length_append, List.length_cons, List.sum_cons, enc_num]
      omega
  obtain ⟨c1, c2⟩ := hC t.cs
  obtain ⟨x1, x2⟩ := hX t.xs
  obtain ⟨r1, r2⟩ := hR t.rs
  have h1 := encV_len (textV t.nm)
  have h4 : (textV t.nm).s.size = t.nm.size := rfl
  unfold wtT at hw
  have hlen : (joinV (schL t)).length ≤ 200000000 := by
    simp only [schL, sch3, sch2, sch1, join_app, join_cons, List.length_append, enc_num]
    simp only [joinV, List.flatMap_nil, List.length_nil] at *
    omega
  refine ⟨by omega, fun v hv => ?_, by omega, by omega, by omega⟩
  have hcl := cl_sch (t := t) (B := 1048576) (by omega) (by omega) (by omega) (by omega) h.c h.x h.h h.r v hv
  have h6 := cl_text hcl
  have h7 := join_mem hv
  exact ⟨h6.2, by omega⟩
set_option maxHeartbeats 8000000 in
set_option maxRecDepth 100000 in
theorem schemas_walk (t : Tb) (oa : Option Addr) (c : Nat) (b : List Int) (m : Int) (w : World) (hT : TbAt w t) (hf : (joinV (schL t)).length ≤ 140737488355328 ∧ (∀ v ∈ schL t, VOk v) ∧ t.cs.length ≤ 2000000 ∧ t.xs.length ≤ 2000000 ∧ t.rs.length ≤ 2000000) (hc : b.length ≤ c) (hp : BAt w oa b) (hb : byteI b) (hl : b.length ≤ 2000000) (hm : w.cell? ⟨0, 0, none⟩ = some (.int .i64 m)) :
    Calls Tryd.prog 5 #[t.val, .slice oa b.length c] w fun e w' => e = .returned (.bool true) ∧ Gr w w' := by
  have C1 := hid (fun W (hW : Gr w W) => schema_any t W (hT.keep hW) ⟨hf.2.2.1, hf.2.2.2.1, hf.2.2.2.2⟩ hf.2.1 hf.1)
  have C2 := hid (fun W (hW : Gr w W) => rschema_any t W (hT.keep hW) ⟨hf.2.2.1, hf.2.2.2.1, hf.2.2.2.2⟩ hf.2.1 hf.1)
  have AW := hid (fun W (hW : Gr w W) => awake_any m W (hW.keep hm))
  have D1 := hid (fun W (hW : Gr w W) => table_any oa c b W hc (hp.keep hW) hb (by omega))
  have D2 := hid (fun W (hW : Gr w W) => rtable_any oa c b W hc (hp.keep hW) hb hl)
  have SR := hid (fun Y => @same_read b Y hb (by omega))
  have RF := hid (fun X => @row_fit b hb hl X)
  generalize tabO (tabR (stOf (splitV b))) = R at *
  obtain ⟨SB, hSB⟩ : ∃ R, joinV (schL t) = R := ⟨_, rfl⟩
  rw [hSB] at C1 C2
  clear hp hT hm hf hc hl hb hSB
  obtain ⟨nm, oc, cs, cc, ox, xs, cx, hd, od, rs, cr⟩ := t
  unfold Tb.val at C1 C2 ⊢
  simp only at C1 C2 ⊢
  generalize b.length = nb at *
  have hg0 : Gr w (w.alloc (.cells #[.string nm, .slice oc cs.length cc, .slice ox xs.length cx, .int .i64 hd, .slice od rs.length cr] 29)) := (Gr.refl _).alloc _
  obtain ⟨b0, b1, b2, b3, b4⟩ := box5 w (.string nm) (.slice oc cs.length cc) (.slice ox xs.length cx) (.int .i64 hd) (.slice od rs.length cr)
  go_enter Tryd.func5, Tryd.ntmps5
  go_upto_region 1 with (fail)
  obtain ⟨gB, hgB⟩ : ∃ g, w.heap.size = g := ⟨_, rfl⟩
  rw [hgB] at b0 b1 b2 b3 b4
  rw [hgB]
  obtain ⟨wB, hwB⟩ : ∃ W, w.alloc (.cells #[.string nm, .slice oc cs.length cc, .slice ox xs.length cx, .int .i64 hd, .slice od rs.length cr] 29) = W := ⟨_, rfl⟩
  rw [hwB] at b0 b1 b2 b3 b4 hg0
  rw [hwB]
  have HG0 := hid hg0
  clear hwB hgB hg0
  go_wp2_with fail
  refine (D1.out _ HG0.out).mono ?_
  rintro e w1 ⟨hg1, tx, hx, hxe, rfl⟩
  have hxs : schL tx = schL (R.getD noT) := by rw [schL_mk, hxe]
  obtain ⟨nm1, oc1, cs1, cc1, ox1, xs1, cx1, hd1, od1, rs1, cr1⟩ := tx
  unfold Tb.val
  simp only
  have b0 := hg1.keep b0
  have b1 := hg1.keep b1
  have b2 := hg1.keep b2
  have b3 := hg1.keep b3
  have b4 := hg1.keep b4
  have HG1 := hid (HG0.out.trans hg1)
  have HX := hid hx
  have HXS := hid hxs
  have HFX := hid (RF.out _ hxe)
  clear hx hxs hxe hg1
  go_upto_region 2 with (fail)
  obtain ⟨d0, d1, d2, d3, d4⟩ := box5 w1 (.string nm1) (.slice oc1 cs1.length cc1) (.slice ox1 xs1.length cx1) (.int .i64 hd1) (.slice od1 rs1.length cr1)
  have hg2 : Gr w1 (w1.alloc (.cells #[.string nm1, .slice oc1 cs1.length cc1, .slice ox1 xs1.length cx1, .int .i64 hd1, .slice od1 rs1.length cr1] 29)) := (Gr.refl _).alloc _
  obtain ⟨gX, hgX⟩ : ∃ g, w1.heap.size = g := ⟨_, rfl⟩
  rw [hgX] at d0 d1 d2 d3 d4
  rw [hgX]
  obtain ⟨w2, hw2⟩ : ∃ W, w1.alloc (.cells #[.string nm1, .slice oc1 cs1.length cc1, .slice ox1 xs1.length cx1, .int .i64 hd1, .slice od1 rs1.length cr1] 29) = W := ⟨_, rfl⟩
  rw [hw2] at d0 d1 d2 d3 d4 hg2
  rw [hw2]
  have b0 := hg2.keep b0
  have b1 := hg2.keep b1
  have b2 := hg2.keep b2
  have b3 := hg2.keep b3
  have b4 := hg2.keep b4
  have HG2 := hid (HG1.out.trans hg2)
  have HX := hid (HX.out.keep hg2)
  clear hw2 hgX hg2
  go_wp2_with fail
  refine (D2.out _ HG2.out).mono ?_
  rintro e w3 ⟨Y, hY, hg3, ty, hy, hye, rfl⟩
  have hYR := SR.out Y hY
  rw [hYR] at hye ⊢
  clear hYR
  have hys : schL ty = schL (R.getD noT) := by rw [schL_mk, hye]
  obtain ⟨nm2, oc2, cs2, cc2, ox2, xs2, cx2, hd2, od2, rs2, cr2⟩ := ty
  unfold Tb.val
  simp only
  have b0 := hg3.keep b0
  have b1 := hg3.keep b1
  have b2 := hg3.keep b2
  have b3 := hg3.keep b3
  have b4 := hg3.keep b4
  have d0 := hg3.keep d0
  have d1 := hg3.keep d1
  have d2 := hg3.keep d2
  have d3 := hg3.keep d3
  have d4 := hg3.keep d4
  have HG3 := hid (HG2.out.trans hg3)
  have HX := hid (HX.out.keep hg3)
  have HY := hid hy
  have HYS := hid hys
  have HFY := hid (RF.out _ hye)
  clear hy hys hye hg3 hY
  go_upto_region 3 with (fail)
  obtain ⟨e0, e1, e2, e3, e4⟩ := box5 w3 (.string nm2) (.slice oc2 cs2.length cc2) (.slice ox2 xs2.length cx2) (.int .i64 hd2) (.slice od2 rs2.length cr2)
  have hg4 : Gr w3 (w3.alloc (.cells #[.string nm2, .slice oc2 cs2.length cc2, .slice ox2 xs2.length cx2, .int .i64 hd2, .slice od2 rs2.length cr2] 29)) := (Gr.refl _).alloc _
  obtain ⟨gY, hgY⟩ : ∃ g, w3.heap.size = g := ⟨_, rfl⟩
  rw [hgY] at e0 e1 e2 e3 e4
  rw [hgY]
  obtain ⟨w4, hw4⟩ : ∃ W, w3.alloc (.cells #[.string nm2, .slice oc2 cs2.length cc2, .slice ox2 xs2.length cx2, .int .i64 hd2, .slice od2 rs2.length cr2] 29) = W := ⟨_, rfl⟩
  rw [hw4] at e0 e1 e2 e3 e4 hg4
  rw [hw4]
  have b0 := hg4.keep b0
  have b1 := hg4.keep b1
  have b2 := hg4.keep b2
  have b3 := hg4.keep b3
  have b4 := hg4.keep b4
  have d0 := hg4.keep d0
  have d1 := hg4.keep d1
  have d2 := hg4.keep d2
  have d3 := hg4.keep d3
  have d4 := hg4.keep d4
  have HG4 := hid (HG3.out.trans hg4)
  have HX := hid (HX.out.keep hg4)
  have HY := hid (HY.out.keep hg4)
  have zb := lt_of_cell b0
  have zd := lt_of_cell d0
  have ze := lt_of_cell e0
  clear hw4 hgY hg4
  have E1 : ∀ W, Rg.Up w4 W → Calls Tryd.prog 16 #[.agg #[.string nm, .slice oc cs.length cc, .slice ox xs.length cx, .int .i64 hd, .slice od rs.length cr]] W (RetB SB W) := fun W hW => C1.out W (HG4.out.trans hW)
  have E2 : ∀ W, Rg.Up w4 W → Calls Tryd.prog 17 #[.agg #[.string nm, .slice oc cs.length cc, .slice ox xs.length cx, .int .i64 hd, .slice od rs.length cr]] W (RetB SB W) := fun W hW => C2.out W (HG4.out.trans hW)
  have E3 : ∀ W, Rg.Up w4 W → Calls Tryd.prog 18 #[.agg #[.string nm1, .slice oc1 cs1.length cc1, .slice ox1 xs1.length cx1, .int .i64 hd1, .slice od1 rs1.length cr1], .agg #[.string nm2, .slice oc2 cs2.length cc2, .slice ox2 xs2.length cx2, .int .i64 hd2, .slice od2 rs2.length cr2]] W fun e w' => e = .returned (.bool true) ∧ Gr W w' := fun W hW => by
    have key : ∀ T : Tb, TbAt w4 T → schL T = schL (R.getD noT) → (joinV (schL T)).length ≤ 2000000 ∧ (∀ v ∈ schL T, VOk v) ∧ T.cs.length ≤ 2000000 ∧ T.xs.length ≤ 2000000 ∧ T.rs.length ≤ 2000000 → ∀ W', Gr W W' → Calls Tryd.prog 17 #[T.val] W' (RetB (joinV (schL (R.getD noT))) W') := fun T h1 h2 h3 W' hW' => by
      have := rschema_any T W' (h1.keep (Gr.trans hW hW')) h3.2.2 h3.2.1 (by omega)
      rw [h2] at this
      exact this
    have S := sametab_any _ _ (joinV (schL (R.getD noT))) (joinV (schL (R.getD noT))) W (.string nm1) (.slice oc1 cs1.length cc1) (.slice ox1 xs1.length cx1) (.int .i64 hd1) (.slice od1 rs1.length cr1) (.string nm2) (.slice oc2 cs2.length cc2) (.slice ox2 xs2.length cx2) (.int .i64 hd2) (.slice od2 rs2.length cr2) rfl rfl
      (fun v hv => by simp at hv; rcases hv with rfl | rfl | rfl | rfl | rfl <;> rfl) (fun v hv => by simp at hv; rcases hv with rfl | rfl | rfl | rfl | rfl <;> rfl)
      (key ⟨nm1, oc1, cs1, cc1, ox1, xs1, cx1, hd1, od1, rs1, cr1⟩ HX.out HXS.out HFX.out)
      (key ⟨nm2, oc2, cs2, cc2, ox2, xs2, cx2, hd2, od2, rs2, cr2⟩ HY.out HYS.out HFY.out)
    refine S.mono ?_
    rintro e w' ⟨rfl, hg⟩
    exact ⟨by simp, hg⟩
  have E4 : ∀ W, Rg.Up w4 W → Calls Tryd.prog 8 #[] W fun e w' => e = .returned (.bool true) ∧ Gr W w' := fun W hW => AW.out W (HG4.out.trans hW)
  generalize R.isSome = B at *
  have H1 := hid E1
  have H2 := hid E2
  have H3 := hid E3
  have H4 := hid E4
  clear C1 C2 AW D1 D2 SR RF E1 E2 E3 E4 HX HY HXS HYS HFX HFY HG0 HG1 HG2 HG3
  refine Rg.region_facts (W := w4) 20 [] [(2, [1]), (5, [4])] [(1, GBs SB), (4, GBs SB)] (fun _ => false) [1, 4]
    [some (.agg #[.string nm, .slice oc cs.length cc, .slice ox xs.length cx, .int .i64 hd, .slice od rs.length cr]), none, some (.string (strOfNums SB)), some (.agg #[.string nm, .slice oc cs.length cc, .slice ox xs.length cx, .int .i64 hd, .slice od rs.length cr]), none, some (.string (strOfNums SB)), some (.bool true), some (.bool true), some (.agg #[.string nm1, .slice oc1 cs1.length cc1, .slice ox1 xs1.length cx1, .int .i64 hd1, .slice od1 rs1.length cr1]), some (.agg #[.string nm2, .slice oc2 cs2.length cc2, .slice ox2 xs2.length cx2, .int .i64 hd2, .slice od2 rs2.length cr2]), some (.bool true), some (.bool true), some (.bool true), some (.bool B), some (.bool B), some (.bool true), some (.bool true), some (.bool true), some (.bool true), some (.bool true)]
    (Below.drew (Below.refl _ _)) (by kernel_rfl) (by kernel_rfl) ⟨rfl, rfl, trivial⟩ (gbs_keep _ _ _ _) (fun _ _ d _ _ h => by cases d <;> exact h) ?_
  intro v
  simp only [List.take_succ_cons, List.take_zero, Rg.wpF, Option.getD_some, Option.getD_none, Act.put, List.setIfInBounds_toArray, List.set_cons_zero, List.set_cons_succ]
  refine ⟨?_, ?_, ?_, ?_, ?_, ?_, ?_, ?_, ?_, ?_, ?_, ?_, ?_, ?_, ?_, ?_, ?_, ?_, ?_, ?_, ?_⟩
  · refine sf_det (by rfl) (by rfl) (fun w' hS hF => ?_)
    have hc := Gr.cells hS
    have hf := Gr.frees hS
    go_simp
    first
    | exact Below.refl _ _
    | (refine ⟨?_, Below.refl _ _⟩; with_reducible rfl)
  · refine sf_free (by rfl) (by rfl) (fun w' hS hF => ?_)
    go_simp
    refine (H1.out _ hS).mono ?_
    rintro e w'' ⟨oa', c', rfl, hcc, hB, hg⟩
    exact ⟨_, rfl, ⟨oa', c', rfl, hB⟩, hg⟩
  · refine sf_det (by rfl) (by rfl) (fun w' hS hF => ?_)
    obtain ⟨oa', c', e, hB⟩ := hF.1
    have cv := conv_b c' hB
    rw [e]
    go_simp
    first
    | exact Below.refl _ _
    | (refine ⟨?_, Below.refl _ _⟩; with_reducible rfl)
  · refine sf_det (by rfl) (by rfl) (fun w' hS hF => ?_)
    have hc := Gr.cells hS
    have hf := Gr.frees hS
    go_simp
    first
    | exact Below.refl _ _
    | (refine ⟨?_, Below.refl _ _⟩; with_reducible rfl)
  · refine sf_free (by rfl) (by rfl) (fun w' hS hF => ?_)
    go_simp
    refine (H2.out _ hS).mono ?_
    rintro e w'' ⟨oa', c', rfl, hcc, hB, hg⟩
    exact ⟨_, rfl, ⟨oa', c', rfl, hB⟩, hg⟩
  · refine sf_det (by rfl) (by rfl) (fun w' hS hF => ?_)
    obtain ⟨oa', c', e, hB⟩ := hF.1
    have cv := conv_b c' hB
    rw [e]
    go_simp
    first
    | exact Below.refl _ _
    | (refine ⟨?_, Below.refl _ _⟩; with_reducible rfl)
  · refine sf_det (by rfl) (by rfl) (fun w' hS hF => ?_)
    have hc := Gr.cells hS
    have hf := Gr.frees hS
    go_simp
    first
    | exact Below.refl _ _
    | (refine ⟨?_, Below.refl _ _⟩; with_reducible rfl)
  · refine sf_det (by rfl) (by rfl) (fun w' hS hF => ?_)
    have hc := Gr.cells hS
    have hf := Gr.frees hS
    go_simp
    first
    | exact Below.refl _ _
    | (refine ⟨?_, Below.refl _ _⟩; with_reducible rfl)
  · refine sf_det (by rfl) (by rfl) (fun w' hS hF => ?_)
    have hc := Gr.cells hS
    have hf := Gr.frees hS
    go_simp
    first
    | exact Below.refl _ _
    | (refine ⟨?_, Below.refl _ _⟩; with_reducible rfl)
  · refine sf_det (by rfl) (by rfl) (fun w' hS hF => ?_)
    have hc := Gr.cells hS
    have hf := Gr.frees hS
    go_simp
    first
    | exact Below.refl _ _
    | (refine ⟨?_, Below.refl _ _⟩; with_reducible rfl)
  · refine sf_det (by rfl) (by rfl) (fun w' hS hF => ?_)
    go_simp
    refine (H3.out _ hS).mono ?_
    rintro e w'' ⟨rfl, hg⟩
    exact ⟨rfl, hg⟩
  · refine sf_det (by rfl) (by rfl) (fun w' hS hF => ?_)
    have hc := Gr.cells hS
    have hf := Gr.frees hS
    go_simp
    first
    | exact Below.refl _ _
    | (refine ⟨?_, Below.refl _ _⟩; with_reducible rfl)
  · refine sf_det (by rfl) (by rfl) (fun w' hS hF => ?_)
    have hc := Gr.cells hS
    have hf := Gr.frees hS
    go_simp
    first
    | exact Below.refl _ _
    | (refine ⟨?_, Below.refl _ _⟩; with_reducible rfl)
  · refine sf_det (by rfl) (by rfl) (fun w' hS hF => ?_)
    have hc := Gr.cells hS
    have hf := Gr.frees hS
    go_simp
    first
    | exact Below.refl _ _
    | (refine ⟨?_, Below.refl _ _⟩; with_reducible rfl)
  · refine sf_det (by rfl) (by rfl) (fun w' hS hF => ?_)
    have hc := Gr.cells hS
    have hf := Gr.frees hS
    go_simp
    first
    | exact Below.refl _ _
    | (refine ⟨?_, Below.refl _ _⟩; with_reducible rfl)
  · refine sf_det (by rfl) (by rfl) (fun w' hS hF => ?_)
    have hc := Gr.cells hS
    have hf := Gr.frees hS
    go_simp
    first
    | exact Below.refl _ _
    | (refine ⟨?_, Below.refl _ _⟩; with_reducible rfl)
  · refine sf_det (by rfl) (by rfl) (fun w' hS hF => ?_)
    have hc := Gr.cells hS
    have hf := Gr.frees hS
    go_simp
    first
    | exact Below.refl _ _
    | (refine ⟨?_, Below.refl _ _⟩; with_reducible rfl)
  · refine sf_det (by rfl) (by rfl) (fun w' hS hF => ?_)
    have hc := Gr.cells hS
    have hf := Gr.frees hS
    go_simp
    first
    | exact Below.refl _ _
    | (refine ⟨?_, Below.refl _ _⟩; with_reducible rfl)
  · refine sf_det (by rfl) (by rfl) (fun w' hS hF => ?_)
    go_simp
    refine (H4.out _ hS).mono ?_
    rintro e w'' ⟨rfl, hg⟩
    exact ⟨rfl, hg⟩
  · refine sf_det (by rfl) (by rfl) (fun w' hS hF => ?_)
    have hc := Gr.cells hS
    have hf := Gr.frees hS
    go_simp
    first
    | exact Below.refl _ _
    | (refine ⟨?_, Below.refl _ _⟩; with_reducible rfl)
  · intro w5 hK
    have hg : Gr _ w5 := hK.up
    have HG := hid (HG4.out.trans hg)
    clear hK hg
    simp only [List.drop_succ_cons, List.drop_zero]
    go_wp2
    go_ret
    exact ⟨rfl, HG.out⟩
end Go.Proofs.YtacbhkmkknicoaaDoor

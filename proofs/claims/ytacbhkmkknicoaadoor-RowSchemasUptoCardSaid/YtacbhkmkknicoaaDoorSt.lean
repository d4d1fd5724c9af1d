/- row: two tables held against each other. -/
import Derived.Test.YtacbhkmkknicoaaDoorS3
import Derived.Test.YtacbhkmkknicoaaDoorX1
namespace Go.Proofs.YtacbhkmkknicoaaDoor
open Go.RowKit
set_option linter.unusedSimpArgs false
set_option linter.unusedVariables false
attribute [local go_sem] Rg.leads_value Rg.leads_skip Rg.leads_enter Rg.brings_value Rg.brings_skip Rg.brings_enter Rg.bringsG_value Rg.bringsG_enter
/-- these bytes -/
def GBs (l : List Int) (u : Value) (w : World) : Prop := ∃ oa c, u = .slice oa l.length c ∧ BAt w oa l
theorem gbs_keep (i1 i2 : Nat) (l1 l2 : List Int) : ∀ k u w w', Rg.Gat [(i1, GBs l1), (i2, GBs l2)] k u w → Rg.Up w w' → Rg.Gat [(i1, GBs l1), (i2, GBs l2)] k u w' := by
  intro k u w w' h hu
  unfold Rg.Gat at h ⊢
  split at h
  · rename_i hk
    rw [if_pos hk]
    obtain ⟨oa, c, e, hB⟩ := h
    exact ⟨oa, c, e, hB.keep hu⟩
  · rename_i hk
    rw [if_neg hk]
    unfold Rg.Gat at h ⊢
    split at h
    · rename_i hk2
      rw [if_pos hk2]
      obtain ⟨oa, c, e, hB⟩ := h
      exact ⟨oa, c, e, hB.keep hu⟩
    · rename_i hk2
      rw [if_neg hk2]
      trivial
set_option maxHeartbeats 8000000 in
set_option maxRecDepth 100000 in
theorem sametab_any (a b : Value) (R1 R2 : List Int) (w : World) (a0 a1 a2 a3 a4 b0 b1 b2 b3 b4 : Value) (ha : a = .agg #[a0, a1, a2, a3, a4]) (hb : b = .agg #[b0, b1, b2, b3, b4]) (o1 : ∀ v ∈ #[a0, a1, a2, a3, a4], v.oneCell' = true) (o2 : ∀ v ∈ #[b0, b1, b2, b3, b4], v.oneCell' = true)
    (h1 : ∀ W, Gr w W → Calls Tryd.prog 17 #[a] W (RetB R1 W)) (h2 : ∀ W, Gr w W → Calls Tryd.prog 17 #[b] W (RetB R2 W)) :
    Calls Tryd.prog 18 #[a, b] w fun e w' => e = .returned (.bool ((strOfNums R1).toList == (strOfNums R2).toList)) ∧ Gr w w' := by
  subst ha
  subst hb
  have H1 := hid h1
  have H2 := hid h2
  clear h1 h2 o1 o2
  go_enter Tryd.func18, Tryd.ntmps18
  go_upto_region 1 with (fail)
  obtain ⟨b0', b1', b2', b3', b4'⟩ := box5 w a0 a1 a2 a3 a4
  have hs1 : (w.alloc (.cells #[a0, a1, a2, a3, a4] 29)).heap.size = w.heap.size + 1 := by simp
  have hg1 : Gr w (w.alloc (.cells #[a0, a1, a2, a3, a4] 29)) := (Gr.refl _).alloc _
  obtain ⟨wA, hwA⟩ : ∃ W, w.alloc (.cells #[a0, a1, a2, a3, a4] 29) = W := ⟨_, rfl⟩
  rw [hwA] at b0' b1' b2' b3' b4' hs1 hg1
  rw [hwA, ← hs1]
  obtain ⟨c0, c1, c2, c3, c4⟩ := box5 wA b0 b1 b2 b3 b4
  have hg2 : Gr wA (wA.alloc (.cells #[b0, b1, b2, b3, b4] 29)) := (Gr.refl _).alloc _
  obtain ⟨gA, hgA⟩ : ∃ g, w.heap.size = g := ⟨_, rfl⟩
  obtain ⟨gB, hgB⟩ : ∃ g, wA.heap.size = g := ⟨_, rfl⟩
  obtain ⟨wB, hwB⟩ : ∃ W, wA.alloc (.cells #[b0, b1, b2, b3, b4] 29) = W := ⟨_, rfl⟩
  rw [hwB] at c0 c1 c2 c3 c4 hg2
  rw [hwB]
  rw [hgB] at c0 c1 c2 c3 c4
  rw [hgA] at b0' b1' b2' b3' b4'
  rw [hgA, hgB]
  have a0' := hg2.keep b0'
  have a1' := hg2.keep b1'
  have a2' := hg2.keep b2'
  have a3' := hg2.keep b3'
  have a4' := hg2.keep b4'
  have zA := lt_of_cell a0'
  have zB := lt_of_cell c0
  have HGB := hid (hg1.trans hg2)
  clear hwA hwB hgA hgB hs1 b0' b1' b2' b3' b4' hg1 hg2
  refine Rg.region_facts (W := wB) 7 [] [(2, [1]), (5, [4])] [(1, GBs R1), (4, GBs R2)] (fun _ => false) [1, 4]
    [some (.agg #[a0, a1, a2, a3, a4]), none, some (.string (strOfNums R1)), some (.agg #[b0, b1, b2, b3, b4]), none, some (.string (strOfNums R2)), some (.bool ((strOfNums R1).toList == (strOfNums R2).toList))]
    (Below.drew (Below.refl _ _)) (by kernel_rfl) (by kernel_rfl) ⟨rfl, rfl, trivial⟩ (gbs_keep _ _ _ _) (fun _ _ d _ _ h => by cases d <;> exact h) ?_
  intro v
  simp only [List.take_succ_cons, List.take_zero, Rg.wpF, Option.getD_some, Option.getD_none, Act.put, List.setIfInBounds_toArray, List.set_cons_zero, List.set_cons_succ]
  refine ⟨?_, ?_, ?_, ?_, ?_, ?_, ?_, ?_⟩
  · refine sf_det (by rfl) (by rfl) (fun w' hS hF => ?_)
    have hc := Gr.cells hS
    have hf := Gr.frees hS
    go_simp
    first
    | exact Below.refl _ _
    | (refine ⟨?_, Below.refl _ _⟩; with_reducible rfl)
  · refine sf_free (by rfl) (by rfl) (fun w' hS hF => ?_)
    go_simp
    refine (H1.out _ (HGB.out.trans hS)).mono ?_
    rintro e w'' ⟨oa, c, rfl, hcc, hB, hg⟩
    exact ⟨_, rfl, ⟨oa, c, rfl, hB⟩, hg⟩
  · refine sf_det (by rfl) (by rfl) (fun w' hS hF => ?_)
    obtain ⟨oa, c, e, hB⟩ := hF.1
    have cv := conv_b c hB
    rw [e]
    go_simp
    first
    | exact Below.refl _ _
    | (refine ⟨?_, Below.refl _ _⟩; with_reducible rfl)
  · refine sf_det (by rfl) (by rfl) (fun w' hS hF => ?_)
    have hc := Gr.cells hS
    have hf := Gr.frees hS
    go_simp
    first
    | exact Below.refl _ _
    | (refine ⟨?_, Below.refl _ _⟩; with_reducible rfl)
  · refine sf_free (by rfl) (by rfl) (fun w' hS hF => ?_)
    go_simp
    refine (H2.out _ (HGB.out.trans hS)).mono ?_
    rintro e w'' ⟨oa, c, rfl, hcc, hB, hg⟩
    exact ⟨_, rfl, ⟨oa, c, rfl, hB⟩, hg⟩
  · refine sf_det (by rfl) (by rfl) (fun w' hS hF => ?_)
    obtain ⟨oa, c, e, hB⟩ := hF.1
    have cv := conv_b c hB
    rw [e]
    go_simp
    first
    | exact Below.refl _ _
    | (refine ⟨?_, Below.refl _ _⟩; with_reducible rfl)
  · refine sf_det (by rfl) (by rfl) (fun w' hS hF => ?_)
    go_simp
    first
    | exact Below.refl _ _
    | (refine ⟨?_, Below.refl _ _⟩; with_reducible rfl)
  · intro w1 hK
    have hg : Gr _ w1 := hK.up
    have HG := hid (HGB.out.trans hg)
    clear hK hg
    simp only [List.drop_succ_cons, List.drop_zero]
    go_wp2
    go_ret
    exact ⟨rfl, HG.out⟩
end Go.Proofs.YtacbhkmkknicoaaDoor

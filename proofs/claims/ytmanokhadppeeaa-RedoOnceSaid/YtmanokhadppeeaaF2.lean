/- redo: To. -/
import Derived.Test.YtmanokhadppeeaaF1
import Derived.Test.YtmanokhadppeeaaPs
namespace Go.Proofs.Ytmanokhadppeeaa
open Go.RowKit
set_option linter.unusedSimpArgs false
set_option linter.unusedVariables false
attribute [local go_sem] Rg.leads_value Rg.leads_skip Rg.leads_enter Rg.brings_value Rg.brings_skip Rg.brings_enter Rg.bringsG_value Rg.bringsG_enter
theorem m_info : (Try.prog.info? 79).map (fun i => (i.zero, i.size, i.bytes)) = some (some (.agg #[.int .i64 0, .int .i64 0, .int .i64 0, .int .i64 0, .int .i64 0, .int .i64 0, .int .i64 0, .slice none 0 0, .slice none 0 0, .slice none 0 0, .slice none 0 0, .int .i64 0]), 12, 160) := by kernel_rfl
def ToRel (w : World) (l : List Ln) (s3 s4 : Value) (wr : World) : Prop := ∃ k : Nat, s4 = .int .i64 (k : Int) ∧ k ≤ l.length ∧ Gr w wr ∧ wr.ownsRow w.heap.size 79 12 s3 k (cellsF nF (l.take k))
theorem take_snoc {α : Type} (l : List α) (k : Nat) (h : k < l.length) : l.take (k + 1) = l.take k ++ [l[k]] := by
  rw [List.take_add_one, List.getElem?_eq_getElem h]; rfl
set_option maxHeartbeats 2000000 in
set_option maxRecDepth 100000 in
theorem to_any (oa : Option Addr) (c : Nat) (l : List Ln) (w : World) (hl : l.length ≤ 1000000) (hp : LAt w oa l) :
    Calls Try.prog 14 #[.slice oa l.length c] w fun e w' => ∃ v, e = .returned v ∧ w'.ownsRow w.heap.size 79 12 v l.length (cellsF nF l) ∧ Gr w w' := by
  have HP := hid hp
  have h0 : Hid (ToRel w l (.slice none 0 0) (.int .i64 0) w) := hid ⟨0, rfl, Nat.zero_le _, Gr.refl _, by rw [List.take_zero]; exact World.ownsRow_nil _ _ _ _⟩
  clear hp
  go_enter Try.func14, Try.ntmps14
  go_wp2_with fail
  go_loopw [3, 4] (fun s3 s4 wr => ToRel w l s3 s4 wr) (fun _ s4 _ => l.length - (intOf s4).toNat)
  case atStart => exact h0.out
  case round =>
    clear h0
    obtain ⟨k, rfl, hk, hg, hO⟩ := hrel
    have HO := hid hO
    clear hO
    by_cases hlt : k < l.length
    · obtain ⟨b, off, rfl, c0, c1, c2, c3, c4, c5, c6, c7, c8, c9, c10, c11⟩ := n_get (HP.out.keep hg) k hlt
      have hbb := lt_of_cell c0
      have hT : Hid (cellsF nF (l.take (k + 1)) = cellsF nF (l.take k) ++ nF l[k]) := hid (by rw [take_snoc l k hlt, cellsF_snoc])
      have g1 : decide ((l.length : Int) ≤ (k : Int)) = false := by rw [decide_eq_false_iff_not]; omega
      have g2 : (k : Int) < (l.length : Int) := by omega
      have g3 : (0 : Int) ≤ (k : Int) := by omega
      generalize l[k] = x at *
      have hg0 := hg
      go_upto_region 5 with (fail)
      refine Rg.region_facts (W := wr) 13 [] [] [(12, Sl 1 (nF x))] (fun _ => false) [12] [some ?_, some ?_, some ?_, some ?_, some ?_, some ?_, some ?_, some ?_, some ?_, some ?_, some ?_, some ?_, none] (Below.drew (Below.refl _ _)) (by kernel_rfl) (by kernel_rfl) ⟨rfl, trivial⟩ (sl_keep _ _ _) (fun _ _ d _ _ h => by cases d <;> exact h) ?_
      rotate_left 12
      intro vq
      simp only [List.take_succ_cons, List.take_zero, Rg.wpF, Option.getD_some, Option.getD_none, Act.put, List.setIfInBounds_toArray, List.set_cons_zero, List.set_cons_succ]
      refine ⟨?_, ?_, ?_, ?_, ?_, ?_, ?_, ?_, ?_, ?_, ?_, ?_, ?_, ?_⟩
      · refine sf_det (by rfl) (by rfl) (fun w' hS hF => ?_)
        have hc := Gr.cells hS
        have hf := Gr.frees hS
        go_simp
        first
           | exact Below.refl _ _
           | (refine ⟨?_, Below.refl _ _⟩; with_reducible rfl)
      · refine sf_det (by rfl) (by rfl) (fun w' hS hF => ?_)
        have hc := Gr.cells hS
        have hf := Gr.frees hS
        go_simp
        first
           | exact Below.refl _ _
           | (refine ⟨?_, Below.refl _ _⟩; with_reducible rfl)
      · refine sf_det (by rfl) (by rfl) (fun w' hS hF => ?_)
        have hc := Gr.cells hS
        have hf := Gr.frees hS
        go_simp
        first
           | exact Below.refl _ _
           | (refine ⟨?_, Below.refl _ _⟩; with_reducible rfl)
      · refine sf_det (by rfl) (by rfl) (fun w' hS hF => ?_)
        have hc := Gr.cells hS
        have hf := Gr.frees hS
        go_simp
        first
           | exact Below.refl _ _
           | (refine ⟨?_, Below.refl _ _⟩; with_reducible rfl)
      · refine sf_det (by rfl) (by rfl) (fun w' hS hF => ?_)
        have hc := Gr.cells hS
        have hf := Gr.frees hS
        go_simp
        first
           | exact Below.refl _ _
           | (refine ⟨?_, Below.refl _ _⟩; with_reducible rfl)
      · refine sf_det (by rfl) (by rfl) (fun w' hS hF => ?_)
        have hc := Gr.cells hS
        have hf := Gr.frees hS
        go_simp
        first
           | exact Below.refl _ _
           | (refine ⟨?_, Below.refl _ _⟩; with_reducible rfl)
      · refine sf_det (by rfl) (by rfl) (fun w' hS hF => ?_)
        have hc := Gr.cells hS
        have hf := Gr.frees hS
        go_simp
        first
           | exact Below.refl _ _
           | (refine ⟨?_, Below.refl _ _⟩; with_reducible rfl)
      · refine sf_det (by rfl) (by rfl) (fun w' hS hF => ?_)
        have hc := Gr.cells hS
        have hf := Gr.frees hS
        go_simp
        first
           | exact Below.refl _ _
           | (refine ⟨?_, Below.refl _ _⟩; with_reducible rfl)
      · refine sf_det (by rfl) (by rfl) (fun w' hS hF => ?_)
        have hc := Gr.cells hS
        have hf := Gr.frees hS
        go_simp
        first
           | exact Below.refl _ _
           | (refine ⟨?_, Below.refl _ _⟩; with_reducible rfl)
      · refine sf_det (by rfl) (by rfl) (fun w' hS hF => ?_)
        have hc := Gr.cells hS
        have hf := Gr.frees hS
        go_simp
        first
           | exact Below.refl _ _
           | (refine ⟨?_, Below.refl _ _⟩; with_reducible rfl)
      · refine sf_det (by rfl) (by rfl) (fun w' hS hF => ?_)
        have hc := Gr.cells hS
        have hf := Gr.frees hS
        go_simp
        first
           | exact Below.refl _ _
           | (refine ⟨?_, Below.refl _ _⟩; with_reducible rfl)
      · refine sf_det (by rfl) (by rfl) (fun w' hS hF => ?_)
        have hc := Gr.cells hS
        have hf := Gr.frees hS
        go_simp
        first
           | exact Below.refl _ _
           | (refine ⟨?_, Below.refl _ _⟩; with_reducible rfl)
      · refine sf_free (by rfl) (by rfl) (fun w' hS hF => ?_)
        go_simp
        exact sl_new _ _ _ _ _ rfl
      intro w1 hK
      have hg : Gr _ w1 := hK.up
      have hsl := hK.fact 12 (by decide) rfl rfl
      clear hK
      generalize vq 12 = vqq at *
      obtain ⟨g0, rfl, hlb0, hcb0⟩ := hsl
      clear vq
      have hc := Gr.cells hg
      have hf := Gr.frees hg
      have hz := Gr.size hg
      try simp only [World.size_alloc, World.size_setCell, World.size_drew] at hz
      try have : 0 < w1.heap.size := by omega
      try have : w.heap.size < w1.heap.size := by omega
      try have : w.heap.size + 1 < w1.heap.size := by omega
      try have : w.heap.size + 1 + 1 < w1.heap.size := by omega
      try have : w.heap.size + 1 + 1 + 1 < w1.heap.size := by omega
      simp only [List.drop_succ_cons, List.drop_zero]
      have HO1 := hid (own_keep HO.out hg)
      have HG := hg0.trans hg
      obtain ⟨i0, hi0, hz0, hz1, hz2⟩ := info_parts m_info
      have hwb := HG.size
      clear HO c0 c1 c2 c3 c4 c5 c6 c7 c8 c9 c10 c11 hbb
      go_wp2_with (at_builtin; refine wpList_append_own _ rfl _ _ 47 rfl w.heap.size 79 i0 _ 12 160 Try.underlying47 hi0 hz0 hz1 hz2 rfl (by decide) _ _ _ rfl HO1.out ⟨g0, 0, none⟩ 1 1 (nF x) rfl rfl ?mc1 ?mc2 ?mc3 ?mc4 ?mc5 ?_)
      case mc1 =>
        intro q u hu
        rw [addN, Nat.zero_add]; exact hcb0 q u hu
      case mc2 => exact nE.one _
      case mc3 => unfold maxLen; omega
      case mc4 => omega
      case mc5 => first | omega | (simp; omega)
      intro v' w7 hown hg7 _
      have HO7 : Hid (w7.ownsRow w.heap.size 79 12 v' (k + 1) (cellsF nF (l.take (k + 1)))) := hid (by rw [hT.out]; exact hown)
      have GU := Gz.up HG hg7 HO1.out
      have FI : Hid (ToRel w l v' (.int .i64 ((k : Int) + 1)) w7) := hid ⟨k + 1, by go_num, by omega, GU, HO7.out⟩
      clear hown hg7 HO1 HO7 GU HG hT
      go_wp2
      exact ⟨FI.out, by simp [intOf]; omega⟩
    · obtain rfl : k = l.length := by omega
      have g1 : decide ((l.length : Int) ≤ (l.length : Int)) = true := by rw [decide_eq_true_iff]; omega
      have HO1 : Hid (wr.ownsRow w.heap.size 79 12 u3 l.length (cellsF nF l)) := hid (by have := HO.out; rwa [List.take_length] at this)
      go_wp2
      go_ret
      exact ⟨_, rfl, HO1.out, hg⟩
end Go.Proofs.Ytmanokhadppeeaa

/- row: the walk of RowChecks. -/
import Derived.Test.YtacbhkmkknicoaaDoorK3
namespace Go.Proofs.YtacbhkmkknicoaaDoor
open Go.RowKit
set_option linter.unusedSimpArgs false
set_option linter.unusedVariables false
attribute [local go_sem] Rg.leads_value Rg.leads_skip Rg.leads_enter Rg.brings_value Rg.brings_skip Rg.brings_enter Rg.bringsG_value Rg.bringsG_enter
set_option maxHeartbeats 8000000 in
set_option maxRecDepth 100000 in
theorem checks_walk (t : Tb) (oa : Option Addr) (c : Nat) (l : List V) (m : Int) (w : World) (hl : l.length ≤ 9223372036854775807) (hT : TbAt w t) (hp : VAt w oa l) (hv : ∀ v ∈ l, VOk v) (hb : (joinV l).length ≤ 140737488355328) (hm : w.cell? ⟨0, 0, none⟩ = some (.int .i64 m)) :
    Calls Tryd.prog 4 #[t.val, .slice oa l.length c] w fun e w' => e = .returned (.bool true) ∧ Gr w w' := by
  have C1 := hid (fun W (hW : Gr w W) => check_any t oa c l W hl (hT.keep hW) (hp.keep hW) hv hb)
  have C2 := hid (fun W (hW : Gr w W) => rcheck_any t oa c l W hl (hT.keep hW) (hp.keep hW) hv hb)
  have AW := hid (fun W (hW : Gr w W) => awake_any m W (hW.keep hm))
  generalize checkR t l = r at *
  clear hp hv hT hm
  obtain ⟨nm, oc, cs, cc, ox, xs, cx, hd, od, rs, cr⟩ := t
  unfold Tb.val at C1 C2 ⊢
  simp only at C1 C2 ⊢
  have hg0 : Gr w (w.alloc (.cells #[.string nm, .slice oc cs.length cc, .slice ox xs.length cx, .int .i64 hd, .slice od rs.length cr] 29)) := (Gr.refl _).alloc _
  obtain ⟨b0, b1, b2, b3, b4⟩ := box5 w (.string nm) (.slice oc cs.length cc) (.slice ox xs.length cx) (.int .i64 hd) (.slice od rs.length cr)
  go_enter Tryd.func4, Tryd.ntmps4
  go_upto_region 1 with (fail)
  obtain ⟨gB, hgB⟩ : ∃ g, w.heap.size = g := ⟨_, rfl⟩
  rw [hgB] at b0 b1 b2 b3 b4
  rw [hgB]
  obtain ⟨wB, hwB⟩ : ∃ W, w.alloc (.cells #[.string nm, .slice oc cs.length cc, .slice ox xs.length cx, .int .i64 hd, .slice od rs.length cr] 29) = W := ⟨_, rfl⟩
  rw [hwB] at b0 b1 b2 b3 b4 hg0
  rw [hwB]
  have A1 : ∀ W, Rg.Up wB W → Calls Tryd.prog 11 #[.agg #[.string nm, .slice oc cs.length cc, .slice ox xs.length cx, .int .i64 hd, .slice od rs.length cr], .slice oa l.length c] W fun e w' => e = .returned (.int .i64 r) ∧ Gr W w' := fun W hW => C1.out W (hg0.trans hW)
  have A2 : ∀ W, Rg.Up wB W → Calls Tryd.prog 13 #[.agg #[.string nm, .slice oc cs.length cc, .slice ox xs.length cx, .int .i64 hd, .slice od rs.length cr], .slice oa l.length c] W fun e w' => e = .returned (.int .i64 r) ∧ Gr W w' := fun W hW => C2.out W (hg0.trans hW)
  have A3 : ∀ W, Rg.Up wB W → Calls Tryd.prog 8 #[] W fun e w' => e = .returned (.bool true) ∧ Gr W w' := fun W hW => AW.out W (hg0.trans hW)
  have zb := lt_of_cell b0
  have HG0 := hid hg0
  clear hwB hgB C1 C2 AW hg0
  refine Rg.region_text 10 (Below.drew (Below.refl _ _)) (by kernel_rfl) (by kernel_rfl) (fun _ _ d _ _ h => by cases d <;> exact h) ?_
  simp only [List.append_eq, List.cons_append, List.nil_append, List.take_succ_cons, List.take_zero, List.drop_succ_cons, List.drop_zero]
  repeat (first
      | (refine Rg.wpDets_skip (by rfl) ?_; simp only [Act.put, List.setIfInBounds_toArray, List.set_cons_zero, List.set_cons_succ])
      | (refine Rg.wpDets_step ?_ (by rfl) (fun w hS => ?_) ?_
         rotate_left
         · have hc := Gr.cells hS
           have hf := Gr.frees hS
           go_simp
           first
           | (refine ⟨?_, Below.refl _ _⟩; with_reducible rfl)
           | ((with_reducible refine (A1 _ hS).mono ?_); rintro e w' ⟨rfl, hg⟩; refine ⟨?_, hg⟩; with_reducible rfl)
           | ((with_reducible refine (A2 _ hS).mono ?_); rintro e w' ⟨rfl, hg⟩; refine ⟨?_, hg⟩; with_reducible rfl)
           | ((with_reducible refine (A3 _ hS).mono ?_); rintro e w' ⟨rfl, hg⟩; refine ⟨?_, hg⟩; with_reducible rfl)
         simp only [Act.put, List.setIfInBounds_toArray, List.set_cons_zero, List.set_cons_succ]))
  refine Rg.wpDets_nil ?_
  refine Rg.wpFlts_nil ?_
  refine Rg.wpLays_nil ?_
  intro w1 hK
  have hg : Gr _ w1 := hK.up
  have hc := Gr.cells hg
  have hf := Gr.frees hg
  have hz := Gr.size hg
  try simp only [World.size_alloc, World.size_setCell, World.size_drew] at hz
  try have : 0 < w1.heap.size := by omega
  try have : w.heap.size < w1.heap.size := by omega
  try have : w.heap.size + 1 < w1.heap.size := by omega
  try have : w.heap.size + 1 + 1 < w1.heap.size := by omega
  try have : w.heap.size + 1 + 1 + 1 < w1.heap.size := by omega
  have HG := hid (HG0.out.trans hg)
  clear A1 A2 A3
  go_wp2
  go_ret
  exact ⟨rfl, HG.out⟩
/-- what a row weighs is enough for its bytes -/
theorem encV_len (v : V) : (encV v).length ≤ 2 * v.s.size + 9 := by
  unfold encV
  split
  · simp [be8]
  · split
    · unfold encT
      have := esc_len v.s.data.toList
      have h2 : v.s.data.toList.length = v.s.size := by simp
      simp only [List.length_cons, List.length_append, List.length_nil]
      omega
    · split <;> simp
end Go.Proofs.YtacbhkmkknicoaaDoor

/- row: awake. -/
import Derived.Test.YtacbhkmkknicoaaDoorSm
namespace Go.Proofs.YtacbhkmkknicoaaDoor
open Go.RowKit
set_option linter.unusedSimpArgs false
set_option linter.unusedVariables false
attribute [local go_sem] Rg.leads_value Rg.leads_skip Rg.leads_enter Rg.brings_value Rg.brings_skip Rg.brings_enter Rg.bringsG_value Rg.bringsG_enter
theorem int_any (n : Int) (w : World) : Calls Tryd.prog 10 #[.int .i64 n] w fun e w' => e = .returned (.agg #[.int .i64 1, .int .i64 n, .string ⟨#[]⟩, .bool false]) ∧ Gr w w' := by
  go_enter Tryd.func10, Tryd.ntmps10
  go_wp2
  refine bodyPost_ret (by simp [results, Tryd.results10, go_sem]; try rfl) rfl ⟨rfl, ?_⟩
  exact (Gr.refl _).alloc _
theorem mtext_any (s : ByteArray) (w : World) : Calls Tryd.prog 9 #[.string s] w fun e w' => e = .returned (.agg #[.int .i64 2, .int .i64 0, .string s, .bool false]) ∧ Gr w w' := by
  go_enter Tryd.func9, Tryd.ntmps9
  go_wp2
  refine bodyPost_ret (by simp [results, Tryd.results9, go_sem]; try rfl) rfl ⟨rfl, ?_⟩
  exact (Gr.refl _).alloc _
theorem rdec_any (ol : Option Addr) (cl : Nat) (l : List Int) (w : World) (hc : l.length ≤ cl) (hp : BAt w ol l) (hb : byteI l) (hl : l.length ≤ 1000000000000) : Calls Tryd.prog 22 #[.slice ol l.length cl] w (SpP w (splitV l)) := by
  have C := hid (split_any ol cl l w hc hp hb hl)
  generalize splitV l = R at *
  clear hp hb
  go_enter Tryd.func22, Tryd.ntmps22
  go_wp2_with fail
  refine C.out.mono ?_
  rintro e w1 ⟨hg1, h⟩
  cases R with
  | none =>
    simp only at h
    subst h
    have FI : Hid (SpP w none (.returned (.tuple #[.slice none 0 0, .bool false])) w1) := hid ⟨hg1, rfl⟩
    clear C
    generalize (none : Option (List V)) = R at *
    go_wp2
    first | exact FI.out | refine bodyPost_ret (by simp [results, Tryd.results22, go_sem]; try rfl) rfl FI.out
  | some vs =>
    simp only at h
    obtain ⟨oa, rfl, hat⟩ := h
    have FI : Hid (SpP w (some vs) (.returned (.tuple #[.slice oa vs.length vs.length, .bool true])) w1) := hid ⟨hg1, oa, rfl, hat⟩
    clear C hat
    generalize (some vs : Option (List V)) = R at *
    go_wp2
    first | exact FI.out | refine bodyPost_ret (by simp [results, Tryd.results22, go_sem]; try rfl) rfl FI.out
def awS : ByteArray := ⟨#[105, 116, 39, 115]⟩
def awL : List V := [numV 1, nul, textV awS]
def awB : List Int := [1, 128, 0, 0, 0, 0, 0, 0, 1, 0, 2, 105, 116, 39, 115, 0, 0]
theorem aw_join : joinV awL = awB := by kernel_rfl
theorem aw_split : splitV awB = some awL := by kernel_rfl
theorem aw_text : rowT awL = ⟨#[49, 44, 32, 78, 85, 76, 76, 44, 32, 39, 105, 116, 39, 39, 115, 39]⟩ := by kernel_rfl
theorem aw_same : sameB awL awL = true := by kernel_rfl
theorem aw_cmp : cmpR [numV 1] [numV 1, nul] = -1 := by kernel_rfl
theorem aw_byte : byteI awB := by unfold byteI; decide
theorem aw_vok : ∀ v ∈ awL, VOk v := by
  intro v hv
  simp only [awL, List.mem_cons, List.not_mem_nil, or_false] at hv
  rcases hv with rfl | rfl | rfl <;> exact ⟨⟨by decide, by decide⟩, by decide⟩
theorem aw_tok : ∀ v ∈ awL, TOk v := by
  intro v hv
  simp only [awL, List.mem_cons, List.not_mem_nil, or_false] at hv
  rcases hv with rfl | rfl | rfl
  · exact ⟨fun _ => ⟨1, rfl, by decide⟩, by decide, by decide +kernel, by decide +kernel⟩
  · exact ⟨fun h => absurd h (by decide), by decide, by decide +kernel, by decide +kernel⟩
  · exact ⟨fun h => absurd h (by decide), by decide, by decide +kernel, by decide +kernel⟩
theorem vat_new (w : World) (l : List V) : VAt (w.alloc (.cells (cellsF vF l).toArray 32)) (some ⟨w.heap.size, 0, none⟩) l := by
  refine .inr ⟨w.heap.size, 0, rfl, by simp, fun k hk j u hu => ?_⟩
  have hj : j < 4 := by rw [← vE.len l[k]]; exact (List.getElem?_eq_some_iff.1 hu).1
  rw [Rg.blk_cells (heap_alloc_new _ _), Nat.zero_add]
  have := vE.cells_get l k hk j hj
  simpa [this] using hu
theorem vat_take {w : World} {oa : Option Addr} {l : List V} (h : VAt w oa l) (n : Nat) : VAt w oa (l.take n) := by
  rcases h with h | ⟨b, off, e, hb, hr⟩
  · subst h; exact .inl (by simp)
  · exact .inr ⟨b, off, e, hb, fun k hk j u hu => hr k (by simp at hk; omega) j u (by rw [List.getElem_take] at hu; exact hu)⟩
set_option maxHeartbeats 8000000 in
set_option maxRecDepth 100000 in
theorem awake_any (m : Int) (w : World) (hm : w.cell? ⟨0, 0, none⟩ = some (.int .i64 m)) : Calls Tryd.prog 8 #[] w fun e w' => e = .returned (.bool true) ∧ Gr w w' := by
  have HM := hid hm
  clear hm
  go_enter Tryd.func8, Tryd.ntmps8
  go_wp2_with fail
  refine (int_any _ _).mono ?_
  rintro e w1 ⟨rfl, hg1⟩
  go_wp2_with fail
  refine (mtext_any _ _).mono ?_
  rintro e w2 ⟨rfl, hg2⟩
  have hat := vat_new w2 awL
  have hg3 : Gr w (w2.alloc (.cells (cellsF vF awL).toArray 32)) := (hg1.trans hg2).alloc _
  have EN := hid (rowenc_any (some ⟨w2.heap.size, 0, none⟩) 3 awL _ (by decide) hat aw_vok (by rw [aw_join]; decide))
  obtain ⟨W, hW⟩ : ∃ W, w2.alloc (.cells (cellsF vF awL).toArray 32) = W := ⟨_, rfl⟩
  rw [hW] at hat hg3 EN
  have HAT := hid hat
  have HG3 := hid hg3
  clear hat hg3 hg1 hg2
  go_wp2_with fail
  change Calls _ _ _ (w2.alloc (.cells (cellsF vF awL).toArray 32)) _
  rw [hW]
  refine EN.out.mono ?_
  rintro e w4 ⟨ox, nx, cx, rfl, hnx, hncx, hxat, hg4⟩
  rw [aw_join] at hnx hxat
  have hxb := hxat (by decide)
  have hn17 : nx = 17 := by rw [hnx]; rfl
  subst hn17
  rw [aw_join]
  rw [if_pos (show awB.length ≤ 480 by decide)]
  have DE := hid (rdec_any ox cx awB w4 hncx hxb aw_byte (by decide))
  have HAT4 := hid (HAT.out.keep hg4)
  have HG4 := hid (HG3.out.trans hg4)
  generalize w2.heap.size = g at *
  clear hnx hxat hxb hncx hg4 HAT HG3 EN hW
  go_wp2_with fail
  refine DE.out.mono ?_
  rw [aw_split]
  rintro e w5 ⟨hg5, od, rfl, hdat⟩
  rw [show awL.length = 3 from rfl]
  have HD := hid hdat
  have HA := hid (HAT4.out.keep hg5)
  have HG5 := hid (HG4.out.trans hg5)
  clear hg5 hdat DE HAT4 HG4
  have SM : ∀ W, Rg.Up w5 W → Calls Tryd.prog 23 #[.slice od 3 3, .slice (some ⟨g, 0, none⟩) 3 3] W fun e w' => e = .returned (.bool true) ∧ Gr W w' := fun W hW => by
    have := same_any od 3 awL (some ⟨g, 0, none⟩) 3 awL W (by decide) (by decide) (HD.out.keep hW) (HA.out.keep hW)
    rw [aw_same] at this
    exact this
  have TX : ∀ W, Rg.Up w5 W → Calls Tryd.prog 24 #[.slice (some ⟨g, 0, none⟩) 3 3] W fun e w' => e = .returned (.string ⟨#[49, 44, 32, 78, 85, 76, 76, 44, 32, 39, 105, 116, 39, 39, 115, 39]⟩) ∧ Gr W w' := fun W hW => by
    have := rowT_any (some ⟨g, 0, none⟩) 3 awL m W (by decide) (HA.out.keep hW) aw_tok ((HG5.out.trans hW).keep HM.out) (by decide +kernel)
    rw [aw_text] at this
    exact this
  have CM : ∀ W, Rg.Up w5 W → Calls Tryd.prog 21 #[.slice (some ⟨g, 0, none⟩) 1 3, .slice (some ⟨g, 0, none⟩) 2 3] W fun e w' => e = .returned (.int .i64 (-1)) ∧ Gr W w' := fun W hW => by
    have := cmpR_any (some ⟨g, 0, none⟩) 3 [numV 1] (some ⟨g, 0, none⟩) 3 [numV 1, nul] W (by decide) (by decide) (vat_take (HA.out.keep hW) 1) (vat_take (HA.out.keep hW) 2)
    rw [aw_cmp] at this
    exact this
  go_upto_region 4 with (fail)
  refine Rg.region_text 23 (Below.drew (Below.refl _ _)) (by kernel_rfl) (by kernel_rfl) (fun _ _ d _ _ h => by cases d <;> exact h) ?_
  simp only [List.append_eq, List.cons_append, List.nil_append, List.take_succ_cons, List.take_zero, List.drop_succ_cons, List.drop_zero]
  repeat (first
      | (refine Rg.wpDets_skip (by rfl) ?_; simp only [Act.put, List.setIfInBounds_toArray, List.set_cons_zero, List.set_cons_succ])
      | (refine Rg.wpDets_step ?_ (by rfl) (fun w hS => ?_) ?_
         rotate_left
         · have hc := Gr.cells hS
           have hf := Gr.frees hS
           go_simp
           first
           | (refine ⟨?_, Below.refl _ _⟩; with_reducible rfl)
           | ((with_reducible refine (SM _ hS).mono ?_); rintro e w' ⟨rfl, hg⟩; refine ⟨?_, hg⟩; with_reducible rfl)
           | ((with_reducible refine (TX _ hS).mono ?_); rintro e w' ⟨rfl, hg⟩; refine ⟨?_, hg⟩; with_reducible rfl)
           | ((with_reducible refine (CM _ hS).mono ?_); rintro e w' ⟨rfl, hg⟩; refine ⟨?_, hg⟩; with_reducible rfl)
         simp only [Act.put, List.setIfInBounds_toArray, List.set_cons_zero, List.set_cons_succ]))
  refine Rg.wpDets_nil ?_
  refine Rg.wpFlts_nil ?_
  refine Rg.wpLays_nil ?_
  intro w6 hK
  have hg : Gr _ w6 := hK.up
  have hc := Gr.cells hg
  have hf := Gr.frees hg
  have hz := Gr.size hg
  try simp only [World.size_alloc, World.size_setCell, World.size_drew] at hz
  try have : 0 < w6.heap.size := by omega
  try have : w.heap.size < w6.heap.size := by omega
  try have : w.heap.size + 1 < w6.heap.size := by omega
  try have : w.heap.size + 1 + 1 < w6.heap.size := by omega
  try have : w.heap.size + 1 + 1 + 1 < w6.heap.size := by omega
  try have : w1.heap.size < w6.heap.size := by omega
  try have : w1.heap.size + 1 < w6.heap.size := by omega
  try have : w2.heap.size < w6.heap.size := by omega
  try have : w2.heap.size + 1 < w6.heap.size := by omega
  try have : w3.heap.size < w6.heap.size := by omega
  try have : w3.heap.size + 1 < w6.heap.size := by omega
  try have : w4.heap.size < w6.heap.size := by omega
  try have : w4.heap.size + 1 < w6.heap.size := by omega
  try have : w5.heap.size < w6.heap.size := by omega
  try have : w5.heap.size + 1 < w6.heap.size := by omega
  have HG := hid (HG5.out.trans hg)
  clear SM TX CM HD HA HG5
  go_wp2
  go_ret
  exact ⟨rfl, HG.out⟩
end Go.Proofs.YtacbhkmkknicoaaDoor

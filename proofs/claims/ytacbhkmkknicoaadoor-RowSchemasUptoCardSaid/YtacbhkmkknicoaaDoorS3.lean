/- row: the reference's word on a table's bytes. (By mkS3.py.) -/
import Derived.Test.YtacbhkmkknicoaaDoorS2
import Derived.Deep.DeepCutAuto
namespace Go.Proofs.YtacbhkmkknicoaaDoor
open Go.RowKit
set_option linter.unusedSimpArgs false
set_option linter.unusedVariables false
attribute [local go_sem] Rg.leads_value Rg.leads_skip Rg.leads_enter Rg.brings_value Rg.brings_skip Rg.brings_enter Rg.bringsG_value Rg.bringsG_enter
/-- a new row of one's own -/
def OwnR (T sz B m : Nat) (xs : List Value) (u : Value) (w : World) : Prop := (∃ g, u = .slice (some ⟨g, 0, none⟩) m m) ∧ w.ownsRow B T sz u m xs
theorem ownR_keep (T sz B m k : Nat) (xs : List Value) : ∀ i u w w', Rg.Gat [(k, OwnR T sz B m xs)] i u w → Rg.Up w w' → Rg.Gat [(k, OwnR T sz B m xs)] i u w' := by
  intro i u w w' h hu
  unfold Rg.Gat at h ⊢
  split at h
  · rename_i hk; rw [if_pos hk]; exact ⟨h.1, own_keep h.2 hu⟩
  · rename_i hk; rw [if_neg hk]; trivial
theorem ownR_new {W w : World} {T sz m : Nat} (hW : Rg.Up W w) (cs : Array Value) {xs : List Value} (h : cs.toList = xs) (hm : m ≤ maxLen) (hs : cs.size = m * sz) : OwnR T sz W.heap.size m xs (.slice (some ⟨w.heap.size, 0, none⟩) m m) (w.alloc (.cells cs T)) ∧ Rg.Up w (w.alloc (.cells cs T)) := by
  refine ⟨⟨⟨_, rfl⟩, ?_⟩, (Gr.refl _).alloc _⟩
  subst h
  exact World.ownsRow_lit w cs m (Gr.size hW) hm hs
theorem rtext_any (s : ByteArray) (w : World) : Calls Tryd.prog 44 #[.string s] w fun e w' => e = .returned (.agg #[.int .i64 2, .int .i64 0, .string s, .bool false]) ∧ Gr w w' := by
  go_enter Tryd.func44, Tryd.ntmps44
  go_wp2
  refine bodyPost_ret (by simp [results, Tryd.results44, go_sem]; try rfl) rfl ⟨rfl, ?_⟩
  exact (Gr.refl _).alloc _
theorem rint_any (n : Int) (w : World) : Calls Tryd.prog 45 #[.int .i64 n] w fun e w' => e = .returned (.agg #[.int .i64 1, .int .i64 n, .string ⟨#[]⟩, .bool false]) ∧ Gr w w' := by
  go_enter Tryd.func45, Tryd.ntmps45
  go_wp2
  refine bodyPost_ret (by simp [results, Tryd.results45, go_sem]; try rfl) rfl ⟨rfl, ?_⟩
  exact (Gr.refl _).alloc _
theorem rtruth_any (b : Bool) (w : World) : Calls Tryd.prog 46 #[.bool b] w fun e w' => e = .returned (.agg #[.int .i64 3, .int .i64 0, .string ⟨#[]⟩, .bool b]) ∧ Gr w w' := by
  go_enter Tryd.func46, Tryd.ntmps46
  go_wp2
  refine bodyPost_ret (by simp [results, Tryd.results46, go_sem]; try rfl) rfl ⟨rfl, ?_⟩
  exact (Gr.refl _).alloc _
theorem own_cells {w : World} {B g m c : Nat} {T : TypeId} {l : List V} (h : w.ownsRow B T 4 (.slice (some ⟨g, 0, none⟩) m c) m (cellsF vF l)) : ∀ j u, (cellsF vF l)[j]? = some u → w.cell? ((⟨g, 0, none⟩ : Addr).add j) = some u := by
  rcases h.2 with ⟨h', _⟩ | ⟨g', cap, cur, h', _, hg, _, _, hs, ht⟩
  · cases h'
  · cases h'
    intro j u hu
    rw [addN, Nat.zero_add, World.cell?]
    simp only [hg]
    rw [← ht] at hu
    rw [List.getElem?_take] at hu
    split at hu
    · simpa using hu
    · cases hu
theorem i_get' {w : World} {oa : Option Addr} {l : List Int} (h : IAt w oa l) (k : Nat) (hk : k < l.length) : ∃ b off, oa = some ⟨b, off, none⟩ ∧ w.cell? ⟨b, off + k, none⟩ = some (.int .i64 l[k]) := i_get h k hk
def SrRel (wB : World) (n : Nat) (F : Nat → List V) (s3 s : Value) (wr : World) : Prop := ∃ k : Nat, s = .int .i64 (k : Int) ∧ k ≤ n ∧ wr.ownsRow wB.heap.size 32 4 s3 (F k).length (cellsF vF (F k)) ∧ Gr wB wr
set_option maxHeartbeats 8000000 in
set_option maxRecDepth 100000 in
theorem rschema_any (t : Tb) (w : World) (hT : TbAt w t) (hs : t.cs.length ≤ 2000000 ∧ t.xs.length ≤ 2000000 ∧ t.rs.length ≤ 2000000) (hv : ∀ v ∈ schL t, VOk v) (hb : (joinV (schL t)).length ≤ 140737488355328) :
    Calls Tryd.prog 17 #[t.val] w (RetB (joinV (schL t)) w) := by
  have J := fun oa c W (h : VAt W oa (schL t)) => rjoin_any oa c (schL t) W (by
    have h1 : (schL t).length = 5 + 4 * t.cs.length + 3 * t.xs.length + t.rs.length := by
      simp only [schL, sch3, sch2, sch1, List.length_append, len4, len3, List.length_cons, List.length_nil, List.length_map, List.length_take]
      omega
    omega) h hv hb
  have HJ := hid J
  obtain ⟨R, hR⟩ : ∃ R, joinV (schL t) = R := ⟨_, rfl⟩
  rw [hR] at HJ ⊢
  obtain ⟨L, hL⟩ : ∃ L, schL t = L := ⟨_, rfl⟩
  rw [hL] at HJ
  have HL := hid hL
  obtain ⟨F1, hF1⟩ : ∃ F : Nat → List V, F = fun k => sch1 t ++ (t.cs.take k).flatMap schC := ⟨_, rfl⟩
  obtain ⟨F2, hF2⟩ : ∃ F : Nat → List V, F = fun k => sch2 t ++ (t.xs.take k).flatMap schX := ⟨_, rfl⟩
  obtain ⟨F3, hF3⟩ : ∃ F : Nat → List V, F = fun k => sch3 t ++ (t.rs.take k).map numV := ⟨_, rfl⟩
  have hs1 : ∀ k (h : k < t.cs.length), F1 (k + 1) = F1 k ++ schC t.cs[k] := fun k h => by rw [hF1]; simp only; rw [fm_take h, ← List.append_assoc]
  have hs2 : ∀ k (h : k < t.xs.length), F2 (k + 1) = F2 k ++ schX t.xs[k] := fun k h => by rw [hF2]; simp only; rw [fm_take h, ← List.append_assoc]
  have hs3 : ∀ k (h : k < t.rs.length), F3 (k + 1) = F3 k ++ [numV t.rs[k]] := fun k h => by rw [hF3]; simp only; rw [List.take_add_one, List.getElem?_eq_getElem h, List.map_append, ← List.append_assoc]; rfl
  have he1 : F1 0 = [textV t.nm, numV (t.cs.length : Int)] := by rw [hF1]; simp [sch1]
  have he2 : F2 0 = F1 t.cs.length ++ [numV (t.xs.length : Int)] := by rw [hF2, hF1]; simp [sch2]
  have he3 : F3 0 = F2 t.xs.length ++ [numV t.hd, numV (t.rs.length : Int)] := by rw [hF3, hF2]; simp [sch3]
  have he4 : L = F3 t.rs.length := by rw [← hL, hF3]; simp [schL]
  have hlen1 : ∀ k, k ≤ t.cs.length → (F1 k).length ≤ 8000010 := fun k hk => by
    rw [hF1]
    simp only [sch1, List.length_append, len4, len3, List.length_cons, List.length_nil, List.length_map, List.length_take]
    omega
  have hlen2 : ∀ k, k ≤ t.xs.length → (F2 k).length ≤ 20000010 := fun k hk => by
    rw [hF2]
    simp only [sch2, sch1, List.length_append, len4, len3, List.length_cons, List.length_nil, List.length_map, List.length_take]
    omega
  have hlen3 : ∀ k, k ≤ t.rs.length → (F3 k).length ≤ 30000010 := fun k hk => by
    rw [hF3]
    simp only [sch3, sch2, sch1, List.length_append, len4, len3, List.length_cons, List.length_nil, List.length_map, List.length_take]
    omega
  clear hF1 hF2 hF3 hv hb hR hL J
  have HS1 := hid hs1
  have HS2 := hid hs2
  have HS3 := hid hs3
  have HE1 := hid he1
  have HE2 := hid he2
  have HE3 := hid he3
  have HE4 := hid he4
  have HL1 := hid hlen1
  have HL2 := hid hlen2
  have HL3 := hid hlen3
  clear hs1 hs2 hs3 he1 he2 he3 he4 hlen1 hlen2 hlen3 HL
  obtain ⟨nm, oc, cs, cc, ox, xs, cx, hd, od, rs, cr⟩ := t
  unfold Tb.val
  simp only at HS1 HS2 HS3 HE1 HE2 HE3 HE4 HL1 HL2 HL3 hs ⊢
  obtain ⟨hTc, hTx, hTr, _, _, _⟩ := hT
  simp only at hTc hTx hTr
  have HC := hid hTc
  have HX := hid hTx
  have HRR := hid hTr
  obtain ⟨hn1, hn2, hn3⟩ := hs
  have hg0 : Gr w (w.alloc (.cells #[.string nm, .slice oc cs.length cc, .slice ox xs.length cx, .int .i64 hd, .slice od rs.length cr] 29)) := (Gr.refl _).alloc _
  obtain ⟨b0, b1, b2, b3, b4⟩ := box5 w (.string nm) (.slice oc cs.length cc) (.slice ox xs.length cx) (.int .i64 hd) (.slice od rs.length cr)
  clear hTc hTx hTr
  go_enter Tryd.func17, Tryd.ntmps17
  go_upto_region 1 with (fail)
  obtain ⟨gB, hgB⟩ : ∃ g, w.heap.size = g := ⟨_, rfl⟩
  rw [hgB] at b0 b1 b2 b3 b4
  rw [hgB]
  obtain ⟨wB, hwB⟩ : ∃ W, w.alloc (.cells #[.string nm, .slice oc cs.length cc, .slice ox xs.length cx, .int .i64 hd, .slice od rs.length cr] 29) = W := ⟨_, rfl⟩
  rw [hwB] at b0 b1 b2 b3 b4 hg0
  rw [hwB]
  have HG0 := hid hg0
  have zb := lt_of_cell b0
  have HB0 := hid b0
  have HB1 := hid b1
  have HB2 := hid b2
  have HB3 := hid b3
  have HB4 := hid b4
  clear hwB hgB hg0
  refine Rg.region_facts (W := wB) 8 [] [] [(7, OwnR 32 4 wB.heap.size 2 (cellsF vF [textV nm, numV (cs.length : Int)]))] (fun _ => false) [7] [some ?_, some ?_, some ?_, some ?_, some ?_, some ?_, some ?_, none] (Below.drew (Below.refl _ _)) (by kernel_rfl) (by kernel_rfl) ⟨rfl, trivial⟩ (ownR_keep _ _ _ _ _ _) (fun _ _ d _ _ h => by cases d <;> exact h) ?_
  rotate_left 7
  intro vq
  simp only [List.take_succ_cons, List.take_zero, Rg.wpF, Option.getD_some, Option.getD_none, Act.put, List.setIfInBounds_toArray, List.set_cons_zero, List.set_cons_succ]
  refine ⟨?_, ?_, ?_, ?_, ?_, ?_, ?_, ?_, ?_⟩
  · refine sf_det (by rfl) (by rfl) (fun w' hS hF => ?_)
    have hc := Gr.cells hS
    have hf := Gr.frees hS
    go_simp
    first
       | exact Below.refl _ _
       | (refine ⟨?_, Below.refl _ _⟩; with_reducible rfl)
       | ((with_reducible refine (rtext_any _ _).mono ?_); rintro e w'' ⟨rfl, hg⟩; refine ⟨?_, hg⟩; with_reducible rfl)
       | ((with_reducible refine (rint_any _ _).mono ?_); rintro e w'' ⟨rfl, hg⟩; refine ⟨?_, hg⟩; with_reducible rfl)
  · refine sf_det (by rfl) (by rfl) (fun w' hS hF => ?_)
    have hc := Gr.cells hS
    have hf := Gr.frees hS
    go_simp
    first
       | exact Below.refl _ _
       | (refine ⟨?_, Below.refl _ _⟩; with_reducible rfl)
       | ((with_reducible refine (rtext_any _ _).mono ?_); rintro e w'' ⟨rfl, hg⟩; refine ⟨?_, hg⟩; with_reducible rfl)
       | ((with_reducible refine (rint_any _ _).mono ?_); rintro e w'' ⟨rfl, hg⟩; refine ⟨?_, hg⟩; with_reducible rfl)
  · refine sf_det (by rfl) (by rfl) (fun w' hS hF => ?_)
    have hc := Gr.cells hS
    have hf := Gr.frees hS
    go_simp
    first
       | exact Below.refl _ _
       | (refine ⟨?_, Below.refl _ _⟩; with_reducible rfl)
       | ((with_reducible refine (rtext_any _ _).mono ?_); rintro e w'' ⟨rfl, hg⟩; refine ⟨?_, hg⟩; with_reducible rfl)
       | ((with_reducible refine (rint_any _ _).mono ?_); rintro e w'' ⟨rfl, hg⟩; refine ⟨?_, hg⟩; with_reducible rfl)
  · refine sf_det (by rfl) (by rfl) (fun w' hS hF => ?_)
    have hc := Gr.cells hS
    have hf := Gr.frees hS
    go_simp
    first
       | exact Below.refl _ _
       | (refine ⟨?_, Below.refl _ _⟩; with_reducible rfl)
       | ((with_reducible refine (rtext_any _ _).mono ?_); rintro e w'' ⟨rfl, hg⟩; refine ⟨?_, hg⟩; with_reducible rfl)
       | ((with_reducible refine (rint_any _ _).mono ?_); rintro e w'' ⟨rfl, hg⟩; refine ⟨?_, hg⟩; with_reducible rfl)
  · refine sf_det (by rfl) (by rfl) (fun w' hS hF => ?_)
    have hc := Gr.cells hS
    have hf := Gr.frees hS
    go_simp
    first
       | exact Below.refl _ _
       | (refine ⟨?_, Below.refl _ _⟩; with_reducible rfl)
       | ((with_reducible refine (rtext_any _ _).mono ?_); rintro e w'' ⟨rfl, hg⟩; refine ⟨?_, hg⟩; with_reducible rfl)
       | ((with_reducible refine (rint_any _ _).mono ?_); rintro e w'' ⟨rfl, hg⟩; refine ⟨?_, hg⟩; with_reducible rfl)
  · refine sf_det (by rfl) (by rfl) (fun w' hS hF => ?_)
    have hc := Gr.cells hS
    have hf := Gr.frees hS
    go_simp
    first
       | exact Below.refl _ _
       | (refine ⟨?_, Below.refl _ _⟩; with_reducible rfl)
       | ((with_reducible refine (rtext_any _ _).mono ?_); rintro e w'' ⟨rfl, hg⟩; refine ⟨?_, hg⟩; with_reducible rfl)
       | ((with_reducible refine (rint_any _ _).mono ?_); rintro e w'' ⟨rfl, hg⟩; refine ⟨?_, hg⟩; with_reducible rfl)
  · refine sf_det (by rfl) (by rfl) (fun w' hS hF => ?_)
    have hc := Gr.cells hS
    have hf := Gr.frees hS
    go_simp
    first
       | exact Below.refl _ _
       | (refine ⟨?_, Below.refl _ _⟩; with_reducible rfl)
       | ((with_reducible refine (rtext_any _ _).mono ?_); rintro e w'' ⟨rfl, hg⟩; refine ⟨?_, hg⟩; with_reducible rfl)
       | ((with_reducible refine (rint_any _ _).mono ?_); rintro e w'' ⟨rfl, hg⟩; refine ⟨?_, hg⟩; with_reducible rfl)
  · refine sf_free (by rfl) (by rfl) (fun w' hS hF => ?_)
    go_simp
    exact ownR_new hS _ rfl (by decide) rfl
  intro w1 hK
  have hg : Gr _ w1 := hK.up
  have hsl := hK.fact 7 (by decide) rfl rfl
  clear hK
  generalize vq 7 = vqq at *
  obtain ⟨⟨g0, rfl⟩, hown0⟩ := hsl
  clear vq
  have hc := Gr.cells hg
  have hf := Gr.frees hg
  have hz := Gr.size hg
  try simp only [World.size_alloc, World.size_setCell, World.size_drew] at hz
  try have : 0 < w1.heap.size := by omega
  try have : w.heap.size < w1.heap.size := by omega
  try have : w.heap.size + 1 < w1.heap.size := by omega
  try have : w.heap.size + 1 + 1 < w1.heap.size := by omega
  try have : w.heap.size + 1 + 1 + 1 < w1.heap.size := by omega
  simp only [List.drop_succ_cons, List.drop_zero]
  have hrow : w1.ownsRow wB.heap.size 32 4 (.slice (some ⟨g0, 0, none⟩) 2 2) (F1 0).length (cellsF vF (F1 0)) := by rw [HE1.out]; exact hown0
  have S1 : Hid (SrRel wB cs.length F1 (.slice (some ⟨g0, 0, none⟩) 2 2) (.int .i64 0) w1) := hid ⟨0, rfl, Nat.zero_le _, hrow, hg⟩
  clear hrow hown0 hg
  go_wp2_with fail
  go_loopw [3, 4] (fun s3 s4 wr => SrRel wB cs.length F1 s3 s4 wr) (fun _ s4 _ => cs.length - (intOf s4).toNat)
  case atStart => exact S1.out
  case round =>
    clear S1 b0 b1 b2 b3 b4 zb
    obtain ⟨k, rfl, hk, hrow, hg⟩ := hrel
    have b0 := hg.keep HB0.out
    have b1 := hg.keep HB1.out
    have b2 := hg.keep HB2.out
    have b3 := hg.keep HB3.out
    have b4 := hg.keep HB4.out
    have zb := lt_of_cell b0
    have HGW := hid (HG0.out.trans hg)
    have HGB := hid hg
    have HRW := hid hrow
    have HLK := hid (HL1.out k hk)
    have hwb := hg.size
    clear hrow hg
    by_cases hlt : k < cs.length
    · obtain ⟨b, off, rfl, c0, c1, c2, c3⟩ := c_get (HC.out.keep HGW.out) k hlt
      have hbb := lt_of_cell c0
      have HST := hid (HS1.out k hlt)
      generalize cs[k] = x at *
      have g1 : decide ((cs.length : Int) ≤ (k : Int)) = false := by rw [decide_eq_false_iff_not]; omega
      have g2 : (k : Int) < (cs.length : Int) := by omega
      have g3 : (0 : Int) ≤ (k : Int) := by omega
      go_upto_region 6 with (fail)
      have hga : Gr wr (wr.alloc (.cells #[.string x.nm, .int .i64 x.ty, .bool x.nn, .bool x.uq] 24)) := (Gr.refl _).alloc _
      have y0 : (wr.alloc (.cells #[.string x.nm, .int .i64 x.ty, .bool x.nn, .bool x.uq] 24)).cell? ⟨wr.heap.size, 0, none⟩ = some (.string x.nm) := by rw [Rg.blk_cells (heap_alloc_new _ _) 0]; rfl
      have y1 : (wr.alloc (.cells #[.string x.nm, .int .i64 x.ty, .bool x.nn, .bool x.uq] 24)).cell? ⟨wr.heap.size, 1, none⟩ = some (.int .i64 x.ty) := by rw [Rg.blk_cells (heap_alloc_new _ _) 1]; rfl
      have y2 : (wr.alloc (.cells #[.string x.nm, .int .i64 x.ty, .bool x.nn, .bool x.uq] 24)).cell? ⟨wr.heap.size, 2, none⟩ = some (.bool x.nn) := by rw [Rg.blk_cells (heap_alloc_new _ _) 2]; rfl
      have y3 : (wr.alloc (.cells #[.string x.nm, .int .i64 x.ty, .bool x.nn, .bool x.uq] 24)).cell? ⟨wr.heap.size, 3, none⟩ = some (.bool x.uq) := by rw [Rg.blk_cells (heap_alloc_new _ _) 3]; rfl
      obtain ⟨wQ, hwQ⟩ : ∃ W, wr.alloc (.cells #[.string x.nm, .int .i64 x.ty, .bool x.nn, .bool x.uq] 24) = W := ⟨_, rfl⟩
      rw [hwQ] at hga y0 y1 y2 y3
      rw [hwQ]
      have b0 := hga.keep b0
      have b1 := hga.keep b1
      have b2 := hga.keep b2
      have b3 := hga.keep b3
      have b4 := hga.keep b4
      obtain ⟨q, hq⟩ : ∃ q, wr.heap.size = q := ⟨_, rfl⟩
      rw [hq] at y0 y1 y2 y3
      rw [hq]
      have zb := lt_of_cell b0
      have zq := lt_of_cell y0
      have HGQ := hid hga
      clear hwQ hga hq c0 c1 c2 c3 hbb
      refine Rg.region_facts (W := wQ) 14 [] [] [(13, OwnR 32 4 wQ.heap.size 4 (cellsF vF (schC x)))] (fun _ => false) [13] [some ?_, some ?_, some ?_, some ?_, some ?_, some ?_, some ?_, some ?_, some ?_, some ?_, some ?_, some ?_, some ?_, none] (Below.drew (Below.refl _ _)) (by kernel_rfl) (by kernel_rfl) ⟨rfl, trivial⟩ (ownR_keep _ _ _ _ _ _) (fun _ _ d _ _ h => by cases d <;> exact h) ?_
      rotate_left 13
      intro vq
      simp only [List.take_succ_cons, List.take_zero, Rg.wpF, Option.getD_some, Option.getD_none, Act.put, List.setIfInBounds_toArray, List.set_cons_zero, List.set_cons_succ]
      refine ⟨?_, ?_, ?_, ?_, ?_, ?_, ?_, ?_, ?_, ?_, ?_, ?_, ?_, ?_, ?_⟩
      · refine sf_det (by rfl) (by rfl) (fun w' hS hF => ?_)
        have hc := Gr.cells hS
        have hf := Gr.frees hS
        go_simp
        first
           | exact Below.refl _ _
           | (refine ⟨?_, Below.refl _ _⟩; with_reducible rfl)
           | ((with_reducible refine (rtext_any _ _).mono ?_); rintro e w'' ⟨rfl, hg⟩; refine ⟨?_, hg⟩; with_reducible rfl)
           | ((with_reducible refine (rint_any _ _).mono ?_); rintro e w'' ⟨rfl, hg⟩; refine ⟨?_, hg⟩; with_reducible rfl)
           | ((with_reducible refine (rtruth_any _ _).mono ?_); rintro e w'' ⟨rfl, hg⟩; refine ⟨?_, hg⟩; with_reducible rfl)
      · refine sf_det (by rfl) (by rfl) (fun w' hS hF => ?_)
        have hc := Gr.cells hS
        have hf := Gr.frees hS
        go_simp
        first
           | exact Below.refl _ _
           | (refine ⟨?_, Below.refl _ _⟩; with_reducible rfl)
           | ((with_reducible refine (rtext_any _ _).mono ?_); rintro e w'' ⟨rfl, hg⟩; refine ⟨?_, hg⟩; with_reducible rfl)
           | ((with_reducible refine (rint_any _ _).mono ?_); rintro e w'' ⟨rfl, hg⟩; refine ⟨?_, hg⟩; with_reducible rfl)
           | ((with_reducible refine (rtruth_any _ _).mono ?_); rintro e w'' ⟨rfl, hg⟩; refine ⟨?_, hg⟩; with_reducible rfl)
      · refine sf_det (by rfl) (by rfl) (fun w' hS hF => ?_)
        have hc := Gr.cells hS
        have hf := Gr.frees hS
        go_simp
        first
           | exact Below.refl _ _
           | (refine ⟨?_, Below.refl _ _⟩; with_reducible rfl)
           | ((with_reducible refine (rtext_any _ _).mono ?_); rintro e w'' ⟨rfl, hg⟩; refine ⟨?_, hg⟩; with_reducible rfl)
           | ((with_reducible refine (rint_any _ _).mono ?_); rintro e w'' ⟨rfl, hg⟩; refine ⟨?_, hg⟩; with_reducible rfl)
           | ((with_reducible refine (rtruth_any _ _).mono ?_); rintro e w'' ⟨rfl, hg⟩; refine ⟨?_, hg⟩; with_reducible rfl)
      · refine sf_det (by rfl) (by rfl) (fun w' hS hF => ?_)
        have hc := Gr.cells hS
        have hf := Gr.frees hS
        go_simp
        first
           | exact Below.refl _ _
           | (refine ⟨?_, Below.refl _ _⟩; with_reducible rfl)
           | ((with_reducible refine (rtext_any _ _).mono ?_); rintro e w'' ⟨rfl, hg⟩; refine ⟨?_, hg⟩; with_reducible rfl)
           | ((with_reducible refine (rint_any _ _).mono ?_); rintro e w'' ⟨rfl, hg⟩; refine ⟨?_, hg⟩; with_reducible rfl)
           | ((with_reducible refine (rtruth_any _ _).mono ?_); rintro e w'' ⟨rfl, hg⟩; refine ⟨?_, hg⟩; with_reducible rfl)
      · refine sf_det (by rfl) (by rfl) (fun w' hS hF => ?_)
        have hc := Gr.cells hS
        have hf := Gr.frees hS
        go_simp
        first
           | exact Below.refl _ _
           | (refine ⟨?_, Below.refl _ _⟩; with_reducible rfl)
           | ((with_reducible refine (rtext_any _ _).mono ?_); rintro e w'' ⟨rfl, hg⟩; refine ⟨?_, hg⟩; with_reducible rfl)
           | ((with_reducible refine (rint_any _ _).mono ?_); rintro e w'' ⟨rfl, hg⟩; refine ⟨?_, hg⟩; with_reducible rfl)
           | ((with_reducible refine (rtruth_any _ _).mono ?_); rintro e w'' ⟨rfl, hg⟩; refine ⟨?_, hg⟩; with_reducible rfl)
      · refine sf_det (by rfl) (by rfl) (fun w' hS hF => ?_)
        have hc := Gr.cells hS
        have hf := Gr.frees hS
        go_simp
        first
           | exact Below.refl _ _
           | (refine ⟨?_, Below.refl _ _⟩; with_reducible rfl)
           | ((with_reducible refine (rtext_any _ _).mono ?_); rintro e w'' ⟨rfl, hg⟩; refine ⟨?_, hg⟩; with_reducible rfl)
           | ((with_reducible refine (rint_any _ _).mono ?_); rintro e w'' ⟨rfl, hg⟩; refine ⟨?_, hg⟩; with_reducible rfl)
           | ((with_reducible refine (rtruth_any _ _).mono ?_); rintro e w'' ⟨rfl, hg⟩; refine ⟨?_, hg⟩; with_reducible rfl)
      · refine sf_det (by rfl) (by rfl) (fun w' hS hF => ?_)
        have hc := Gr.cells hS
        have hf := Gr.frees hS
        go_simp
        first
           | exact Below.refl _ _
           | (refine ⟨?_, Below.refl _ _⟩; with_reducible rfl)
           | ((with_reducible refine (rtext_any _ _).mono ?_); rintro e w'' ⟨rfl, hg⟩; refine ⟨?_, hg⟩; with_reducible rfl)
           | ((with_reducible refine (rint_any _ _).mono ?_); rintro e w'' ⟨rfl, hg⟩; refine ⟨?_, hg⟩; with_reducible rfl)
           | ((with_reducible refine (rtruth_any _ _).mono ?_); rintro e w'' ⟨rfl, hg⟩; refine ⟨?_, hg⟩; with_reducible rfl)
      · refine sf_det (by rfl) (by rfl) (fun w' hS hF => ?_)
        have hc := Gr.cells hS
        have hf := Gr.frees hS
        go_simp
        first
           | exact Below.refl _ _
           | (refine ⟨?_, Below.refl _ _⟩; with_reducible rfl)
           | ((with_reducible refine (rtext_any _ _).mono ?_); rintro e w'' ⟨rfl, hg⟩; refine ⟨?_, hg⟩; with_reducible rfl)
           | ((with_reducible refine (rint_any _ _).mono ?_); rintro e w'' ⟨rfl, hg⟩; refine ⟨?_, hg⟩; with_reducible rfl)
           | ((with_reducible refine (rtruth_any _ _).mono ?_); rintro e w'' ⟨rfl, hg⟩; refine ⟨?_, hg⟩; with_reducible rfl)
      · refine sf_det (by rfl) (by rfl) (fun w' hS hF => ?_)
        have hc := Gr.cells hS
        have hf := Gr.frees hS
        go_simp
        first
           | exact Below.refl _ _
           | (refine ⟨?_, Below.refl _ _⟩; with_reducible rfl)
           | ((with_reducible refine (rtext_any _ _).mono ?_); rintro e w'' ⟨rfl, hg⟩; refine ⟨?_, hg⟩; with_reducible rfl)
           | ((with_reducible refine (rint_any _ _).mono ?_); rintro e w'' ⟨rfl, hg⟩; refine ⟨?_, hg⟩; with_reducible rfl)
           | ((with_reducible refine (rtruth_any _ _).mono ?_); rintro e w'' ⟨rfl, hg⟩; refine ⟨?_, hg⟩; with_reducible rfl)
      · refine sf_det (by rfl) (by rfl) (fun w' hS hF => ?_)
        have hc := Gr.cells hS
        have hf := Gr.frees hS
        go_simp
        first
           | exact Below.refl _ _
           | (refine ⟨?_, Below.refl _ _⟩; with_reducible rfl)
           | ((with_reducible refine (rtext_any _ _).mono ?_); rintro e w'' ⟨rfl, hg⟩; refine ⟨?_, hg⟩; with_reducible rfl)
           | ((with_reducible refine (rint_any _ _).mono ?_); rintro e w'' ⟨rfl, hg⟩; refine ⟨?_, hg⟩; with_reducible rfl)
           | ((with_reducible refine (rtruth_any _ _).mono ?_); rintro e w'' ⟨rfl, hg⟩; refine ⟨?_, hg⟩; with_reducible rfl)
      · refine sf_det (by rfl) (by rfl) (fun w' hS hF => ?_)
        have hc := Gr.cells hS
        have hf := Gr.frees hS
        go_simp
        first
           | exact Below.refl _ _
           | (refine ⟨?_, Below.refl _ _⟩; with_reducible rfl)
           | ((with_reducible refine (rtext_any _ _).mono ?_); rintro e w'' ⟨rfl, hg⟩; refine ⟨?_, hg⟩; with_reducible rfl)
           | ((with_reducible refine (rint_any _ _).mono ?_); rintro e w'' ⟨rfl, hg⟩; refine ⟨?_, hg⟩; with_reducible rfl)
           | ((with_reducible refine (rtruth_any _ _).mono ?_); rintro e w'' ⟨rfl, hg⟩; refine ⟨?_, hg⟩; with_reducible rfl)
      · refine sf_det (by rfl) (by rfl) (fun w' hS hF => ?_)
        have hc := Gr.cells hS
        have hf := Gr.frees hS
        go_simp
        first
           | exact Below.refl _ _
           | (refine ⟨?_, Below.refl _ _⟩; with_reducible rfl)
           | ((with_reducible refine (rtext_any _ _).mono ?_); rintro e w'' ⟨rfl, hg⟩; refine ⟨?_, hg⟩; with_reducible rfl)
           | ((with_reducible refine (rint_any _ _).mono ?_); rintro e w'' ⟨rfl, hg⟩; refine ⟨?_, hg⟩; with_reducible rfl)
           | ((with_reducible refine (rtruth_any _ _).mono ?_); rintro e w'' ⟨rfl, hg⟩; refine ⟨?_, hg⟩; with_reducible rfl)
      · refine sf_det (by rfl) (by rfl) (fun w' hS hF => ?_)
        have hc := Gr.cells hS
        have hf := Gr.frees hS
        go_simp
        first
           | exact Below.refl _ _
           | (refine ⟨?_, Below.refl _ _⟩; with_reducible rfl)
           | ((with_reducible refine (rtext_any _ _).mono ?_); rintro e w'' ⟨rfl, hg⟩; refine ⟨?_, hg⟩; with_reducible rfl)
           | ((with_reducible refine (rint_any _ _).mono ?_); rintro e w'' ⟨rfl, hg⟩; refine ⟨?_, hg⟩; with_reducible rfl)
           | ((with_reducible refine (rtruth_any _ _).mono ?_); rintro e w'' ⟨rfl, hg⟩; refine ⟨?_, hg⟩; with_reducible rfl)
      · refine sf_free (by rfl) (by rfl) (fun w' hS hF => ?_)
        go_simp
        exact ownR_new hS _ rfl (by decide) rfl
      intro w1 hK
      have hg : Gr _ w1 := hK.up
      have hsl := hK.fact 13 (by decide) rfl rfl
      clear hK
      generalize vq 13 = vqq at *
      obtain ⟨⟨g0, rfl⟩, hown0⟩ := hsl
      clear vq
      have hc := Gr.cells hg
      have hf := Gr.frees hg
      have hz := Gr.size hg
      try simp only [World.size_alloc, World.size_setCell, World.size_drew] at hz
      try have : 0 < w1.heap.size := by omega
      try have : w.heap.size < w1.heap.size := by omega
      try have : w.heap.size + 1 < w1.heap.size := by omega
      try have : w.heap.size + 1 + 1 < w1.heap.size := by omega
      try have : w.heap.size + 1 + 1 + 1 < w1.heap.size := by omega
      simp only [List.drop_succ_cons, List.drop_zero]
      have HO1 := hid (own_keep HRW.out (HGQ.out.trans hg))
      have HG1 := hid (HGB.out.trans (HGQ.out.trans hg))
      have hcells := own_cells hown0
      have hwb1 := HG1.out.size
      have hlk := HLK.out
      clear HRW hg hown0
      obtain ⟨i0, hi0, hz0, hz1, hz2⟩ := info_parts v_info
      go_wp2_with (at_builtin; refine wpList_append_own _ rfl _ _ 35 rfl wB.heap.size 32 i0 (.agg #[.int .i64 0, .int .i64 0, .string ⟨#[]⟩, .bool false]) 4 40 Tryd.underlying35 hi0 hz0 hz1 hz2 rfl (by decide) _ _ _ rfl HO1.out ⟨g0, 0, none⟩ 4 4 (cellsF vF (schC x)) rfl rfl ?m61 ?m62 ?m63 ?m64 ?m65 ?_)
      case m61 => exact fun j u hu => hcells j u hu
      case m62 => exact vE.cells_one _
      case m63 => unfold maxLen; omega
      case m64 => omega
      case m65 => first | omega | (simp; omega)
      intro v2 w2 hown hq8 _
      have FI : Hid (SrRel wB cs.length F1 v2 (.int .i64 ((k : Int) + 1)) w2) := hid ⟨k + 1, by go_num, by omega, by rw [HST.out, List.length_append, cellsF_append]; exact hown, Gz.up HG1.out hq8 HO1.out⟩
      clear hown hq8 HO1 HG1 hcells HST hlk HLK
      go_wp2
      exact ⟨FI.out, by simp [intOf]; omega⟩
    · obtain rfl : k = cs.length := by omega
      have g1 : decide ((cs.length : Int) ≤ (cs.length : Int)) = true := by rw [decide_eq_true_iff]; omega
      go_wp2_with fail
      refine (rint_any (xs.length : Int) _).mono ?_
      rintro e w1 ⟨rfl, hg1⟩
      have HO1 := hid (own_keep HRW.out hg1)
      have HG1 := hid (HGB.out.trans hg1)
      have hwb1 := HG1.out.size
      have hlk := HLK.out
      have b0 := hg1.keep b0
      have b1 := hg1.keep b1
      have b2 := hg1.keep b2
      have b3 := hg1.keep b3
      have b4 := hg1.keep b4
      clear HRW hg1
      obtain ⟨i0, hi0, hz0, hz1, hz2⟩ := info_parts v_info
      go_wp2_with (at_builtin; refine wpList_append_own _ rfl _ _ 35 rfl wB.heap.size 32 i0 (.agg #[.int .i64 0, .int .i64 0, .string ⟨#[]⟩, .bool false]) 4 40 Tryd.underlying35 hi0 hz0 hz1 hz2 rfl (by decide) _ _ _ rfl (HO1.out.alloc _) ⟨w1.heap.size, 0, none⟩ 1 1 (cellsF vF [numV (xs.length : Int)]) rfl rfl ?n71 ?n72 ?n73 ?n74 ?n75 ?_)
      case n71 => 
        intro j u hu
        rw [addN, Nat.zero_add, Rg.blk_cells (heap_alloc_new _ _) j]
        simpa [cellsF, vF, numV] using hu
      case n72 => exact vE.cells_one _
      case n73 => unfold maxLen; omega
      case n74 => omega
      case n75 => first | omega | (simp; omega)
      intro v2 w2 hown hq8 _
      have hga1 := Gr.alloc (Gr.refl w1) (.cells #[.int .i64 1, .int .i64 (xs.length : Int), .string ⟨#[]⟩, .bool false] 32)
      have HG2 := hid (Gz.up (HG1.out.trans hga1) hq8 (HO1.out.alloc _))
      have S2 : Hid (SrRel wB xs.length F2 v2 (.int .i64 0) w2) := hid ⟨0, rfl, Nat.zero_le _, by rw [HE2.out, List.length_append, cellsF_append]; exact hown, HG2.out⟩
      clear hown hq8 hga1 HO1 HG1 HLK HGW HGB hlk
      go_wp2_with fail
      go_loopw [3, 6] (fun s3 s6 wr => SrRel wB xs.length F2 s3 s6 wr) (fun _ s6 _ => xs.length - (intOf s6).toNat)
      case atStart => exact S2.out
      case round =>
        clear S2 b0 b1 b2 b3 b4 zb
        obtain ⟨k, rfl, hk, hrow, hg⟩ := hrel
        have b0 := hg.keep HB0.out
        have b1 := hg.keep HB1.out
        have b2 := hg.keep HB2.out
        have b3 := hg.keep HB3.out
        have b4 := hg.keep HB4.out
        have zb := lt_of_cell b0
        have HGW := hid (HG0.out.trans hg)
        have HGB := hid hg
        have HRW := hid hrow
        have HLK := hid (HL2.out k hk)
        have hwb := hg.size
        clear hrow hg
        by_cases hlt : k < xs.length
        · obtain ⟨b, off, rfl, c0, c1, c2⟩ := x_get (HX.out.keep HGW.out) k hlt
          have hbb := lt_of_cell c0
          have HST := hid (HS2.out k hlt)
          generalize xs[k] = x at *
          have g1 : decide ((xs.length : Int) ≤ (k : Int)) = false := by rw [decide_eq_false_iff_not]; omega
          have g2 : (k : Int) < (xs.length : Int) := by omega
          have g3 : (0 : Int) ≤ (k : Int) := by omega
          go_upto_region 12 with (fail)
          have hga : Gr wr (wr.alloc (.cells #[.string x.nm, .int .i64 x.co, .bool x.uq] 60)) := (Gr.refl _).alloc _
          have y0 : (wr.alloc (.cells #[.string x.nm, .int .i64 x.co, .bool x.uq] 60)).cell? ⟨wr.heap.size, 0, none⟩ = some (.string x.nm) := by rw [Rg.blk_cells (heap_alloc_new _ _) 0]; rfl
          have y1 : (wr.alloc (.cells #[.string x.nm, .int .i64 x.co, .bool x.uq] 60)).cell? ⟨wr.heap.size, 1, none⟩ = some (.int .i64 x.co) := by rw [Rg.blk_cells (heap_alloc_new _ _) 1]; rfl
          have y2 : (wr.alloc (.cells #[.string x.nm, .int .i64 x.co, .bool x.uq] 60)).cell? ⟨wr.heap.size, 2, none⟩ = some (.bool x.uq) := by rw [Rg.blk_cells (heap_alloc_new _ _) 2]; rfl
          obtain ⟨wQ, hwQ⟩ : ∃ W, wr.alloc (.cells #[.string x.nm, .int .i64 x.co, .bool x.uq] 60) = W := ⟨_, rfl⟩
          rw [hwQ] at hga y0 y1 y2
          rw [hwQ]
          have b0 := hga.keep b0
          have b1 := hga.keep b1
          have b2 := hga.keep b2
          have b3 := hga.keep b3
          have b4 := hga.keep b4
          obtain ⟨q, hq⟩ : ∃ q, wr.heap.size = q := ⟨_, rfl⟩
          rw [hq] at y0 y1 y2
          rw [hq]
          have zb := lt_of_cell b0
          have zq := lt_of_cell y0
          have HGQ := hid hga
          clear hwQ hga hq c0 c1 c2 hbb
          refine Rg.region_facts (W := wQ) 11 [] [] [(10, OwnR 32 4 wQ.heap.size 3 (cellsF vF (schX x)))] (fun _ => false) [10] [some ?_, some ?_, some ?_, some ?_, some ?_, some ?_, some ?_, some ?_, some ?_, some ?_, none] (Below.drew (Below.refl _ _)) (by kernel_rfl) (by kernel_rfl) ⟨rfl, trivial⟩ (ownR_keep _ _ _ _ _ _) (fun _ _ d _ _ h => by cases d <;> exact h) ?_
          rotate_left 10
          intro vq
          simp only [List.take_succ_cons, List.take_zero, Rg.wpF, Option.getD_some, Option.getD_none, Act.put, List.setIfInBounds_toArray, List.set_cons_zero, List.set_cons_succ]
          refine ⟨?_, ?_, ?_, ?_, ?_, ?_, ?_, ?_, ?_, ?_, ?_, ?_⟩
          · refine sf_det (by rfl) (by rfl) (fun w' hS hF => ?_)
            have hc := Gr.cells hS
            have hf := Gr.frees hS
            go_simp
            first
               | exact Below.refl _ _
               | (refine ⟨?_, Below.refl _ _⟩; with_reducible rfl)
               | ((with_reducible refine (rtext_any _ _).mono ?_); rintro e w'' ⟨rfl, hg⟩; refine ⟨?_, hg⟩; with_reducible rfl)
               | ((with_reducible refine (rint_any _ _).mono ?_); rintro e w'' ⟨rfl, hg⟩; refine ⟨?_, hg⟩; with_reducible rfl)
               | ((with_reducible refine (rtruth_any _ _).mono ?_); rintro e w'' ⟨rfl, hg⟩; refine ⟨?_, hg⟩; with_reducible rfl)
          · refine sf_det (by rfl) (by rfl) (fun w' hS hF => ?_)
            have hc := Gr.cells hS
            have hf := Gr.frees hS
            go_simp
            first
               | exact Below.refl _ _
               | (refine ⟨?_, Below.refl _ _⟩; with_reducible rfl)
               | ((with_reducible refine (rtext_any _ _).mono ?_); rintro e w'' ⟨rfl, hg⟩; refine ⟨?_, hg⟩; with_reducible rfl)
               | ((with_reducible refine (rint_any _ _).mono ?_); rintro e w'' ⟨rfl, hg⟩; refine ⟨?_, hg⟩; with_reducible rfl)
               | ((with_reducible refine (rtruth_any _ _).mono ?_); rintro e w'' ⟨rfl, hg⟩; refine ⟨?_, hg⟩; with_reducible rfl)
          · refine sf_det (by rfl) (by rfl) (fun w' hS hF => ?_)
            have hc := Gr.cells hS
            have hf := Gr.frees hS
            go_simp
            first
               | exact Below.refl _ _
               | (refine ⟨?_, Below.refl _ _⟩; with_reducible rfl)
               | ((with_reducible refine (rtext_any _ _).mono ?_); rintro e w'' ⟨rfl, hg⟩; refine ⟨?_, hg⟩; with_reducible rfl)
               | ((with_reducible refine (rint_any _ _).mono ?_); rintro e w'' ⟨rfl, hg⟩; refine ⟨?_, hg⟩; with_reducible rfl)
               | ((with_reducible refine (rtruth_any _ _).mono ?_); rintro e w'' ⟨rfl, hg⟩; refine ⟨?_, hg⟩; with_reducible rfl)
          · refine sf_det (by rfl) (by rfl) (fun w' hS hF => ?_)
            have hc := Gr.cells hS
            have hf := Gr.frees hS
            go_simp
            first
               | exact Below.refl _ _
               | (refine ⟨?_, Below.refl _ _⟩; with_reducible rfl)
               | ((with_reducible refine (rtext_any _ _).mono ?_); rintro e w'' ⟨rfl, hg⟩; refine ⟨?_, hg⟩; with_reducible rfl)
               | ((with_reducible refine (rint_any _ _).mono ?_); rintro e w'' ⟨rfl, hg⟩; refine ⟨?_, hg⟩; with_reducible rfl)
               | ((with_reducible refine (rtruth_any _ _).mono ?_); rintro e w'' ⟨rfl, hg⟩; refine ⟨?_, hg⟩; with_reducible rfl)
          · refine sf_det (by rfl) (by rfl) (fun w' hS hF => ?_)
            have hc := Gr.cells hS
            have hf := Gr.frees hS
            go_simp
            first
               | exact Below.refl _ _
               | (refine ⟨?_, Below.refl _ _⟩; with_reducible rfl)
               | ((with_reducible refine (rtext_any _ _).mono ?_); rintro e w'' ⟨rfl, hg⟩; refine ⟨?_, hg⟩; with_reducible rfl)
               | ((with_reducible refine (rint_any _ _).mono ?_); rintro e w'' ⟨rfl, hg⟩; refine ⟨?_, hg⟩; with_reducible rfl)
               | ((with_reducible refine (rtruth_any _ _).mono ?_); rintro e w'' ⟨rfl, hg⟩; refine ⟨?_, hg⟩; with_reducible rfl)
          · refine sf_det (by rfl) (by rfl) (fun w' hS hF => ?_)
            have hc := Gr.cells hS
            have hf := Gr.frees hS
            go_simp
            first
               | exact Below.refl _ _
               | (refine ⟨?_, Below.refl _ _⟩; with_reducible rfl)
               | ((with_reducible refine (rtext_any _ _).mono ?_); rintro e w'' ⟨rfl, hg⟩; refine ⟨?_, hg⟩; with_reducible rfl)
               | ((with_reducible refine (rint_any _ _).mono ?_); rintro e w'' ⟨rfl, hg⟩; refine ⟨?_, hg⟩; with_reducible rfl)
               | ((with_reducible refine (rtruth_any _ _).mono ?_); rintro e w'' ⟨rfl, hg⟩; refine ⟨?_, hg⟩; with_reducible rfl)
          · refine sf_det (by rfl) (by rfl) (fun w' hS hF => ?_)
            have hc := Gr.cells hS
            have hf := Gr.frees hS
            go_simp
            first
               | exact Below.refl _ _
               | (refine ⟨?_, Below.refl _ _⟩; with_reducible rfl)
               | ((with_reducible refine (rtext_any _ _).mono ?_); rintro e w'' ⟨rfl, hg⟩; refine ⟨?_, hg⟩; with_reducible rfl)
               | ((with_reducible refine (rint_any _ _).mono ?_); rintro e w'' ⟨rfl, hg⟩; refine ⟨?_, hg⟩; with_reducible rfl)
               | ((with_reducible refine (rtruth_any _ _).mono ?_); rintro e w'' ⟨rfl, hg⟩; refine ⟨?_, hg⟩; with_reducible rfl)
          · refine sf_det (by rfl) (by rfl) (fun w' hS hF => ?_)
            have hc := Gr.cells hS
            have hf := Gr.frees hS
            go_simp
            first
               | exact Below.refl _ _
               | (refine ⟨?_, Below.refl _ _⟩; with_reducible rfl)
               | ((with_reducible refine (rtext_any _ _).mono ?_); rintro e w'' ⟨rfl, hg⟩; refine ⟨?_, hg⟩; with_reducible rfl)
               | ((with_reducible refine (rint_any _ _).mono ?_); rintro e w'' ⟨rfl, hg⟩; refine ⟨?_, hg⟩; with_reducible rfl)
               | ((with_reducible refine (rtruth_any _ _).mono ?_); rintro e w'' ⟨rfl, hg⟩; refine ⟨?_, hg⟩; with_reducible rfl)
          · refine sf_det (by rfl) (by rfl) (fun w' hS hF => ?_)
            have hc := Gr.cells hS
            have hf := Gr.frees hS
            go_simp
            first
               | exact Below.refl _ _
               | (refine ⟨?_, Below.refl _ _⟩; with_reducible rfl)
               | ((with_reducible refine (rtext_any _ _).mono ?_); rintro e w'' ⟨rfl, hg⟩; refine ⟨?_, hg⟩; with_reducible rfl)
               | ((with_reducible refine (rint_any _ _).mono ?_); rintro e w'' ⟨rfl, hg⟩; refine ⟨?_, hg⟩; with_reducible rfl)
               | ((with_reducible refine (rtruth_any _ _).mono ?_); rintro e w'' ⟨rfl, hg⟩; refine ⟨?_, hg⟩; with_reducible rfl)
          · refine sf_det (by rfl) (by rfl) (fun w' hS hF => ?_)
            have hc := Gr.cells hS
            have hf := Gr.frees hS
            go_simp
            first
               | exact Below.refl _ _
               | (refine ⟨?_, Below.refl _ _⟩; with_reducible rfl)
               | ((with_reducible refine (rtext_any _ _).mono ?_); rintro e w'' ⟨rfl, hg⟩; refine ⟨?_, hg⟩; with_reducible rfl)
               | ((with_reducible refine (rint_any _ _).mono ?_); rintro e w'' ⟨rfl, hg⟩; refine ⟨?_, hg⟩; with_reducible rfl)
               | ((with_reducible refine (rtruth_any _ _).mono ?_); rintro e w'' ⟨rfl, hg⟩; refine ⟨?_, hg⟩; with_reducible rfl)
          · refine sf_free (by rfl) (by rfl) (fun w' hS hF => ?_)
            go_simp
            exact ownR_new hS _ rfl (by decide) rfl
          intro w1 hK
          have hg : Gr _ w1 := hK.up
          have hsl := hK.fact 10 (by decide) rfl rfl
          clear hK
          generalize vq 10 = vqq at *
          obtain ⟨⟨g0, rfl⟩, hown0⟩ := hsl
          clear vq
          have hc := Gr.cells hg
          have hf := Gr.frees hg
          have hz := Gr.size hg
          try simp only [World.size_alloc, World.size_setCell, World.size_drew] at hz
          try have : 0 < w1.heap.size := by omega
          try have : w.heap.size < w1.heap.size := by omega
          try have : w.heap.size + 1 < w1.heap.size := by omega
          try have : w.heap.size + 1 + 1 < w1.heap.size := by omega
          try have : w.heap.size + 1 + 1 + 1 < w1.heap.size := by omega
          simp only [List.drop_succ_cons, List.drop_zero]
          have HO1 := hid (own_keep HRW.out (HGQ.out.trans hg))
          have HG1 := hid (HGB.out.trans (HGQ.out.trans hg))
          have hcells := own_cells hown0
          have hwb1 := HG1.out.size
          have hlk := HLK.out
          clear HRW hg hown0
          obtain ⟨i0, hi0, hz0, hz1, hz2⟩ := info_parts v_info
          go_wp2_with (at_builtin; refine wpList_append_own _ rfl _ _ 35 rfl wB.heap.size 32 i0 (.agg #[.int .i64 0, .int .i64 0, .string ⟨#[]⟩, .bool false]) 4 40 Tryd.underlying35 hi0 hz0 hz1 hz2 rfl (by decide) _ _ _ rfl HO1.out ⟨g0, 0, none⟩ 3 3 (cellsF vF (schX x)) rfl rfl ?m121 ?m122 ?m123 ?m124 ?m125 ?_)
          case m121 => exact fun j u hu => hcells j u hu
          case m122 => exact vE.cells_one _
          case m123 => unfold maxLen; omega
          case m124 => omega
          case m125 => first | omega | (simp; omega)
          intro v2 w2 hown hq8 _
          have FI : Hid (SrRel wB xs.length F2 v2 (.int .i64 ((k : Int) + 1)) w2) := hid ⟨k + 1, by go_num, by omega, by rw [HST.out, List.length_append, cellsF_append]; exact hown, Gz.up HG1.out hq8 HO1.out⟩
          clear hown hq8 HO1 HG1 hcells HST hlk HLK
          go_wp2
          exact ⟨FI.out, by simp [intOf]; omega⟩
        · obtain rfl : k = xs.length := by omega
          have g1 : decide ((xs.length : Int) ≤ (xs.length : Int)) = true := by rw [decide_eq_true_iff]; omega
          go_upto_region 13 with (fail)
          refine Rg.region_facts (W := wr) 9 [] [] [(8, OwnR 32 4 wr.heap.size 2 (cellsF vF [numV hd, numV (rs.length : Int)]))] (fun _ => false) [8] [some ?_, some ?_, some ?_, some ?_, some ?_, some ?_, some ?_, some ?_, none] (Below.drew (Below.refl _ _)) (by kernel_rfl) (by kernel_rfl) ⟨rfl, trivial⟩ (ownR_keep _ _ _ _ _ _) (fun _ _ d _ _ h => by cases d <;> exact h) ?_
          rotate_left 8
          intro vq
          simp only [List.take_succ_cons, List.take_zero, Rg.wpF, Option.getD_some, Option.getD_none, Act.put, List.setIfInBounds_toArray, List.set_cons_zero, List.set_cons_succ]
          refine ⟨?_, ?_, ?_, ?_, ?_, ?_, ?_, ?_, ?_, ?_⟩
          · refine sf_det (by rfl) (by rfl) (fun w' hS hF => ?_)
            have hc := Gr.cells hS
            have hf := Gr.frees hS
            go_simp
            first
               | exact Below.refl _ _
               | (refine ⟨?_, Below.refl _ _⟩; with_reducible rfl)
               | ((with_reducible refine (rint_any _ _).mono ?_); rintro e w'' ⟨rfl, hg⟩; refine ⟨?_, hg⟩; with_reducible rfl)
          · refine sf_det (by rfl) (by rfl) (fun w' hS hF => ?_)
            have hc := Gr.cells hS
            have hf := Gr.frees hS
            go_simp
            first
               | exact Below.refl _ _
               | (refine ⟨?_, Below.refl _ _⟩; with_reducible rfl)
               | ((with_reducible refine (rint_any _ _).mono ?_); rintro e w'' ⟨rfl, hg⟩; refine ⟨?_, hg⟩; with_reducible rfl)
          · refine sf_det (by rfl) (by rfl) (fun w' hS hF => ?_)
            have hc := Gr.cells hS
            have hf := Gr.frees hS
            go_simp
            first
               | exact Below.refl _ _
               | (refine ⟨?_, Below.refl _ _⟩; with_reducible rfl)
               | ((with_reducible refine (rint_any _ _).mono ?_); rintro e w'' ⟨rfl, hg⟩; refine ⟨?_, hg⟩; with_reducible rfl)
          · refine sf_det (by rfl) (by rfl) (fun w' hS hF => ?_)
            have hc := Gr.cells hS
            have hf := Gr.frees hS
            go_simp
            first
               | exact Below.refl _ _
               | (refine ⟨?_, Below.refl _ _⟩; with_reducible rfl)
               | ((with_reducible refine (rint_any _ _).mono ?_); rintro e w'' ⟨rfl, hg⟩; refine ⟨?_, hg⟩; with_reducible rfl)
          · refine sf_det (by rfl) (by rfl) (fun w' hS hF => ?_)
            have hc := Gr.cells hS
            have hf := Gr.frees hS
            go_simp
            first
               | exact Below.refl _ _
               | (refine ⟨?_, Below.refl _ _⟩; with_reducible rfl)
               | ((with_reducible refine (rint_any _ _).mono ?_); rintro e w'' ⟨rfl, hg⟩; refine ⟨?_, hg⟩; with_reducible rfl)
          · refine sf_det (by rfl) (by rfl) (fun w' hS hF => ?_)
            have hc := Gr.cells hS
            have hf := Gr.frees hS
            go_simp
            first
               | exact Below.refl _ _
               | (refine ⟨?_, Below.refl _ _⟩; with_reducible rfl)
               | ((with_reducible refine (rint_any _ _).mono ?_); rintro e w'' ⟨rfl, hg⟩; refine ⟨?_, hg⟩; with_reducible rfl)
          · refine sf_det (by rfl) (by rfl) (fun w' hS hF => ?_)
            have hc := Gr.cells hS
            have hf := Gr.frees hS
            go_simp
            first
               | exact Below.refl _ _
               | (refine ⟨?_, Below.refl _ _⟩; with_reducible rfl)
               | ((with_reducible refine (rint_any _ _).mono ?_); rintro e w'' ⟨rfl, hg⟩; refine ⟨?_, hg⟩; with_reducible rfl)
          · refine sf_det (by rfl) (by rfl) (fun w' hS hF => ?_)
            have hc := Gr.cells hS
            have hf := Gr.frees hS
            go_simp
            first
               | exact Below.refl _ _
               | (refine ⟨?_, Below.refl _ _⟩; with_reducible rfl)
               | ((with_reducible refine (rint_any _ _).mono ?_); rintro e w'' ⟨rfl, hg⟩; refine ⟨?_, hg⟩; with_reducible rfl)
          · refine sf_free (by rfl) (by rfl) (fun w' hS hF => ?_)
            go_simp
            exact ownR_new hS _ rfl (by decide) rfl
          intro w1 hK
          have hg : Gr _ w1 := hK.up
          have hsl := hK.fact 8 (by decide) rfl rfl
          clear hK
          generalize vq 8 = vqq at *
          obtain ⟨⟨g0, rfl⟩, hown0⟩ := hsl
          clear vq
          have hc := Gr.cells hg
          have hf := Gr.frees hg
          have hz := Gr.size hg
          try simp only [World.size_alloc, World.size_setCell, World.size_drew] at hz
          try have : 0 < w1.heap.size := by omega
          try have : w.heap.size < w1.heap.size := by omega
          try have : w.heap.size + 1 < w1.heap.size := by omega
          try have : w.heap.size + 1 + 1 < w1.heap.size := by omega
          try have : w.heap.size + 1 + 1 + 1 < w1.heap.size := by omega
          simp only [List.drop_succ_cons, List.drop_zero]
          have HO1 := hid (own_keep HRW.out hg)
          have HG1 := hid (HGB.out.trans hg)
          have hcells := own_cells hown0
          have hwb1 := HG1.out.size
          have hlk := HLK.out
          clear HRW hg hown0
          obtain ⟨i0, hi0, hz0, hz1, hz2⟩ := info_parts v_info
          go_wp2_with (at_builtin; refine wpList_append_own _ rfl _ _ 35 rfl wB.heap.size 32 i0 (.agg #[.int .i64 0, .int .i64 0, .string ⟨#[]⟩, .bool false]) 4 40 Tryd.underlying35 hi0 hz0 hz1 hz2 rfl (by decide) _ _ _ rfl HO1.out ⟨g0, 0, none⟩ 2 2 (cellsF vF [numV hd, numV (rs.length : Int)]) rfl rfl ?n131 ?n132 ?n133 ?n134 ?n135 ?_)
          case n131 => exact fun j u hu => hcells j u hu
          case n132 => exact vE.cells_one _
          case n133 => unfold maxLen; omega
          case n134 => omega
          case n135 => first | omega | (simp; omega)
          intro v2 w2 hown hq8 _
          have S3 : Hid (SrRel wB rs.length F3 v2 (.int .i64 0) w2) := hid ⟨0, rfl, Nat.zero_le _, by rw [HE3.out, List.length_append, cellsF_append]; exact hown, Gz.up HG1.out hq8 HO1.out⟩
          clear hown hq8 HO1 HG1 HLK HGW HGB hlk hcells
          go_wp2_with fail
          go_loopw [3, 8] (fun s3 s8 wr => SrRel wB rs.length F3 s3 s8 wr) (fun _ s8 _ => rs.length - (intOf s8).toNat)
          case atStart => exact S3.out
          case round =>
            clear S3 b0 b1 b2 b3 b4 zb
            obtain ⟨k, rfl, hk, hrow, hg⟩ := hrel
            have b0 := hg.keep HB0.out
            have b1 := hg.keep HB1.out
            have b2 := hg.keep HB2.out
            have b3 := hg.keep HB3.out
            have b4 := hg.keep HB4.out
            have zb := lt_of_cell b0
            have HGW := hid (HG0.out.trans hg)
            have HGB := hid hg
            have HRW := hid hrow
            have HLK := hid (HL3.out k hk)
            have hwb := hg.size
            clear hrow hg
            by_cases hlt : k < rs.length
            · obtain ⟨b, off, rfl, c0⟩ := i_get' (HRR.out.keep HGW.out) k hlt
              have hbb := lt_of_cell c0
              have HST := hid (HS3.out k hlt)
              generalize rs[k] = x at *
              have g1 : decide ((rs.length : Int) ≤ (k : Int)) = false := by rw [decide_eq_false_iff_not]; omega
              have g2 : (k : Int) < (rs.length : Int) := by omega
              have g3 : (0 : Int) ≤ (k : Int) := by omega
              go_wp2_with fail
              refine (rint_any x _).mono ?_
              rintro e w1 ⟨rfl, hg1⟩
              have HO1 := hid (own_keep HRW.out hg1)
              have HG1 := hid (HGB.out.trans hg1)
              have hwb1 := HG1.out.size
              have hlk := HLK.out
              have b0 := hg1.keep b0
              have b1 := hg1.keep b1
              have b2 := hg1.keep b2
              have b3 := hg1.keep b3
              have b4 := hg1.keep b4
              clear HRW hg1
              obtain ⟨i0, hi0, hz0, hz1, hz2⟩ := info_parts v_info
              go_wp2_with (at_builtin; refine wpList_append_own _ rfl _ _ 35 rfl wB.heap.size 32 i0 (.agg #[.int .i64 0, .int .i64 0, .string ⟨#[]⟩, .bool false]) 4 40 Tryd.underlying35 hi0 hz0 hz1 hz2 rfl (by decide) _ _ _ rfl (HO1.out.alloc _) ⟨w1.heap.size, 0, none⟩ 1 1 (cellsF vF [numV x]) rfl rfl ?n171 ?n172 ?n173 ?n174 ?n175 ?_)
              case n171 => 
                intro j u hu
                rw [addN, Nat.zero_add, Rg.blk_cells (heap_alloc_new _ _) j]
                simpa [cellsF, vF, numV] using hu
              case n172 => exact vE.cells_one _
              case n173 => unfold maxLen; omega
              case n174 => omega
              case n175 => first | omega | (simp; omega)
              intro v2 w2 hown hq8 _
              have hga1 := Gr.alloc (Gr.refl w1) (.cells #[.int .i64 1, .int .i64 x, .string ⟨#[]⟩, .bool false] 32)
              have HG2 := hid (Gz.up (HG1.out.trans hga1) hq8 (HO1.out.alloc _))
              have FI : Hid (SrRel wB rs.length F3 v2 (.int .i64 ((k : Int) + 1)) w2) := hid ⟨k + 1, by go_num, by omega, by rw [HST.out, List.length_append, cellsF_append]; exact hown, HG2.out⟩
              clear hown hq8 hga1 HO1 HG1 HLK HGW HGB hlk HST HG2
              go_wp2
              exact ⟨FI.out, by simp [intOf]; omega⟩
            · obtain rfl : k = rs.length := by omega
              have g1 : decide ((rs.length : Int) ≤ (rs.length : Int)) = true := by rw [decide_eq_true_iff]; omega
              have hrw := HRW.out
              rw [← HE4.out] at hrw
              obtain ⟨ox', cx', rfl, hat, _⟩ := own_at0 vE hrw
              have C := hid (HJ.out ox' cx' wr hat)
              obtain ⟨nL, hnL⟩ : ∃ n, L.length = n := ⟨_, rfl⟩
              rw [hnL] at C
              rw [hnL]
              clear HRW hrw hat hnL
              go_wp2_with fail
              refine C.out.mono ?_
              rintro e w1 ⟨oz, cz, rfl, hcz, hzat, hgz⟩
              have HZ := hid hzat
              have HGZ := hid (HGW.out.trans hgz)
              clear C hzat hgz
              go_wp2
              go_ret
              exact ⟨oz, cz, rfl, hcz, HZ.out, HGZ.out⟩
end Go.Proofs.YtacbhkmkknicoaaDoor

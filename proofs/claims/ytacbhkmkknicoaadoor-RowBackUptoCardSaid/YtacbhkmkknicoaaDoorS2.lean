/- row: a table's bytes. (By mkS2.py.) -/
import Derived.Test.YtacbhkmkknicoaaDoorS1
import Derived.Test.YtacbhkmkknicoaaDoorK2
namespace Go.Proofs.YtacbhkmkknicoaaDoor
open Go.RowKit
set_option linter.unusedSimpArgs false
set_option linter.unusedVariables false
attribute [local go_sem] Rg.leads_value Rg.leads_skip Rg.leads_enter Rg.brings_value Rg.brings_skip Rg.brings_enter Rg.bringsG_value Rg.bringsG_enter
def schC (c : Col) : List V := [textV c.nm, numV c.ty, boolV c.nn, boolV c.uq]
def schX (x : Ix) : List V := [textV x.nm, numV x.co, boolV x.uq]
def sch1 (t : Tb) : List V := [textV t.nm, numV (t.cs.length : Int)]
def sch2 (t : Tb) : List V := sch1 t ++ t.cs.flatMap schC ++ [numV (t.xs.length : Int)]
def sch3 (t : Tb) : List V := sch2 t ++ t.xs.flatMap schX ++ [numV t.hd, numV (t.rs.length : Int)]
/-- a table's values, one behind the other -/
def schL (t : Tb) : List V := sch3 t ++ t.rs.map numV
theorem fm_take {α β : Type} {f : α → List β} {l : List α} {k : Nat} (h : k < l.length) : (l.take (k + 1)).flatMap f = (l.take k).flatMap f ++ f l[k] := by
  rw [List.take_add_one, List.getElem?_eq_getElem h, List.flatMap_append]
  simp
theorem len4 : ∀ l : List Col, (l.flatMap schC).length = 4 * l.length
  | [] => rfl
  | c :: r => by rw [List.flatMap_cons, List.length_append, len4 r]; simp [schC]; omega
theorem len3 : ∀ l : List Ix, (l.flatMap schX).length = 3 * l.length
  | [] => rfl
  | c :: r => by rw [List.flatMap_cons, List.length_append, len3 r]; simp [schX]; omega
/-- a loop of Schema: so many items are written -/
def ScRel (p : Nat) (wP : World) (n : Nat) (F : Nat → List V) (s : Value) (wr : World) : Prop := ∃ k : Nat, s = .int .i64 (k : Int) ∧ k ≤ n ∧ WS p wr (F k) ∧ Below p wP wr
theorem below_gr {w wP wr : World} {p : Nat} (h : Gr w wP) (hp : w.heap.size ≤ p) (k : Below p wP wr) : Gr w wr := Below.trans h (Below.mono k hp)
theorem i_get {w : World} {oa : Option Addr} {l : List Int} (h : IAt w oa l) (k : Nat) (hk : k < l.length) : ∃ b off, oa = some ⟨b, off, none⟩ ∧ w.cell? ⟨b, off + k, none⟩ = some (.int .i64 l[k]) := by
  obtain ⟨b, off, e, _, hc⟩ := h.get k hk
  refine ⟨b, off, e, ?_⟩
  have := hc 0 (.int .i64 l[k]) rfl
  simpa using this
theorem keepB {p g k : Nat} {v : Value} {w w' : World} (h : Below p w w') (hg : g < p) (hc : w.cell? ⟨g, k, none⟩ = some v) : w'.cell? ⟨g, k, none⟩ = some v := by
  rw [Below.cell (p := ⟨g, k, none⟩) h hg]; exact hc
set_option maxHeartbeats 8000000 in
set_option maxRecDepth 100000 in
theorem schema_any (t : Tb) (w : World) (hT : TbAt w t) (hs : t.cs.length ≤ 2000000 ∧ t.xs.length ≤ 2000000 ∧ t.rs.length ≤ 2000000) (hv : ∀ v ∈ schL t, VOk v) (hb : (joinV (schL t)).length ≤ 140737488355328) :
    Calls Tryd.prog 16 #[t.val] w (RetB (joinV (schL t)) w) := by
  have J := fun oa c W (h : VAt W oa (schL t)) => join_any oa c (schL t) W (by
    have h1 : (schL t).length = 5 + 4 * t.cs.length + 3 * t.xs.length + t.rs.length := by
      simp only [schL, sch3, sch2, sch1, List.length_append, len4, len3, List.length_cons, List.length_nil, List.length_map, List.length_take]
      omega
    omega) h hv hb
  have HJ := hid J
  obtain ⟨R, hR⟩ : ∃ R, joinV (schL t) = R := ⟨_, rfl⟩
  rw [hR] at HJ ⊢
  obtain ⟨L, hL⟩ : ∃ L, schL t = L := ⟨_, rfl⟩
  rw [hL] at HJ
  have HL := hid hL
  obtain ⟨F1, hF1⟩ : ∃ F : Nat → List V, F = fun k => sch1 t ++ (t.cs.take k).flatMap schC := ⟨_, rfl⟩
  obtain ⟨F2, hF2⟩ : ∃ F : Nat → List V, F = fun k => sch2 t ++ (t.xs.take k).flatMap schX := ⟨_, rfl⟩
  obtain ⟨F3, hF3⟩ : ∃ F : Nat → List V, F = fun k => sch3 t ++ (t.rs.take k).map numV := ⟨_, rfl⟩
  have hs1 : ∀ k (h : k < t.cs.length), F1 (k + 1) = F1 k ++ [textV t.cs[k].nm] ++ [numV t.cs[k].ty] ++ [boolV t.cs[k].nn] ++ [boolV t.cs[k].uq] := fun k h => by rw [hF1]; simp only; rw [fm_take h]; simp [schC]
  have hs2 : ∀ k (h : k < t.xs.length), F2 (k + 1) = F2 k ++ [textV t.xs[k].nm] ++ [numV t.xs[k].co] ++ [boolV t.xs[k].uq] := fun k h => by rw [hF2]; simp only; rw [fm_take h]; simp [schX]
  have hs3 : ∀ k (h : k < t.rs.length), F3 (k + 1) = F3 k ++ [numV t.rs[k]] := fun k h => by rw [hF3]; simp only; rw [List.take_add_one, List.getElem?_eq_getElem h, List.map_append, ← List.append_assoc]; rfl
  have he1 : F1 0 = [textV t.nm] ++ [numV (t.cs.length : Int)] := by rw [hF1]; simp [sch1]
  have he2 : F2 0 = F1 t.cs.length ++ [numV (t.xs.length : Int)] := by rw [hF2, hF1]; simp [sch2]
  have he3 : F3 0 = F2 t.xs.length ++ [numV t.hd] ++ [numV (t.rs.length : Int)] := by rw [hF3, hF2]; simp [sch3]
  have he4 : L = F3 t.rs.length := by rw [← hL, hF3]; simp [schL]
  have hlen1 : ∀ k, k ≤ t.cs.length → (F1 k).length ≤ 8000010 := fun k hk => by
    rw [hF1]
    simp only [sch1, List.length_append, len4, len3, List.length_cons, List.length_nil, List.length_map, List.length_take]
    omega
  have hlen2 : ∀ k, k ≤ t.xs.length → (F2 k).length ≤ 20000010 := fun k hk => by
    rw [hF2]
    simp only [sch2, sch1, List.length_append, len4, len3, List.length_cons, List.length_nil, List.length_map, List.length_take]
    omega
  have hlen3 : ∀ k, k ≤ t.rs.length → (F3 k).length ≤ 30000010 := fun k hk => by
    rw [hF3]
    simp only [sch3, sch2, sch1, List.length_append, len4, len3, List.length_cons, List.length_nil, List.length_map, List.length_take]
    omega
  clear hF1 hF2 hF3 hv hb hR hL J
  have HS1 := hid hs1
  have HS2 := hid hs2
  have HS3 := hid hs3
  have HE1 := hid he1
  have HE2 := hid he2
  have HE3 := hid he3
  have HE4 := hid he4
  have HL1 := hid hlen1
  have HL2 := hid hlen2
  have HL3 := hid hlen3
  clear hs1 hs2 hs3 he1 he2 he3 he4 hlen1 hlen2 hlen3 HL
  obtain ⟨nm, oc, cs, cc, ox, xs, cx, hd, od, rs, cr⟩ := t
  unfold Tb.val
  simp only at HS1 HS2 HS3 HE1 HE2 HE3 HE4 HL1 HL2 HL3 hs ⊢
  obtain ⟨hTc, hTx, hTr, _, _, _⟩ := hT
  simp only at hTc hTx hTr
  have HC := hid hTc
  have HX := hid hTx
  have HRR := hid hTr
  obtain ⟨hn1, hn2, hn3⟩ := hs
  have hg0 : Gr w (w.alloc (.cells #[.string nm, .slice oc cs.length cc, .slice ox xs.length cx, .int .i64 hd, .slice od rs.length cr] 29)) := (Gr.refl _).alloc _
  obtain ⟨b0, b1, b2, b3, b4⟩ := box5 w (.string nm) (.slice oc cs.length cc) (.slice ox xs.length cx) (.int .i64 hd) (.slice od rs.length cr)
  clear hTc hTx hTr
  go_enter Tryd.func16, Tryd.ntmps16
  go_upto_region 2 with (fail)
  have hs1 : (w.alloc (.cells #[.string nm, .slice oc cs.length cc, .slice ox xs.length cx, .int .i64 hd, .slice od rs.length cr] 29)).heap.size = w.heap.size + 1 := by simp
  obtain ⟨wB, hwB⟩ : ∃ W, w.alloc (.cells #[.string nm, .slice oc cs.length cc, .slice ox xs.length cx, .int .i64 hd, .slice od rs.length cr] 29) = W := ⟨_, rfl⟩
  rw [hwB] at b0 b1 b2 b3 b4 hg0 hs1
  rw [hwB, ← hs1]
  obtain ⟨gB, hgB⟩ : ∃ g, w.heap.size = g := ⟨_, rfl⟩
  have hws0 : WS wB.heap.size (wB.alloc (.cells #[.slice none 0 0] 79)) [] := ⟨⟨_, by rw [Rg.blk_cells (heap_alloc_new _ _) 0]; rfl, World.ownsRow_nil _ _ _ _⟩, Rg.blk_free (heap_alloc_new _ _) _, Ty.new _ _ _⟩
  have hgP : Gr w (wB.alloc (.cells #[.slice none 0 0] 79)) := hg0.alloc _
  have hkB : Gr wB (wB.alloc (.cells #[.slice none 0 0] 79)) := (Gr.refl _).alloc _
  have b0 := hkB.keep b0
  have b1 := hkB.keep b1
  have b2 := hkB.keep b2
  have b3 := hkB.keep b3
  have b4 := hkB.keep b4
  obtain ⟨p, hp⟩ : ∃ p, wB.heap.size = p := ⟨_, rfl⟩
  rw [hp] at hws0 hs1
  rw [hp]
  have hpz : p < (wB.alloc (.cells #[.slice none 0 0] 79)).heap.size := by rw [← hp]; simp
  obtain ⟨wP, hwP⟩ : ∃ W, wB.alloc (.cells #[.slice none 0 0] 79) = W := ⟨_, rfl⟩
  rw [hwP] at hws0 hgP b0 b1 b2 b3 b4 hpz
  rw [hwP]
  rw [hgB] at b0 b1 b2 b3 b4 hs1
  rw [hgB]
  have hgp : gB < p := by omega
  have HWP := hid (show w.heap.size ≤ p by rw [hgB]; omega)
  have HGP := hid hgP
  have HWS := hid hws0
  have HBL := hid (Below.refl p wP)
  have HB0 := hid b0
  have HB1 := hid b1
  have HB2 := hid b2
  have HB3 := hid b3
  have HB4 := hid b4
  have zb := lt_of_cell b0
  clear hwB hgB hp hwP hs1 hws0 hgP hkB hg0
  go_wp2_with fail
  refine (wtext_any p nm [] _ HWS.out (by simp)).mono ?_
  rintro e w1 ⟨rfl, hws, hwk⟩
  have HWS := hid hws
  have HBL := hid (HBL.out.trans hwk.b)
  have b0 := keepB hwk.b hgp b0
  have b1 := keepB hwk.b hgp b1
  have b2 := keepB hwk.b hgp b2
  have b3 := keepB hwk.b hgp b3
  have b4 := keepB hwk.b hgp b4
  have zb := lt_of_cell b0
  clear hws hwk
  go_wp2_with fail
  refine (wnum_any p (cs.length : Int) ([] ++ [textV nm]) _ HWS.out (by simp)).mono ?_
  rintro e w2 ⟨rfl, hws, hwk⟩
  have HWS := hid hws
  have HBL := hid (HBL.out.trans hwk.b)
  have b0 := keepB hwk.b hgp b0
  have b1 := keepB hwk.b hgp b1
  have b2 := keepB hwk.b hgp b2
  have b3 := keepB hwk.b hgp b3
  have b4 := keepB hwk.b hgp b4
  have zb := lt_of_cell b0
  clear hws hwk
  have S1 : Hid (ScRel p wP cs.length F1 (.int .i64 0) w2) := hid ⟨0, rfl, Nat.zero_le _, by rw [HE1.out]; exact HWS.out, HBL.out⟩
  clear HWS HBL hpz
  go_wp2_with fail
  go_loopw [20] (fun s20 wr => ScRel p wP cs.length F1 s20 wr) (fun s20 _ => cs.length - (intOf s20).toNat)
  case atStart => exact S1.out
  case round =>
    clear S1 b0 b1 b2 b3 b4 zb
    obtain ⟨k, rfl, hk, hws, hbl⟩ := hrel
    have b0 := keepB hbl hgp HB0.out
    have b1 := keepB hbl hgp HB1.out
    have b2 := keepB hbl hgp HB2.out
    have b3 := keepB hbl hgp HB3.out
    have b4 := keepB hbl hgp HB4.out
    have zb := lt_of_cell b0
    have HGW := hid (below_gr HGP.out HWP.out hbl)
    have HWS := hid hws
    have HBL := hid hbl
    have hpr : p ≤ wr.heap.size := by
      obtain ⟨v, hv, _⟩ := hws.ex
      exact Nat.le_of_lt (lt_of_cell hv)
    clear hws hbl
    by_cases hlt : k < cs.length
    · obtain ⟨b, off, rfl, c0, c1, c2, c3⟩ := c_get (HC.out.keep HGW.out) k hlt
      have hbb := lt_of_cell c0
      have HST := hid (HS1.out k hlt)
      have HLK := hid (HL1.out k (Nat.le_of_lt hlt))
      generalize cs[k] = x at *
      have g1 : decide ((cs.length : Int) ≤ (k : Int)) = false := by rw [decide_eq_false_iff_not]; omega
      have g2 : (k : Int) < (cs.length : Int) := by omega
      have g3 : (0 : Int) ≤ (k : Int) := by omega
      go_upto_region 7 with (fail)
      have hga : Gr wr (wr.alloc (.cells #[.string x.nm, .int .i64 x.ty, .bool x.nn, .bool x.uq] 24)) := (Gr.refl _).alloc _
      have y0 : (wr.alloc (.cells #[.string x.nm, .int .i64 x.ty, .bool x.nn, .bool x.uq] 24)).cell? ⟨wr.heap.size, 0, none⟩ = some (.string x.nm) := by rw [Rg.blk_cells (heap_alloc_new _ _) 0]; rfl
      have y1 : (wr.alloc (.cells #[.string x.nm, .int .i64 x.ty, .bool x.nn, .bool x.uq] 24)).cell? ⟨wr.heap.size, 1, none⟩ = some (.int .i64 x.ty) := by rw [Rg.blk_cells (heap_alloc_new _ _) 1]; rfl
      have y2 : (wr.alloc (.cells #[.string x.nm, .int .i64 x.ty, .bool x.nn, .bool x.uq] 24)).cell? ⟨wr.heap.size, 2, none⟩ = some (.bool x.nn) := by rw [Rg.blk_cells (heap_alloc_new _ _) 2]; rfl
      have y3 : (wr.alloc (.cells #[.string x.nm, .int .i64 x.ty, .bool x.nn, .bool x.uq] 24)).cell? ⟨wr.heap.size, 3, none⟩ = some (.bool x.uq) := by rw [Rg.blk_cells (heap_alloc_new _ _) 3]; rfl
      have HTY := hid (Ty.new wr #[.string x.nm, .int .i64 x.ty, .bool x.nn, .bool x.uq] 24)
      have HWS := hid (HWS.out.keep hga)
      have HBL := hid (HBL.out.alloc hpr (.cells #[.string x.nm, .int .i64 x.ty, .bool x.nn, .bool x.uq] 24))
      obtain ⟨wQ, hwQ⟩ : ∃ W, wr.alloc (.cells #[.string x.nm, .int .i64 x.ty, .bool x.nn, .bool x.uq] 24) = W := ⟨_, rfl⟩
      rw [hwQ] at hga y0 y1 y2 y3 HTY HWS HBL
      rw [hwQ]
      have b0 := hga.keep b0
      have b1 := hga.keep b1
      have b2 := hga.keep b2
      have b3 := hga.keep b3
      have b4 := hga.keep b4
      obtain ⟨q, hq⟩ : ∃ q, wr.heap.size = q := ⟨_, rfl⟩
      rw [hq] at y0 y1 y2 y3 HTY
      rw [hq]
      have zb := lt_of_cell b0
      have zq := lt_of_cell y0
      clear hwQ hga hq c0 c1 c2 c3 hbb hpr
      go_wp2_with fail
      refine (wtext_any p x.nm (F1 k) _ HWS.out (by first | (simp; have := HLK.out; omega) | (have := HLK.out; omega))).mono ?_
      rintro e w1 ⟨rfl, hws, hwk⟩
      have HWS := hid hws
      have HBL := hid (HBL.out.trans hwk.b)
      have b0 := keepB hwk.b hgp b0
      have b1 := keepB hwk.b hgp b1
      have b2 := keepB hwk.b hgp b2
      have b3 := keepB hwk.b hgp b3
      have b4 := keepB hwk.b hgp b4
      have y0 := hwk.cell HTY.out (by decide) (by decide) y0
      have y1 := hwk.cell HTY.out (by decide) (by decide) y1
      have y2 := hwk.cell HTY.out (by decide) (by decide) y2
      have y3 := hwk.cell HTY.out (by decide) (by decide) y3
      have HTY := hid (hwk.ty HTY.out (by decide) (by decide))
      have zq := lt_of_cell y0
      have zb := lt_of_cell b0
      clear hws hwk
      go_wp2_with fail
      refine (wnum_any p x.ty (F1 k ++ [textV x.nm]) _ HWS.out (by first | (simp; have := HLK.out; omega) | (have := HLK.out; omega))).mono ?_
      rintro e w2 ⟨rfl, hws, hwk⟩
      have HWS := hid hws
      have HBL := hid (HBL.out.trans hwk.b)
      have b0 := keepB hwk.b hgp b0
      have b1 := keepB hwk.b hgp b1
      have b2 := keepB hwk.b hgp b2
      have b3 := keepB hwk.b hgp b3
      have b4 := keepB hwk.b hgp b4
      have y0 := hwk.cell HTY.out (by decide) (by decide) y0
      have y1 := hwk.cell HTY.out (by decide) (by decide) y1
      have y2 := hwk.cell HTY.out (by decide) (by decide) y2
      have y3 := hwk.cell HTY.out (by decide) (by decide) y3
      have HTY := hid (hwk.ty HTY.out (by decide) (by decide))
      have zq := lt_of_cell y0
      have zb := lt_of_cell b0
      clear hws hwk
      go_wp2_with fail
      refine (wyes_any p x.nn (F1 k ++ [textV x.nm] ++ [numV x.ty]) _ HWS.out (by first | (simp; have := HLK.out; omega) | (have := HLK.out; omega))).mono ?_
      rintro e w3 ⟨rfl, hws, hwk⟩
      have HWS := hid hws
      have HBL := hid (HBL.out.trans hwk.b)
      have b0 := keepB hwk.b hgp b0
      have b1 := keepB hwk.b hgp b1
      have b2 := keepB hwk.b hgp b2
      have b3 := keepB hwk.b hgp b3
      have b4 := keepB hwk.b hgp b4
      have y0 := hwk.cell HTY.out (by decide) (by decide) y0
      have y1 := hwk.cell HTY.out (by decide) (by decide) y1
      have y2 := hwk.cell HTY.out (by decide) (by decide) y2
      have y3 := hwk.cell HTY.out (by decide) (by decide) y3
      have HTY := hid (hwk.ty HTY.out (by decide) (by decide))
      have zq := lt_of_cell y0
      have zb := lt_of_cell b0
      clear hws hwk
      go_wp2_with fail
      refine (wyes_any p x.uq (F1 k ++ [textV x.nm] ++ [numV x.ty] ++ [boolV x.nn]) _ HWS.out (by first | (simp; have := HLK.out; omega) | (have := HLK.out; omega))).mono ?_
      rintro e w4 ⟨rfl, hws, hwk⟩
      have HWS := hid hws
      have HBL := hid (HBL.out.trans hwk.b)
      have b0 := keepB hwk.b hgp b0
      have b1 := keepB hwk.b hgp b1
      have b2 := keepB hwk.b hgp b2
      have b3 := keepB hwk.b hgp b3
      have b4 := keepB hwk.b hgp b4
      have y0 := hwk.cell HTY.out (by decide) (by decide) y0
      have y1 := hwk.cell HTY.out (by decide) (by decide) y1
      have y2 := hwk.cell HTY.out (by decide) (by decide) y2
      have y3 := hwk.cell HTY.out (by decide) (by decide) y3
      have HTY := hid (hwk.ty HTY.out (by decide) (by decide))
      have zq := lt_of_cell y0
      have zb := lt_of_cell b0
      clear hws hwk
      have FI : Hid (ScRel p wP cs.length F1 (.int .i64 ((k : Int) + 1)) w4) := hid ⟨k + 1, by go_num, by omega, by rw [HST.out]; exact HWS.out, HBL.out⟩
      clear HWS HBL HST HTY HGW
      go_wp2
      exact ⟨FI.out, by simp [intOf]; omega⟩
    · obtain rfl : k = cs.length := by omega
      have g1 : decide ((cs.length : Int) ≤ (cs.length : Int)) = true := by rw [decide_eq_true_iff]; omega
      have HLE := hid (HL1.out cs.length (Nat.le_refl _))
      go_wp2_with fail
      refine (wnum_any p (xs.length : Int) (F1 cs.length) _ HWS.out (by have := HLE.out; omega)).mono ?_
      rintro e w5 ⟨rfl, hws, hwk⟩
      have HWS := hid hws
      have HBL := hid (HBL.out.trans hwk.b)
      have b0 := keepB hwk.b hgp b0
      have b1 := keepB hwk.b hgp b1
      have b2 := keepB hwk.b hgp b2
      have b3 := keepB hwk.b hgp b3
      have b4 := keepB hwk.b hgp b4
      have zb := lt_of_cell b0
      clear hws hwk
      clear HLE hpr HGW
      have S2 : Hid (ScRel p wP xs.length F2 (.int .i64 0) w5) := hid ⟨0, rfl, Nat.zero_le _, by rw [HE2.out]; exact HWS.out, HBL.out⟩
      clear HWS HBL
      go_wp2_with fail
      go_loopw [44] (fun s44 wr => ScRel p wP xs.length F2 s44 wr) (fun s44 _ => xs.length - (intOf s44).toNat)
      case atStart => exact S2.out
      case round =>
        clear S2 b0 b1 b2 b3 b4 zb
        obtain ⟨k, rfl, hk, hws, hbl⟩ := hrel
        have b0 := keepB hbl hgp HB0.out
        have b1 := keepB hbl hgp HB1.out
        have b2 := keepB hbl hgp HB2.out
        have b3 := keepB hbl hgp HB3.out
        have b4 := keepB hbl hgp HB4.out
        have zb := lt_of_cell b0
        have HGW := hid (below_gr HGP.out HWP.out hbl)
        have HWS := hid hws
        have HBL := hid hbl
        have hpr : p ≤ wr.heap.size := by
          obtain ⟨v, hv, _⟩ := hws.ex
          exact Nat.le_of_lt (lt_of_cell hv)
        clear hws hbl
        by_cases hlt : k < xs.length
        · obtain ⟨b, off, rfl, c0, c1, c2⟩ := x_get (HX.out.keep HGW.out) k hlt
          have hbb := lt_of_cell c0
          have HST := hid (HS2.out k hlt)
          have HLK := hid (HL2.out k (Nat.le_of_lt hlt))
          generalize xs[k] = x at *
          have g1 : decide ((xs.length : Int) ≤ (k : Int)) = false := by rw [decide_eq_false_iff_not]; omega
          have g2 : (k : Int) < (xs.length : Int) := by omega
          have g3 : (0 : Int) ≤ (k : Int) := by omega
          go_upto_region 16 with (fail)
          have hga : Gr wr (wr.alloc (.cells #[.string x.nm, .int .i64 x.co, .bool x.uq] 60)) := (Gr.refl _).alloc _
          have y0 : (wr.alloc (.cells #[.string x.nm, .int .i64 x.co, .bool x.uq] 60)).cell? ⟨wr.heap.size, 0, none⟩ = some (.string x.nm) := by rw [Rg.blk_cells (heap_alloc_new _ _) 0]; rfl
          have y1 : (wr.alloc (.cells #[.string x.nm, .int .i64 x.co, .bool x.uq] 60)).cell? ⟨wr.heap.size, 1, none⟩ = some (.int .i64 x.co) := by rw [Rg.blk_cells (heap_alloc_new _ _) 1]; rfl
          have y2 : (wr.alloc (.cells #[.string x.nm, .int .i64 x.co, .bool x.uq] 60)).cell? ⟨wr.heap.size, 2, none⟩ = some (.bool x.uq) := by rw [Rg.blk_cells (heap_alloc_new _ _) 2]; rfl
          have HTY := hid (Ty.new wr #[.string x.nm, .int .i64 x.co, .bool x.uq] 60)
          have HWS := hid (HWS.out.keep hga)
          have HBL := hid (HBL.out.alloc hpr (.cells #[.string x.nm, .int .i64 x.co, .bool x.uq] 60))
          obtain ⟨wQ, hwQ⟩ : ∃ W, wr.alloc (.cells #[.string x.nm, .int .i64 x.co, .bool x.uq] 60) = W := ⟨_, rfl⟩
          rw [hwQ] at hga y0 y1 y2 HTY HWS HBL
          rw [hwQ]
          have b0 := hga.keep b0
          have b1 := hga.keep b1
          have b2 := hga.keep b2
          have b3 := hga.keep b3
          have b4 := hga.keep b4
          obtain ⟨q, hq⟩ : ∃ q, wr.heap.size = q := ⟨_, rfl⟩
          rw [hq] at y0 y1 y2 HTY
          rw [hq]
          have zb := lt_of_cell b0
          have zq := lt_of_cell y0
          clear hwQ hga hq c0 c1 c2 hbb hpr
          go_wp2_with fail
          refine (wtext_any p x.nm (F2 k) _ HWS.out (by first | (simp; have := HLK.out; omega) | (have := HLK.out; omega))).mono ?_
          rintro e w1 ⟨rfl, hws, hwk⟩
          have HWS := hid hws
          have HBL := hid (HBL.out.trans hwk.b)
          have b0 := keepB hwk.b hgp b0
          have b1 := keepB hwk.b hgp b1
          have b2 := keepB hwk.b hgp b2
          have b3 := keepB hwk.b hgp b3
          have b4 := keepB hwk.b hgp b4
          have y0 := hwk.cell HTY.out (by decide) (by decide) y0
          have y1 := hwk.cell HTY.out (by decide) (by decide) y1
          have y2 := hwk.cell HTY.out (by decide) (by decide) y2
          have HTY := hid (hwk.ty HTY.out (by decide) (by decide))
          have zq := lt_of_cell y0
          have zb := lt_of_cell b0
          clear hws hwk
          go_wp2_with fail
          refine (wnum_any p x.co (F2 k ++ [textV x.nm]) _ HWS.out (by first | (simp; have := HLK.out; omega) | (have := HLK.out; omega))).mono ?_
          rintro e w2 ⟨rfl, hws, hwk⟩
          have HWS := hid hws
          have HBL := hid (HBL.out.trans hwk.b)
          have b0 := keepB hwk.b hgp b0
          have b1 := keepB hwk.b hgp b1
          have b2 := keepB hwk.b hgp b2
          have b3 := keepB hwk.b hgp b3
          have b4 := keepB hwk.b hgp b4
          have y0 := hwk.cell HTY.out (by decide) (by decide) y0
          have y1 := hwk.cell HTY.out (by decide) (by decide) y1
          have y2 := hwk.cell HTY.out (by decide) (by decide) y2
          have HTY := hid (hwk.ty HTY.out (by decide) (by decide))
          have zq := lt_of_cell y0
          have zb := lt_of_cell b0
          clear hws hwk
          go_wp2_with fail
          refine (wyes_any p x.uq (F2 k ++ [textV x.nm] ++ [numV x.co]) _ HWS.out (by first | (simp; have := HLK.out; omega) | (have := HLK.out; omega))).mono ?_
          rintro e w3 ⟨rfl, hws, hwk⟩
          have HWS := hid hws
          have HBL := hid (HBL.out.trans hwk.b)
          have b0 := keepB hwk.b hgp b0
          have b1 := keepB hwk.b hgp b1
          have b2 := keepB hwk.b hgp b2
          have b3 := keepB hwk.b hgp b3
          have b4 := keepB hwk.b hgp b4
          have y0 := hwk.cell HTY.out (by decide) (by decide) y0
          have y1 := hwk.cell HTY.out (by decide) (by decide) y1
          have y2 := hwk.cell HTY.out (by decide) (by decide) y2
          have HTY := hid (hwk.ty HTY.out (by decide) (by decide))
          have zq := lt_of_cell y0
          have zb := lt_of_cell b0
          clear hws hwk
          have FI : Hid (ScRel p wP xs.length F2 (.int .i64 ((k : Int) + 1)) w3) := hid ⟨k + 1, by go_num, by omega, by rw [HST.out]; exact HWS.out, HBL.out⟩
          clear HWS HBL HST HTY HGW
          go_wp2
          exact ⟨FI.out, by simp [intOf]; omega⟩
        · obtain rfl : k = xs.length := by omega
          have g1 : decide ((xs.length : Int) ≤ (xs.length : Int)) = true := by rw [decide_eq_true_iff]; omega
          have HLE := hid (HL2.out xs.length (Nat.le_refl _))
          go_wp2_with fail
          refine (wnum_any p hd (F2 xs.length) _ HWS.out (by have := HLE.out; omega)).mono ?_
          rintro e w6 ⟨rfl, hws, hwk⟩
          have HWS := hid hws
          have HBL := hid (HBL.out.trans hwk.b)
          have b0 := keepB hwk.b hgp b0
          have b1 := keepB hwk.b hgp b1
          have b2 := keepB hwk.b hgp b2
          have b3 := keepB hwk.b hgp b3
          have b4 := keepB hwk.b hgp b4
          have zb := lt_of_cell b0
          clear hws hwk
          go_wp2_with fail
          refine (wnum_any p (rs.length : Int) (F2 xs.length ++ [numV hd]) _ HWS.out (by simp; have := HLE.out; omega)).mono ?_
          rintro e w7 ⟨rfl, hws, hwk⟩
          have HWS := hid hws
          have HBL := hid (HBL.out.trans hwk.b)
          have b0 := keepB hwk.b hgp b0
          have b1 := keepB hwk.b hgp b1
          have b2 := keepB hwk.b hgp b2
          have b3 := keepB hwk.b hgp b3
          have b4 := keepB hwk.b hgp b4
          have zb := lt_of_cell b0
          clear hws hwk
          clear HLE hpr HGW
          have S3 : Hid (ScRel p wP rs.length F3 (.int .i64 0) w7) := hid ⟨0, rfl, Nat.zero_le _, by rw [HE3.out]; exact HWS.out, HBL.out⟩
          clear HWS HBL
          go_wp2_with fail
          go_loopw [68] (fun s68 wr => ScRel p wP rs.length F3 s68 wr) (fun s68 _ => rs.length - (intOf s68).toNat)
          case atStart => exact S3.out
          case round =>
            clear S3 b0 b1 b2 b3 b4 zb
            obtain ⟨k, rfl, hk, hws, hbl⟩ := hrel
            have b0 := keepB hbl hgp HB0.out
            have b1 := keepB hbl hgp HB1.out
            have b2 := keepB hbl hgp HB2.out
            have b3 := keepB hbl hgp HB3.out
            have b4 := keepB hbl hgp HB4.out
            have zb := lt_of_cell b0
            have HGW := hid (below_gr HGP.out HWP.out hbl)
            have HWS := hid hws
            have HBL := hid hbl
            have hpr : p ≤ wr.heap.size := by
              obtain ⟨v, hv, _⟩ := hws.ex
              exact Nat.le_of_lt (lt_of_cell hv)
            clear hws hbl
            by_cases hlt : k < rs.length
            · obtain ⟨b, off, rfl, c0⟩ := i_get (HRR.out.keep HGW.out) k hlt
              have hbb := lt_of_cell c0
              have HST := hid (HS3.out k hlt)
              have HLK := hid (HL3.out k (Nat.le_of_lt hlt))
              generalize rs[k] = x at *
              have g1 : decide ((rs.length : Int) ≤ (k : Int)) = false := by rw [decide_eq_false_iff_not]; omega
              have g2 : (k : Int) < (rs.length : Int) := by omega
              have g3 : (0 : Int) ≤ (k : Int) := by omega
              go_wp2_with fail
              refine (wnum_any p x (F3 k) _ HWS.out (by have := HLK.out; omega)).mono ?_
              rintro e w1 ⟨rfl, hws, hwk⟩
              have HWS := hid hws
              have HBL := hid (HBL.out.trans hwk.b)
              have b0 := keepB hwk.b hgp b0
              have b1 := keepB hwk.b hgp b1
              have b2 := keepB hwk.b hgp b2
              have b3 := keepB hwk.b hgp b3
              have b4 := keepB hwk.b hgp b4
              have zb := lt_of_cell b0
              clear hws hwk
              have FI : Hid (ScRel p wP rs.length F3 (.int .i64 ((k : Int) + 1)) w1) := hid ⟨k + 1, by go_num, by omega, by rw [HST.out]; exact HWS.out, HBL.out⟩
              clear HWS HBL HST HGW
              go_wp2
              exact ⟨FI.out, by simp [intOf]; omega⟩
            · obtain rfl : k = rs.length := by omega
              have g1 : decide ((rs.length : Int) ≤ (rs.length : Int)) = true := by rw [decide_eq_true_iff]; omega
              have hws := HWS.out
              rw [← HE4.out] at hws
              obtain ⟨v, hv, hown⟩ := hws.ex
              obtain ⟨ox', cx', rfl, hat, _⟩ := own_at0 vE hown
              have C := hid (HJ.out ox' cx' wr hat)
              have zv := lt_of_cell hv
              have HGW2 := hid HGW.out
              obtain ⟨nL, hnL⟩ : ∃ n, L.length = n := ⟨_, rfl⟩
              rw [hnL] at C hv
              clear HWS HBL hws hown hat hnL
              go_wp2_with fail
              refine C.out.mono ?_
              rintro e w1 ⟨oz, cz, rfl, hcz, hzat, hgz⟩
              have HZ := hid hzat
              clear C hzat
              go_wp2
              go_ret
              exact ⟨oz, cz, rfl, hcz, HZ.out, HGW2.out.trans hgz⟩
end Go.Proofs.YtacbhkmkknicoaaDoor

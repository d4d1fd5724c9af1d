/- row: whether a row fits a table. (By mkK2.py.) -/
import Derived.Test.YtacbhkmkknicoaaDoorK1
namespace Go.Proofs.YtacbhkmkknicoaaDoor
open Go.RowKit
set_option linter.unusedSimpArgs false
set_option linter.unusedVariables false
attribute [local go_sem] Rg.leads_value Rg.leads_skip Rg.leads_enter Rg.brings_value Rg.brings_skip Rg.brings_enter Rg.bringsG_value Rg.bringsG_enter
/-- what is wrong with a value in a column; 0: nothing -/
def badV (xs : List Ix) (i : Nat) (v : V) (c : Col) : Int :=
  if (!(v.t == 0) && !(v.t == c.ty)) = true then 160 else if ((v.t == 0) && c.nn) = true then 163 else if ((c.uq || hasX xs (i : Int)) && longB v) = true then 170 else 0
def chk (xs : List Ix) (E : Int) : Nat → List V → List Col → Int
  | _, [], _ => E
  | _, _ :: _, [] => E
  | i, v :: r, c :: s => if badV xs i v c = 0 then chk xs E (i + 1) r s else badV xs i v c
def encE (l : List V) : Int := if (joinV l).length ≤ 480 then 0 else 170
/-- what is wrong with a row of a table -/
def checkR (t : Tb) (l : List V) : Int := if l.length = t.cs.length then chk t.xs (encE l) 0 l t.cs else 160
theorem chk_step {xs : List Ix} {E : Int} {k : Nat} {l : List V} {cs : List Col} (h1 : k < l.length) (h2 : k < cs.length) : chk xs E k (l.drop k) (cs.drop k) = if badV xs k l[k] cs[k] = 0 then chk xs E (k + 1) (l.drop (k + 1)) (cs.drop (k + 1)) else badV xs k l[k] cs[k] := by
  rw [List.drop_eq_getElem_cons h1, List.drop_eq_getElem_cons h2, chk]
theorem chk_end {xs : List Ix} {E : Int} {k : Nat} {cs : List Col} : chk xs E k [] cs = E := by
  cases cs <;> rfl
def KRel (wB : World) (xs : List Ix) (cs : List Col) (l : List V) (E R : Int) (s19 : Value) (wr : World) : Prop := ∃ k : Nat, s19 = .int .i64 (k : Int) ∧ k ≤ l.length ∧ chk xs E k (l.drop k) (cs.drop k) = R ∧ Gr wB wr
theorem box5 (w : World) (a b c d e : Value) : (w.alloc (.cells #[a, b, c, d, e] 29)).cell? ⟨w.heap.size, 0, none⟩ = some a ∧ (w.alloc (.cells #[a, b, c, d, e] 29)).cell? ⟨w.heap.size, 1, none⟩ = some b ∧ (w.alloc (.cells #[a, b, c, d, e] 29)).cell? ⟨w.heap.size, 2, none⟩ = some c ∧ (w.alloc (.cells #[a, b, c, d, e] 29)).cell? ⟨w.heap.size, 3, none⟩ = some d ∧ (w.alloc (.cells #[a, b, c, d, e] 29)).cell? ⟨w.heap.size, 4, none⟩ = some e := by
  refine ⟨?_, ?_, ?_, ?_, ?_⟩
  · rw [Rg.blk_cells (heap_alloc_new _ _) 0]; rfl
  · rw [Rg.blk_cells (heap_alloc_new _ _) 1]; rfl
  · rw [Rg.blk_cells (heap_alloc_new _ _) 2]; rfl
  · rw [Rg.blk_cells (heap_alloc_new _ _) 3]; rfl
  · rw [Rg.blk_cells (heap_alloc_new _ _) 4]; rfl
theorem box3 (w : World) (i a b c d e f g h : Value) : let W := (((w.alloc (.cells #[i] 3)).alloc (.cells #[a, b, c, d] 32)).alloc (.cells #[e, f, g, h] 24))
    W.cell? ⟨w.heap.size, 0, none⟩ = some i ∧ W.cell? ⟨w.heap.size + 1, 0, none⟩ = some a ∧ W.cell? ⟨w.heap.size + 1, 1, none⟩ = some b ∧ W.cell? ⟨w.heap.size + 1, 2, none⟩ = some c ∧ W.cell? ⟨w.heap.size + 1, 3, none⟩ = some d ∧
    W.cell? ⟨w.heap.size + 1 + 1, 0, none⟩ = some e ∧ W.cell? ⟨w.heap.size + 1 + 1, 1, none⟩ = some f ∧ W.cell? ⟨w.heap.size + 1 + 1, 2, none⟩ = some g ∧ W.cell? ⟨w.heap.size + 1 + 1, 3, none⟩ = some h := by
  intro W
  have s1 : (w.alloc (.cells #[i] 3)).heap.size = w.heap.size + 1 := by simp
  have s2 : ((w.alloc (.cells #[i] 3)).alloc (.cells #[a, b, c, d] 32)).heap.size = w.heap.size + 1 + 1 := by simp
  have k1 : ∀ j u, (w.alloc (.cells #[i] 3)).cell? ⟨w.heap.size, j, none⟩ = some u → W.cell? ⟨w.heap.size, j, none⟩ = some u := fun j u h => Gr.keep (((Gr.refl _).alloc _).alloc _) h
  have k2 : ∀ j u, ((w.alloc (.cells #[i] 3)).alloc (.cells #[a, b, c, d] 32)).cell? ⟨w.heap.size + 1, j, none⟩ = some u → W.cell? ⟨w.heap.size + 1, j, none⟩ = some u := fun j u h => Gr.keep ((Gr.refl _).alloc _) h
  refine ⟨k1 _ _ ?_, k2 _ _ ?_, k2 _ _ ?_, k2 _ _ ?_, k2 _ _ ?_, ?_, ?_, ?_, ?_⟩
  · rw [Rg.blk_cells (heap_alloc_new _ _) 0]; rfl
  · rw [← s1, Rg.blk_cells (heap_alloc_new _ _) 0]; rfl
  · rw [← s1, Rg.blk_cells (heap_alloc_new _ _) 1]; rfl
  · rw [← s1, Rg.blk_cells (heap_alloc_new _ _) 2]; rfl
  · rw [← s1, Rg.blk_cells (heap_alloc_new _ _) 3]; rfl
  · rw [← s2, Rg.blk_cells (heap_alloc_new _ _) 0]; rfl
  · rw [← s2, Rg.blk_cells (heap_alloc_new _ _) 1]; rfl
  · rw [← s2, Rg.blk_cells (heap_alloc_new _ _) 2]; rfl
  · rw [← s2, Rg.blk_cells (heap_alloc_new _ _) 3]; rfl
set_option maxHeartbeats 8000000 in
set_option maxRecDepth 100000 in
theorem check_any (t : Tb) (oa : Option Addr) (c : Nat) (l : List V) (w : World) (hl : l.length ≤ 9223372036854775807) (hT : TbAt w t) (hp : VAt w oa l) (hv : ∀ v ∈ l, VOk v) (hb : (joinV l).length ≤ 140737488355328) :
    Calls Tryd.prog 11 #[t.val, .slice oa l.length c] w fun e w' => e = .returned (.int .i64 (checkR t l)) ∧ Gr w w' := by
  have EN := hid (fun W (hW : Gr w W) => rowenc_any oa c l W hl (hp.keep hW) hv hb)
  obtain ⟨nm, oc, cs, cc, ox, xs, cx, hd, od, rs, cr⟩ := t
  unfold Tb.val checkR
  simp only
  obtain ⟨hTc, hTx, hTr, hTcl, hTxl, hTrl⟩ := hT
  simp only at hTc hTx hTcl hTxl hTrl
  have HP := hid hp
  have HC := hid hTc
  have HX := hid hTx
  clear hp hv hTc hTx hTr hb
  by_cases he : l.length = cs.length
  · rw [if_pos he]
    have hEN : ∀ W, RowE l W = fun e w' => ∃ oa n c, e = .returned (.tuple #[.slice oa n c, .int .i64 (encE l)]) ∧ (n = if (joinV l).length ≤ 480 then (joinV l).length else 0) ∧ n ≤ c ∧ ((joinV l).length ≤ 480 → BAt w' oa (joinV l)) ∧ Gr W w' := fun W => rfl
    have EN2 : Hid (∀ W, Gr w W → Calls Tryd.prog 12 #[.slice oa l.length c] W fun e w' => ∃ oa n c, e = .returned (.tuple #[.slice oa n c, .int .i64 (encE l)]) ∧ Gr W w') := hid (fun W hW => (EN.out W hW).mono fun e w' ⟨oa, n, c, h1, _, _, _, h5⟩ => ⟨oa, n, c, h1, h5⟩)
    clear EN hEN
    generalize encE l = E at *
    obtain ⟨R, hR⟩ : ∃ R, chk xs E 0 l cs = R := ⟨_, rfl⟩
    rw [hR]
    obtain ⟨n, hn⟩ : ∃ n, l.length = n := ⟨_, rfl⟩
    have hcn : cs.length = n := by omega
    rw [hcn, hn]
    rw [hn] at hl EN2
    have HN := hid hn
    have HCN := hid hcn
    have hg0 : Gr w (w.alloc (.cells #[.string nm, .slice oc n cc, .slice ox xs.length cx, .int .i64 hd, .slice od rs.length cr] 29)) := (Gr.refl _).alloc _
    obtain ⟨b0, b1, b2, b3, b4⟩ := box5 w (.string nm) (.slice oc n cc) (.slice ox xs.length cx) (.int .i64 hd) (.slice od rs.length cr)
    have hR0 := hid hR
    clear hn hcn he hR
    go_enter Tryd.func11, Tryd.ntmps11
    go_upto_region 3 with (fail)
    obtain ⟨gB, hgB⟩ : ∃ g, w.heap.size = g := ⟨_, rfl⟩
    rw [hgB] at b0 b1 b2 b3 b4
    rw [hgB]
    obtain ⟨wB, hwB⟩ : ∃ W, w.alloc (.cells #[.string nm, .slice oc n cc, .slice ox xs.length cx, .int .i64 hd, .slice od rs.length cr] 29) = W := ⟨_, rfl⟩
    rw [hwB] at b0 b1 b2 b3 b4 hg0
    rw [hwB]
    have S0 : Hid (KRel wB xs cs l E R (.int .i64 0) wB) := hid ⟨0, rfl, Nat.zero_le _, hR0.out, Gr.refl _⟩
    have HB1 := hid b1
    have HB2 := hid b2
    have HG0 := hid hg0
    clear hwB hgB b0 b1 b2 b3 b4 hg0 hR0
    go_wp2_with fail
    go_loopw [19] (fun s19 wr => KRel wB xs cs l E R s19 wr) (fun s19 _ => n - (intOf s19).toNat)
    case atStart => exact S0.out
    case round =>
      clear S0
      obtain ⟨k, rfl, hk, hR, hg⟩ := hrel
      have HR := hid hR
      rw [HN.out] at hk
      clear hR
      by_cases hlt : k < n
      · have hkl : k < l.length := by rw [HN.out]; exact hlt
        have hkc : k < cs.length := by rw [HCN.out]; exact hlt
        have HR1 := HR.out
        rw [chk_step hkl hkc] at HR1
        obtain ⟨b, off, rfl, c0, c1, c2, c3⟩ := v_get (HP.out.keep (HG0.out.trans hg)) k hkl
        obtain ⟨b', off', rfl, d0, d1, d2, d3⟩ := c_get (HC.out.keep (HG0.out.trans hg)) k hkc
        have hbb := lt_of_cell c0
        have hbd := lt_of_cell d0
        have e1 := hg.keep HB1.out
        have e2 := hg.keep HB2.out
        have hbe := lt_of_cell e1
        have g1 : decide ((n : Int) ≤ (k : Int)) = false := by rw [decide_eq_false_iff_not]; omega
        have g2 : (k : Int) < (n : Int) := by omega
        have g3 : (0 : Int) ≤ (k : Int) := by omega
        have FI : Hid (badV xs k l[k] cs[k] = 0 → ∀ W, Gr wr W → KRel wB xs cs l E R (.int .i64 ((k : Int) + 1)) W) := hid (fun h W hW => ⟨k + 1, by go_num, by rw [HN.out]; omega, by rw [if_pos h] at HR1; exact HR1, hg.trans hW⟩)
        have FR : Hid (badV xs k l[k] cs[k] ≠ 0 → badV xs k l[k] cs[k] = R) := hid (fun h => by rw [if_neg h] at HR1; exact HR1)
        have LN := fun W => long_any l[k] W
        generalize l[k] = x at *
        generalize cs[k] = y at *
        unfold V.val at LN
        have HLN := hid LN
        have HGW := hid (HG0.out.trans hg)
        clear HR1 HR hkl hkc LN
        unfold badV at FI FR
        obtain ⟨xt, xn, xsn, xb⟩ := x
        obtain ⟨yn, yt, ynn, yq⟩ := y
        simp only at c0 c1 c2 c3 d0 d1 d2 d3 FI FR HLN
        obtain ⟨lg, hlg⟩ : ∃ q, longB ⟨xt, xn, xsn, xb⟩ = q := ⟨_, rfl⟩
        rw [hlg] at HLN FI FR
        obtain ⟨hx, hhx⟩ : ∃ q, hasX xs (k : Int) = q := ⟨_, rfl⟩
        rw [hhx] at FI FR
        have HHX := hid hhx
        clear hlg hhx
        have GA : Gr wr (((wr.alloc (.cells #[.int .i64 (k : Int)] 3)).alloc (.cells #[.int .i64 xt, .int .i64 xn, .string xsn, .bool xb] 32)).alloc (.cells #[.string yn, .int .i64 yt, .bool ynn, .bool yq] 24)) := (((Gr.refl _).alloc _).alloc _).alloc _
        obtain ⟨i0, v0, v1, v2, v3, y0, y1, y2, y3⟩ := box3 wr (.int .i64 (k : Int)) (.int .i64 xt) (.int .i64 xn) (.string xsn) (.bool xb) (.string yn) (.int .i64 yt) (.bool ynn) (.bool yq)
        go_upto_region 7 with (fail)
        obtain ⟨WA, hWA⟩ : ∃ W, ((wr.alloc (.cells #[.int .i64 (k : Int)] 3)).alloc (.cells #[.int .i64 xt, .int .i64 xn, .string xsn, .bool xb] 32)).alloc (.cells #[.string yn, .int .i64 yt, .bool ynn, .bool yq] 24) = W := ⟨_, rfl⟩
        rw [hWA] at GA i0 v0 v1 v2 v3 y0 y1 y2 y3
        rw [hWA]
        have e2 := GA.keep e2
        have HGA := hid GA
        clear hWA GA c0 c1 c2 c3 d0 d1 d2 d3 e1 hbb hbd hbe
        obtain ⟨g, hgs⟩ : ∃ g, wr.heap.size = g := ⟨_, rfl⟩
        rw [hgs] at i0 v0 v1 v2 v3 y0 y1 y2 y3
        rw [hgs]
        clear hgs
        have zi := lt_of_cell i0
        have zv := lt_of_cell v0
        have zy := lt_of_cell y0
        have ze := lt_of_cell e2
        obtain ⟨p, hpp⟩ : ∃ p, (xt == 0) = p := ⟨_, rfl⟩
        obtain ⟨q, hqq⟩ : ∃ q, (xt == yt) = q := ⟨_, rfl⟩
        rw [hpp, hqq] at FI FR
        have HPP := hid hpp
        have HQQ := hid hqq
        clear hpp hqq
        cases yq
        · cases hx
          · have XH := hid (xhas ox cx xs (k : Int) g WA hTxl (HX.out.keep (HGW.out.trans HGA.out)) i0)
            rw [HHX.out] at XH
            clear HHX HX
            go_wp2_with fail
            refine XH.out.mono ?_
            rintro e w1 ⟨rfl, hg1⟩
            have v0 := hg1.keep v0
            have v1 := hg1.keep v1
            have v2 := hg1.keep v2
            have v3 := hg1.keep v3
            have y1 := hg1.keep y1
            have y2 := hg1.keep y2
            have zv := lt_of_cell v0
            have zy := lt_of_cell y1
            have HGA := hid (HGA.out.trans hg1)
            clear XH hg1 i0 y0 y3 e2 zi ze
            cases p
            · cases q
              · cases ynn
                · have ep : (xt == 0) = false := HPP.out
                  have ep2 : (xt != 0) = true := by simp [bne, ep]
                  have eq1 : (xt == yt) = false := HQQ.out
                  have eq2 : (xt != yt) = true := by simp [bne, eq1]
                  clear HPP HQQ
                  have e4 : (160 : Int) = R := by
                    have := FR.out (by simp)
                    simpa using this
                  subst e4
                  clear FI FR HLN
                  go_wp2
                  go_ret
                  exact ⟨rfl, HGW.out.trans HGA.out⟩
                · have ep : (xt == 0) = false := HPP.out
                  have ep2 : (xt != 0) = true := by simp [bne, ep]
                  have eq1 : (xt == yt) = false := HQQ.out
                  have eq2 : (xt != yt) = true := by simp [bne, eq1]
                  clear HPP HQQ
                  have e4 : (160 : Int) = R := by
                    have := FR.out (by simp)
                    simpa using this
                  subst e4
                  clear FI FR HLN
                  go_wp2
                  go_ret
                  exact ⟨rfl, HGW.out.trans HGA.out⟩
              · cases ynn
                · have ep : (xt == 0) = false := HPP.out
                  have ep2 : (xt != 0) = true := by simp [bne, ep]
                  have eq' : xt = yt := by simpa using HQQ.out
                  subst eq'
                  clear HPP HQQ
                  have FJ := hid (FI.out (by simp) _ HGA.out)
                  clear FI FR HLN
                  go_wp2
                  exact ⟨FJ.out, by simp [intOf]; omega⟩
                · have ep : (xt == 0) = false := HPP.out
                  have ep2 : (xt != 0) = true := by simp [bne, ep]
                  have eq' : xt = yt := by simpa using HQQ.out
                  subst eq'
                  clear HPP HQQ
                  have FJ := hid (FI.out (by simp) _ HGA.out)
                  clear FI FR HLN
                  go_wp2
                  exact ⟨FJ.out, by simp [intOf]; omega⟩
            · cases q
              · cases ynn
                · have ep : xt = 0 := by simpa using HPP.out
                  subst ep
                  clear HPP HQQ
                  have FJ := hid (FI.out (by simp) _ HGA.out)
                  clear FI FR HLN
                  go_wp2
                  exact ⟨FJ.out, by simp [intOf]; omega⟩
                · have ep : xt = 0 := by simpa using HPP.out
                  subst ep
                  clear HPP HQQ
                  have e4 : (163 : Int) = R := by
                    have := FR.out (by simp)
                    simpa using this
                  subst e4
                  clear FI FR HLN
                  go_wp2
                  go_ret
                  exact ⟨rfl, HGW.out.trans HGA.out⟩
              · cases ynn
                · have ep : xt = 0 := by simpa using HPP.out
                  subst ep
                  clear HPP HQQ
                  have FJ := hid (FI.out (by simp) _ HGA.out)
                  clear FI FR HLN
                  go_wp2
                  exact ⟨FJ.out, by simp [intOf]; omega⟩
                · have ep : xt = 0 := by simpa using HPP.out
                  subst ep
                  clear HPP HQQ
                  have e4 : (163 : Int) = R := by
                    have := FR.out (by simp)
                    simpa using this
                  subst e4
                  clear FI FR HLN
                  go_wp2
                  go_ret
                  exact ⟨rfl, HGW.out.trans HGA.out⟩
          · have XH := hid (xhas ox cx xs (k : Int) g WA hTxl (HX.out.keep (HGW.out.trans HGA.out)) i0)
            rw [HHX.out] at XH
            clear HHX HX
            go_wp2_with fail
            refine XH.out.mono ?_
            rintro e w1 ⟨rfl, hg1⟩
            have v0 := hg1.keep v0
            have v1 := hg1.keep v1
            have v2 := hg1.keep v2
            have v3 := hg1.keep v3
            have y1 := hg1.keep y1
            have y2 := hg1.keep y2
            have zv := lt_of_cell v0
            have zy := lt_of_cell y1
            have HGA := hid (HGA.out.trans hg1)
            clear XH hg1 i0 y0 y3 e2 zi ze
            cases p
            · cases q
              · cases ynn
                · have ep : (xt == 0) = false := HPP.out
                  have ep2 : (xt != 0) = true := by simp [bne, ep]
                  have eq1 : (xt == yt) = false := HQQ.out
                  have eq2 : (xt != yt) = true := by simp [bne, eq1]
                  clear HPP HQQ
                  have e4 : (160 : Int) = R := by
                    have := FR.out (by simp)
                    simpa using this
                  subst e4
                  clear FI FR HLN
                  go_wp2
                  go_ret
                  exact ⟨rfl, HGW.out.trans HGA.out⟩
                · have ep : (xt == 0) = false := HPP.out
                  have ep2 : (xt != 0) = true := by simp [bne, ep]
                  have eq1 : (xt == yt) = false := HQQ.out
                  have eq2 : (xt != yt) = true := by simp [bne, eq1]
                  clear HPP HQQ
                  have e4 : (160 : Int) = R := by
                    have := FR.out (by simp)
                    simpa using this
                  subst e4
                  clear FI FR HLN
                  go_wp2
                  go_ret
                  exact ⟨rfl, HGW.out.trans HGA.out⟩
              · cases ynn
                · have ep : (xt == 0) = false := HPP.out
                  have ep2 : (xt != 0) = true := by simp [bne, ep]
                  have eq' : xt = yt := by simpa using HQQ.out
                  subst eq'
                  clear HPP HQQ
                  cases lg
                  · go_wp2_with fail
                    refine (HLN.out _).mono ?_
                    rintro e w2 ⟨rfl, hg2⟩
                    have HGA := hid (HGA.out.trans hg2)
                    have FJ := hid (FI.out (by simp) _ HGA.out)
                    clear FI FR HLN
                    go_wp2
                    exact ⟨FJ.out, by simp [intOf]; omega⟩
                  · go_wp2_with fail
                    refine (HLN.out _).mono ?_
                    rintro e w2 ⟨rfl, hg2⟩
                    have HGA := hid (HGA.out.trans hg2)
                    have e4 : (170 : Int) = R := by
                      have := FR.out (by simp)
                      simpa using this
                    subst e4
                    clear FI FR HLN
                    go_wp2
                    go_ret
                    exact ⟨rfl, HGW.out.trans HGA.out⟩
                · have ep : (xt == 0) = false := HPP.out
                  have ep2 : (xt != 0) = true := by simp [bne, ep]
                  have eq' : xt = yt := by simpa using HQQ.out
                  subst eq'
                  clear HPP HQQ
                  cases lg
                  · go_wp2_with fail
                    refine (HLN.out _).mono ?_
                    rintro e w2 ⟨rfl, hg2⟩
                    have HGA := hid (HGA.out.trans hg2)
                    have FJ := hid (FI.out (by simp) _ HGA.out)
                    clear FI FR HLN
                    go_wp2
                    exact ⟨FJ.out, by simp [intOf]; omega⟩
                  · go_wp2_with fail
                    refine (HLN.out _).mono ?_
                    rintro e w2 ⟨rfl, hg2⟩
                    have HGA := hid (HGA.out.trans hg2)
                    have e4 : (170 : Int) = R := by
                      have := FR.out (by simp)
                      simpa using this
                    subst e4
                    clear FI FR HLN
                    go_wp2
                    go_ret
                    exact ⟨rfl, HGW.out.trans HGA.out⟩
            · cases q
              · cases ynn
                · have ep : xt = 0 := by simpa using HPP.out
                  subst ep
                  clear HPP HQQ
                  cases lg
                  · go_wp2_with fail
                    refine (HLN.out _).mono ?_
                    rintro e w2 ⟨rfl, hg2⟩
                    have HGA := hid (HGA.out.trans hg2)
                    have FJ := hid (FI.out (by simp) _ HGA.out)
                    clear FI FR HLN
                    go_wp2
                    exact ⟨FJ.out, by simp [intOf]; omega⟩
                  · go_wp2_with fail
                    refine (HLN.out _).mono ?_
                    rintro e w2 ⟨rfl, hg2⟩
                    have HGA := hid (HGA.out.trans hg2)
                    have e4 : (170 : Int) = R := by
                      have := FR.out (by simp)
                      simpa using this
                    subst e4
                    clear FI FR HLN
                    go_wp2
                    go_ret
                    exact ⟨rfl, HGW.out.trans HGA.out⟩
                · have ep : xt = 0 := by simpa using HPP.out
                  subst ep
                  clear HPP HQQ
                  have e4 : (163 : Int) = R := by
                    have := FR.out (by simp)
                    simpa using this
                  subst e4
                  clear FI FR HLN
                  go_wp2
                  go_ret
                  exact ⟨rfl, HGW.out.trans HGA.out⟩
              · cases ynn
                · have ep : xt = 0 := by simpa using HPP.out
                  subst ep
                  clear HPP HQQ
                  cases lg
                  · go_wp2_with fail
                    refine (HLN.out _).mono ?_
                    rintro e w2 ⟨rfl, hg2⟩
                    have HGA := hid (HGA.out.trans hg2)
                    have FJ := hid (FI.out (by simp) _ HGA.out)
                    clear FI FR HLN
                    go_wp2
                    exact ⟨FJ.out, by simp [intOf]; omega⟩
                  · go_wp2_with fail
                    refine (HLN.out _).mono ?_
                    rintro e w2 ⟨rfl, hg2⟩
                    have HGA := hid (HGA.out.trans hg2)
                    have e4 : (170 : Int) = R := by
                      have := FR.out (by simp)
                      simpa using this
                    subst e4
                    clear FI FR HLN
                    go_wp2
                    go_ret
                    exact ⟨rfl, HGW.out.trans HGA.out⟩
                · have ep : xt = 0 := by simpa using HPP.out
                  subst ep
                  clear HPP HQQ
                  have e4 : (163 : Int) = R := by
                    have := FR.out (by simp)
                    simpa using this
                  subst e4
                  clear FI FR HLN
                  go_wp2
                  go_ret
                  exact ⟨rfl, HGW.out.trans HGA.out⟩
        · clear HHX HX i0 y0 e2 zi ze
          cases p
          · cases q
            · cases ynn
              · have ep : (xt == 0) = false := HPP.out
                have ep2 : (xt != 0) = true := by simp [bne, ep]
                have eq1 : (xt == yt) = false := HQQ.out
                have eq2 : (xt != yt) = true := by simp [bne, eq1]
                clear HPP HQQ
                have e4 : (160 : Int) = R := by
                  have := FR.out (by simp)
                  simpa using this
                subst e4
                clear FI FR HLN
                go_wp2
                go_ret
                exact ⟨rfl, HGW.out.trans HGA.out⟩
              · have ep : (xt == 0) = false := HPP.out
                have ep2 : (xt != 0) = true := by simp [bne, ep]
                have eq1 : (xt == yt) = false := HQQ.out
                have eq2 : (xt != yt) = true := by simp [bne, eq1]
                clear HPP HQQ
                have e4 : (160 : Int) = R := by
                  have := FR.out (by simp)
                  simpa using this
                subst e4
                clear FI FR HLN
                go_wp2
                go_ret
                exact ⟨rfl, HGW.out.trans HGA.out⟩
            · cases ynn
              · have ep : (xt == 0) = false := HPP.out
                have ep2 : (xt != 0) = true := by simp [bne, ep]
                have eq' : xt = yt := by simpa using HQQ.out
                subst eq'
                clear HPP HQQ
                cases lg
                · go_wp2_with fail
                  refine (HLN.out _).mono ?_
                  rintro e w2 ⟨rfl, hg2⟩
                  have HGA := hid (HGA.out.trans hg2)
                  have FJ := hid (FI.out (by simp) _ HGA.out)
                  clear FI FR HLN
                  go_wp2
                  exact ⟨FJ.out, by simp [intOf]; omega⟩
                · go_wp2_with fail
                  refine (HLN.out _).mono ?_
                  rintro e w2 ⟨rfl, hg2⟩
                  have HGA := hid (HGA.out.trans hg2)
                  have e4 : (170 : Int) = R := by
                    have := FR.out (by simp)
                    simpa using this
                  subst e4
                  clear FI FR HLN
                  go_wp2
                  go_ret
                  exact ⟨rfl, HGW.out.trans HGA.out⟩
              · have ep : (xt == 0) = false := HPP.out
                have ep2 : (xt != 0) = true := by simp [bne, ep]
                have eq' : xt = yt := by simpa using HQQ.out
                subst eq'
                clear HPP HQQ
                cases lg
                · go_wp2_with fail
                  refine (HLN.out _).mono ?_
                  rintro e w2 ⟨rfl, hg2⟩
                  have HGA := hid (HGA.out.trans hg2)
                  have FJ := hid (FI.out (by simp) _ HGA.out)
                  clear FI FR HLN
                  go_wp2
                  exact ⟨FJ.out, by simp [intOf]; omega⟩
                · go_wp2_with fail
                  refine (HLN.out _).mono ?_
                  rintro e w2 ⟨rfl, hg2⟩
                  have HGA := hid (HGA.out.trans hg2)
                  have e4 : (170 : Int) = R := by
                    have := FR.out (by simp)
                    simpa using this
                  subst e4
                  clear FI FR HLN
                  go_wp2
                  go_ret
                  exact ⟨rfl, HGW.out.trans HGA.out⟩
          · cases q
            · cases ynn
              · have ep : xt = 0 := by simpa using HPP.out
                subst ep
                clear HPP HQQ
                cases lg
                · go_wp2_with fail
                  refine (HLN.out _).mono ?_
                  rintro e w2 ⟨rfl, hg2⟩
                  have HGA := hid (HGA.out.trans hg2)
                  have FJ := hid (FI.out (by simp) _ HGA.out)
                  clear FI FR HLN
                  go_wp2
                  exact ⟨FJ.out, by simp [intOf]; omega⟩
                · go_wp2_with fail
                  refine (HLN.out _).mono ?_
                  rintro e w2 ⟨rfl, hg2⟩
                  have HGA := hid (HGA.out.trans hg2)
                  have e4 : (170 : Int) = R := by
                    have := FR.out (by simp)
                    simpa using this
                  subst e4
                  clear FI FR HLN
                  go_wp2
                  go_ret
                  exact ⟨rfl, HGW.out.trans HGA.out⟩
              · have ep : xt = 0 := by simpa using HPP.out
                subst ep
                clear HPP HQQ
                have e4 : (163 : Int) = R := by
                  have := FR.out (by simp)
                  simpa using this
                subst e4
                clear FI FR HLN
                go_wp2
                go_ret
                exact ⟨rfl, HGW.out.trans HGA.out⟩
            · cases ynn
              · have ep : xt = 0 := by simpa using HPP.out
                subst ep
                clear HPP HQQ
                cases lg
                · go_wp2_with fail
                  refine (HLN.out _).mono ?_
                  rintro e w2 ⟨rfl, hg2⟩
                  have HGA := hid (HGA.out.trans hg2)
                  have FJ := hid (FI.out (by simp) _ HGA.out)
                  clear FI FR HLN
                  go_wp2
                  exact ⟨FJ.out, by simp [intOf]; omega⟩
                · go_wp2_with fail
                  refine (HLN.out _).mono ?_
                  rintro e w2 ⟨rfl, hg2⟩
                  have HGA := hid (HGA.out.trans hg2)
                  have e4 : (170 : Int) = R := by
                    have := FR.out (by simp)
                    simpa using this
                  subst e4
                  clear FI FR HLN
                  go_wp2
                  go_ret
                  exact ⟨rfl, HGW.out.trans HGA.out⟩
              · have ep : xt = 0 := by simpa using HPP.out
                subst ep
                clear HPP HQQ
                have e4 : (163 : Int) = R := by
                  have := FR.out (by simp)
                  simpa using this
                subst e4
                clear FI FR HLN
                go_wp2
                go_ret
                exact ⟨rfl, HGW.out.trans HGA.out⟩
      · obtain rfl : k = n := by omega
        have HR1 := HR.out
        rw [List.drop_eq_nil_of_le (by rw [HN.out]; exact Nat.le_refl _), chk_end] at HR1
        subst HR1
        have g1 : decide ((k : Int) ≤ (k : Int)) = true := by rw [decide_eq_true_iff]; omega
        have C := hid (EN2.out wr (HG0.out.trans hg))
        have HGX := hid (HG0.out.trans hg)
        clear HR HN HCN HP HC HX EN2 HB1 HB2 hg
        go_wp2_with fail
        refine C.out.mono ?_
        rintro e w1 ⟨ox', nx, cx', rfl, hg1⟩
        go_wp2
        go_ret
        exact ⟨rfl, HGX.out.trans hg1⟩
  · rw [if_neg he]
    have q1 : ((l.length : Int) == (cs.length : Int)) = false := by rw [beq_eq_false_iff_ne]; omega
    have q2 : ((l.length : Int) != (cs.length : Int)) = true := by simp [bne, q1]
    clear EN HP HC HX
    go_enter Tryd.func11, Tryd.ntmps11
    go_wp2
    all_goals (go_ret; exact ⟨rfl, (Gr.refl _).alloc _⟩)
end Go.Proofs.YtacbhkmkknicoaaDoor

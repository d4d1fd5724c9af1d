/- row: the reference's word on whether a row fits. (By mkK3.py.) -/
import Derived.Test.YtacbhkmkknicoaaDoorK2
namespace Go.Proofs.YtacbhkmkknicoaaDoor
open Go.RowKit
set_option linter.unusedSimpArgs false
set_option linter.unusedVariables false
attribute [local go_sem] Rg.leads_value Rg.leads_skip Rg.leads_enter Rg.brings_value Rg.brings_skip Rg.brings_enter Rg.bringsG_value Rg.bringsG_enter
def InRel (wB : World) (xs : List Ix) (n : Int) (R : Bool) (s5 : Value) (wr : World) : Prop := ∃ k : Nat, s5 = .int .i64 (k : Int) ∧ k ≤ xs.length ∧ hasX (xs.drop k) n = R ∧ Gr wB wr
set_option maxHeartbeats 8000000 in
set_option maxRecDepth 100000 in
theorem indexed_any (t : Tb) (i : Nat) (w : World) (hT : TbAt w t) (hi : i < t.cs.length) :
    Calls Tryd.prog 29 #[t.val, .int .i64 (i : Int)] w fun e w' => e = .returned (.bool (hasX t.xs (i : Int) || t.cs[i].uq)) ∧ Gr w w' := by
  obtain ⟨nm, oc, cs, cc, ox, xs, cx, hd, od, rs, cr⟩ := t
  unfold Tb.val
  obtain ⟨hTc, hTx, hTr, hTcl, hTxl, hTrl⟩ := hT
  simp only at hTc hTx hTcl hTxl hTrl hi ⊢
  have HC := hid hTc
  have HX := hid hTx
  obtain ⟨R, hR⟩ : ∃ R, hasX xs (i : Int) = R := ⟨_, rfl⟩
  rw [hR]
  obtain ⟨b', off', rfl, d0, d1, d2, d3⟩ := c_get hTc i hi
  have hbd := lt_of_cell d0
  generalize cs[i] = y at *
  have hg0 : Gr w (w.alloc (.cells #[.string nm, .slice (some ⟨b', off', none⟩) cs.length cc, .slice ox xs.length cx, .int .i64 hd, .slice od rs.length cr] 29)) := (Gr.refl _).alloc _
  obtain ⟨b0, b1, b2, b3, b4⟩ := box5 w (.string nm) (.slice (some ⟨b', off', none⟩) cs.length cc) (.slice ox xs.length cx) (.int .i64 hd) (.slice od rs.length cr)
  have HRX := hid hR
  have g4 : (i : Int) < (cs.length : Int) := by omega
  have g5 : (0 : Int) ≤ (i : Int) := by omega
  clear hTc hTx hTr hR
  go_enter Tryd.func29, Tryd.ntmps29
  go_upto_region 1 with (fail)
  obtain ⟨gB, hgB⟩ : ∃ g, w.heap.size = g := ⟨_, rfl⟩
  rw [hgB] at b0 b1 b2 b3 b4
  rw [hgB]
  obtain ⟨wB, hwB⟩ : ∃ W, w.alloc (.cells #[.string nm, .slice (some ⟨b', off', none⟩) cs.length cc, .slice ox xs.length cx, .int .i64 hd, .slice od rs.length cr] 29) = W := ⟨_, rfl⟩
  rw [hwB] at b0 b1 b2 b3 b4 hg0
  rw [hwB]
  have S0 : Hid (InRel wB xs (i : Int) R (.int .i64 0) wB) := hid ⟨0, rfl, Nat.zero_le _, HRX.out, Gr.refl _⟩
  have d3 := hg0.keep d3
  have HG0 := hid hg0
  clear hwB hgB b0 b3 b4 hg0 HRX d0 d1 d2
  go_wp2_with fail
  go_loopw [5] (fun s5 wr => InRel wB xs (i : Int) R s5 wr) (fun s5 _ => xs.length - (intOf s5).toNat)
  case atStart => exact S0.out
  case round =>
    clear S0
    obtain ⟨k, rfl, hk, hR, hg⟩ := hrel
    have HR := hid hR
    have b1 := hg.keep b1
    have b2 := hg.keep b2
    have d3 := hg.keep d3
    have zb := lt_of_cell b1
    have zd := lt_of_cell d3
    clear hR
    by_cases hlt : k < xs.length
    · obtain ⟨b, off, rfl, c0, c1, c2⟩ := x_get (HX.out.keep (HG0.out.trans hg)) k hlt
      have hbb := lt_of_cell c1
      have g1 : decide ((xs.length : Int) ≤ (k : Int)) = false := by rw [decide_eq_false_iff_not]; omega
      have g2 : (k : Int) < (xs.length : Int) := by omega
      have g3 : (0 : Int) ≤ (k : Int) := by omega
      have HR1 : Hid (((xs[k].co == (i : Int)) || hasX (xs.drop (k + 1)) (i : Int)) = R) := hid (by
        have := HR.out
        rw [List.drop_eq_getElem_cons hlt] at this
        exact this)
      generalize xs[k] = x at *
      obtain ⟨q, hq⟩ : ∃ q, (x.co == (i : Int)) = q := ⟨_, rfl⟩
      rw [hq] at HR1
      cases q
      · have FI : Hid (InRel wB xs (i : Int) R (.int .i64 ((k : Int) + 1)) wr) := hid ⟨k + 1, by go_num, by omega, by have := HR1.out; rw [Bool.false_or] at this; exact this, hg⟩
        clear HR HR1
        go_wp2
        exact ⟨FI.out, by simp [intOf]; omega⟩
      · have e2 : R = true := by have := HR1.out; rw [Bool.true_or] at this; exact this.symm
        have HGR := hid (HG0.out.trans hg)
        subst e2
        clear HR HR1
        go_wp2
        go_ret
        exact ⟨by simp, HGR.out⟩
    · obtain rfl : k = xs.length := by omega
      have HR1 := HR.out
      rw [List.drop_length] at HR1
      have e2 : R = false := HR1.symm
      have HGR := hid (HG0.out.trans hg)
      subst e2
      have g1 : decide ((xs.length : Int) ≤ (xs.length : Int)) = true := by rw [decide_eq_true_iff]; omega
      clear HR HR1
      go_wp2
      go_ret
      exact ⟨by simp, HGR.out⟩
set_option maxHeartbeats 8000000 in
set_option maxRecDepth 100000 in
theorem rcheck_any (t : Tb) (oa : Option Addr) (c : Nat) (l : List V) (w : World) (hl : l.length ≤ 9223372036854775807) (hT : TbAt w t) (hp : VAt w oa l) (hv : ∀ v ∈ l, VOk v) (hb : (joinV l).length ≤ 140737488355328) :
    Calls Tryd.prog 13 #[t.val, .slice oa l.length c] w fun e w' => e = .returned (.int .i64 (checkR t l)) ∧ Gr w w' := by
  have EN := hid (fun W (hW : Gr w W) => rrowenc_any oa c l W hl (hp.keep hW) hv hb)
  obtain ⟨nm, oc, cs, cc, ox, xs, cx, hd, od, rs, cr⟩ := t
  unfold Tb.val checkR
  simp only
  obtain ⟨hTc, hTx, hTr, hTcl, hTxl, hTrl⟩ := hT
  simp only at hTc hTx hTcl hTxl hTrl
  have HP := hid hp
  have HC := hid hTc
  have HX := hid hTx
  have hTr0 := hTr
  clear hp hv hTc hTx hTr hb
  by_cases he : l.length = cs.length
  · rw [if_pos he]
    have hEN : ∀ W, RowE l W = fun e w' => ∃ oa n c, e = .returned (.tuple #[.slice oa n c, .int .i64 (encE l)]) ∧ (n = if (joinV l).length ≤ 480 then (joinV l).length else 0) ∧ n ≤ c ∧ ((joinV l).length ≤ 480 → BAt w' oa (joinV l)) ∧ Gr W w' := fun W => rfl
    have EN2 : Hid (∀ W, Gr w W → Calls Tryd.prog 30 #[.slice oa l.length c] W fun e w' => ∃ oa n c, e = .returned (.tuple #[.slice oa n c, .int .i64 (encE l)]) ∧ Gr W w') := hid (fun W hW => (EN.out W hW).mono fun e w' ⟨oa, n, c, h1, _, _, _, h5⟩ => ⟨oa, n, c, h1, h5⟩)
    clear EN hEN
    have HTB : Hid (TbAt w ⟨nm, oc, cs, cc, ox, xs, cx, hd, od, rs, cr⟩) := hid ⟨HC.out, HX.out, hTr0, hTcl, hTxl, hTrl⟩
    generalize encE l = E at *
    obtain ⟨R, hR⟩ : ∃ R, chk xs E 0 l cs = R := ⟨_, rfl⟩
    rw [hR]
    obtain ⟨n, hn⟩ : ∃ n, l.length = n := ⟨_, rfl⟩
    have hcn : cs.length = n := by omega
    rw [hcn, hn]
    rw [hn] at hl EN2
    have HN := hid hn
    have HCN := hid hcn
    have hg0 : Gr w (w.alloc (.cells #[.string nm, .slice oc n cc, .slice ox xs.length cx, .int .i64 hd, .slice od rs.length cr] 29)) := (Gr.refl _).alloc _
    obtain ⟨b0, b1, b2, b3, b4⟩ := box5 w (.string nm) (.slice oc n cc) (.slice ox xs.length cx) (.int .i64 hd) (.slice od rs.length cr)
    have hR0 := hid hR
    clear hn hcn he hR hTr0
    go_enter Tryd.func13, Tryd.ntmps13
    go_upto_region 3 with (fail)
    obtain ⟨gB, hgB⟩ : ∃ g, w.heap.size = g := ⟨_, rfl⟩
    rw [hgB] at b0 b1 b2 b3 b4
    rw [hgB]
    obtain ⟨wB, hwB⟩ : ∃ W, w.alloc (.cells #[.string nm, .slice oc n cc, .slice ox xs.length cx, .int .i64 hd, .slice od rs.length cr] 29) = W := ⟨_, rfl⟩
    rw [hwB] at b0 b1 b2 b3 b4 hg0
    rw [hwB]
    have S0 : Hid (KRel wB xs cs l E R (.int .i64 0) wB) := hid ⟨0, rfl, Nat.zero_le _, hR0.out, Gr.refl _⟩
    have HB1 := hid b1
    have HB5 := hid (And.intro b0 (And.intro b1 (And.intro b2 (And.intro b3 b4))))
    have HG0 := hid hg0
    clear hwB hgB b0 b1 b2 b3 b4 hg0 hR0
    go_wp2_with fail
    go_loopw [5] (fun s5 wr => KRel wB xs cs l E R s5 wr) (fun s5 _ => n - (intOf s5).toNat)
    case atStart => exact S0.out
    case round =>
      clear S0
      obtain ⟨k, rfl, hk, hR, hg⟩ := hrel
      have HR := hid hR
      rw [HN.out] at hk
      clear hR
      by_cases hlt : k < n
      · have hkl : k < l.length := by rw [HN.out]; exact hlt
        have hkc : k < cs.length := by rw [HCN.out]; exact hlt
        have HR1 := HR.out
        rw [chk_step hkl hkc] at HR1
        obtain ⟨b, off, rfl, c0, c1, c2, c3⟩ := v_get (HP.out.keep (HG0.out.trans hg)) k hkl
        obtain ⟨b', off', rfl, d0, d1, d2, d3⟩ := c_get (HC.out.keep (HG0.out.trans hg)) k hkc
        have hbb := lt_of_cell c0
        have hbd := lt_of_cell d0
        have e1 := hg.keep HB1.out
        have hbe := lt_of_cell e1
        have g1 : decide ((n : Int) ≤ (k : Int)) = false := by rw [decide_eq_false_iff_not]; omega
        have g2 : (k : Int) < (n : Int) := by omega
        have g3 : (0 : Int) ≤ (k : Int) := by omega
        have FI : Hid (badV xs k l[k] cs[k] = 0 → ∀ W, Gr wr W → KRel wB xs cs l E R (.int .i64 ((k : Int) + 1)) W) := hid (fun h W hW => ⟨k + 1, by go_num, by rw [HN.out]; omega, by rw [if_pos h] at HR1; exact HR1, hg.trans hW⟩)
        have FR : Hid (badV xs k l[k] cs[k] ≠ 0 → badV xs k l[k] cs[k] = R) := hid (fun h => by rw [if_neg h] at HR1; exact HR1)
        have IX : Hid (∀ W, Gr wr W → Calls Tryd.prog 29 #[.agg #[.string nm, .slice (some ⟨b', off', none⟩) n cc, .slice ox xs.length cx, .int .i64 hd, .slice od rs.length cr], .int .i64 (k : Int)] W fun e w' => e = .returned (.bool (hasX xs (k : Int) || cs[k].uq)) ∧ Gr W w') := hid (fun W hW => by
          have := indexed_any ⟨nm, some ⟨b', off', none⟩, cs, cc, ox, xs, cx, hd, od, rs, cr⟩ k W (HTB.out.keep ((HG0.out.trans hg).trans hW)) hkc
          unfold Tb.val at this
          simp only [HCN.out] at this
          exact this)
        generalize l[k] = x at *
        generalize cs[k] = y at *
        have HGW := hid (HG0.out.trans hg)
        clear HR1 HR hkl hkc
        unfold badV at FI FR
        obtain ⟨xt, xn, xsn, xb⟩ := x
        obtain ⟨yn, yt, ynn, yq⟩ := y
        simp only at c0 c1 c2 c3 d0 d1 d2 d3 FI FR IX
        obtain ⟨lg, hlg⟩ : ∃ q, longB ⟨xt, xn, xsn, xb⟩ = q := ⟨_, rfl⟩
        rw [hlg] at FI FR
        have HLG := hid hlg
        obtain ⟨hx, hhx⟩ : ∃ q, hasX xs (k : Int) = q := ⟨_, rfl⟩
        rw [hhx] at FI FR IX
        clear hlg hhx
        obtain ⟨p, hpp⟩ : ∃ p, (xt == 0) = p := ⟨_, rfl⟩
        obtain ⟨q, hqq⟩ : ∃ q, (xt == yt) = q := ⟨_, rfl⟩
        rw [hpp, hqq] at FI FR
        have HPP := hid hpp
        have HQQ := hid hqq
        clear hpp hqq
        have hg0 := hg
        have wx0 := hg.keep HB5.out.1
        have wx1 := hg.keep HB5.out.2.1
        have wx2 := hg.keep HB5.out.2.2.1
        have wx3 := hg.keep HB5.out.2.2.2.1
        have wx4 := hg.keep HB5.out.2.2.2.2
        clear HTB HC HP HX HB1
        cases p
        · cases q
          · have ep : (xt == 0) = false := HPP.out
            have ep2 : (xt != 0) = true := by simp [bne, ep]
            have eq1 : (xt == yt) = false := HQQ.out
            have eq2 : (xt != yt) = true := by simp [bne, eq1]
            clear HPP HQQ HLG
            go_upto_region 6 with (fail)
            refine Rg.region_text 20 (Below.drew (Below.refl _ _)) (by kernel_rfl) (by kernel_rfl) (fun _ _ d _ _ h => by cases d <;> exact h) ?_
            simp only [List.append_eq, List.cons_append, List.nil_append, List.take_succ_cons, List.take_zero, List.drop_succ_cons, List.drop_zero]
            repeat (first
                | (refine Rg.wpDets_skip (by rfl) ?_; simp only [Act.put, List.setIfInBounds_toArray, List.set_cons_zero, List.set_cons_succ])
                | (refine Rg.wpDets_step ?_ (by rfl) (fun w hS => ?_) ?_
                   rotate_left
                   · have hc := Gr.cells hS
                     have hf := Gr.frees hS
                     go_simp
                     first
                     | (refine ⟨?_, Below.refl _ _⟩; with_reducible rfl)
                   simp only [Act.put, List.setIfInBounds_toArray, List.set_cons_zero, List.set_cons_succ]))
            refine Rg.wpDets_nil ?_
            refine Rg.wpFlts_nil ?_
            refine Rg.wpLays_nil ?_
            intro w1 hK
            have hg : Gr _ w1 := hK.up
            have hc := Gr.cells hg
            have hf := Gr.frees hg
            have hz := Gr.size hg
            try simp only [World.size_alloc, World.size_setCell, World.size_drew] at hz
            try have : 0 < w1.heap.size := by omega
            try have : w.heap.size < w1.heap.size := by omega
            try have : w.heap.size + 1 < w1.heap.size := by omega
            try have : w.heap.size + 1 + 1 < w1.heap.size := by omega
            try have : w.heap.size + 1 + 1 + 1 < w1.heap.size := by omega
            have c0 := hg.keep c0
            have c2 := hg.keep c2
            have d2 := hg.keep d2
            have e1 := hg.keep e1
            have bx0 := hg.keep (hg0.keep HB5.out.1)
            have bx1 := hg.keep (hg0.keep HB5.out.2.1)
            have bx2 := hg.keep (hg0.keep HB5.out.2.2.1)
            have bx3 := hg.keep (hg0.keep HB5.out.2.2.2.1)
            have bx4 := hg.keep (hg0.keep HB5.out.2.2.2.2)
            have hbb := lt_of_cell c0
            have hbd := lt_of_cell d2
            have hbe := lt_of_cell e1
            have HGV := hid (HGW.out.trans hg)
            have HGI := hid hg
            clear hg hg0 HB5
            have e4 : (160 : Int) = R := by
              have := FR.out (by simp)
              simpa using this
            subst e4
            clear FI FR IX
            go_wp2
            go_ret
            exact ⟨rfl, HGV.out⟩
          · have ep : (xt == 0) = false := HPP.out
            have ep2 : (xt != 0) = true := by simp [bne, ep]
            have eq' : xt = yt := by simpa using HQQ.out
            subst eq'
            clear HPP HQQ
            by_cases hr : (xt == 2) = true
            · have er : xt = 2 := by simpa using hr
              subst er
              have hlg2 : decide (40 < xsn.size) = lg := by
                have := HLG.out
                unfold longB at this
                rw [← this]
                simp
              have hlg3 : decide ((40 : Int) < (xsn.size : Int)) = lg := by rw [← hlg2]; congr 1; simp; omega
              clear HLG hr
              go_upto_region 6 with (fail)
              refine Rg.region_text 20 (Below.drew (Below.refl _ _)) (by kernel_rfl) (by kernel_rfl) (fun _ _ d _ _ h => by cases d <;> exact h) ?_
              simp only [List.append_eq, List.cons_append, List.nil_append, List.take_succ_cons, List.take_zero, List.drop_succ_cons, List.drop_zero]
              repeat (first
                  | (refine Rg.wpDets_skip (by rfl) ?_; simp only [Act.put, List.setIfInBounds_toArray, List.set_cons_zero, List.set_cons_succ])
                  | (refine Rg.wpDets_step ?_ (by rfl) (fun w hS => ?_) ?_
                     rotate_left
                     · have hc := Gr.cells hS
                       have hf := Gr.frees hS
                       go_simp
                       first
                       | (refine ⟨?_, Below.refl _ _⟩; with_reducible rfl)
                     simp only [Act.put, List.setIfInBounds_toArray, List.set_cons_zero, List.set_cons_succ]))
              refine Rg.wpDets_nil ?_
              refine Rg.wpFlts_nil ?_
              refine Rg.wpLays_nil ?_
              intro w1 hK
              have hg : Gr _ w1 := hK.up
              have hc := Gr.cells hg
              have hf := Gr.frees hg
              have hz := Gr.size hg
              try simp only [World.size_alloc, World.size_setCell, World.size_drew] at hz
              try have : 0 < w1.heap.size := by omega
              try have : w.heap.size < w1.heap.size := by omega
              try have : w.heap.size + 1 < w1.heap.size := by omega
              try have : w.heap.size + 1 + 1 < w1.heap.size := by omega
              try have : w.heap.size + 1 + 1 + 1 < w1.heap.size := by omega
              have c0 := hg.keep c0
              have c2 := hg.keep c2
              have d2 := hg.keep d2
              have e1 := hg.keep e1
              have bx0 := hg.keep (hg0.keep HB5.out.1)
              have bx1 := hg.keep (hg0.keep HB5.out.2.1)
              have bx2 := hg.keep (hg0.keep HB5.out.2.2.1)
              have bx3 := hg.keep (hg0.keep HB5.out.2.2.2.1)
              have bx4 := hg.keep (hg0.keep HB5.out.2.2.2.2)
              have hbb := lt_of_cell c0
              have hbd := lt_of_cell d2
              have hbe := lt_of_cell e1
              have HGV := hid (HGW.out.trans hg)
              have HGI := hid hg
              clear hg hg0 HB5
              cases lg
              · have FJ := hid (FI.out (by cases ynn <;> cases yq <;> cases hx <;> simp) _ HGI.out)
                clear FI FR IX
                go_wp2
                exact ⟨FJ.out, by simp [intOf]; omega⟩
              · have I1 := hid (IX.out _ HGI.out)
                clear IX
                obtain ⟨hz, hhz⟩ : ∃ z, (hx || yq) = z := ⟨_, rfl⟩
                rw [hhz] at I1
                have HHZ := hid hhz
                clear hhz
                go_wp2_with fail
                refine I1.out.mono ?_
                rintro e w2 ⟨rfl, hg2⟩
                have HGV := hid (HGV.out.trans hg2)
                have HGI := hid (HGI.out.trans hg2)
                cases hz
                · have hz1 : hx = false ∧ yq = false := by have := HHZ.out; simpa using this
                  obtain ⟨rfl, rfl⟩ := hz1
                  have FJ := hid (FI.out (by cases ynn <;> simp) _ HGI.out)
                  clear FI FR I1
                  go_wp2
                  exact ⟨FJ.out, by simp [intOf]; omega⟩
                · have hz1 : (yq || hx) = true := by have := HHZ.out; rw [Bool.or_comm]; exact this
                  have e4 : (170 : Int) = R := by
                    have := FR.out (by rw [hz1]; simp)
                    rw [hz1] at this
                    simpa using this
                  subst e4
                  clear FI FR I1
                  go_wp2
                  go_ret
                  exact ⟨rfl, HGV.out⟩
            · have er : (xt == 2) = false := by simpa using hr
              have hlg0 : lg = false := by
                have := HLG.out
                unfold longB at this
                rw [← this]
                simp [er]
              subst hlg0
              clear HLG
              clear hr
              go_upto_region 6 with (fail)
              refine Rg.region_text 20 (Below.drew (Below.refl _ _)) (by kernel_rfl) (by kernel_rfl) (fun _ _ d _ _ h => by cases d <;> exact h) ?_
              simp only [List.append_eq, List.cons_append, List.nil_append, List.take_succ_cons, List.take_zero, List.drop_succ_cons, List.drop_zero]
              repeat (first
                  | (refine Rg.wpDets_skip (by rfl) ?_; simp only [Act.put, List.setIfInBounds_toArray, List.set_cons_zero, List.set_cons_succ])
                  | (refine Rg.wpDets_step ?_ (by rfl) (fun w hS => ?_) ?_
                     rotate_left
                     · have hc := Gr.cells hS
                       have hf := Gr.frees hS
                       go_simp
                       first
                       | (refine ⟨?_, Below.refl _ _⟩; with_reducible rfl)
                     simp only [Act.put, List.setIfInBounds_toArray, List.set_cons_zero, List.set_cons_succ]))
              refine Rg.wpDets_nil ?_
              refine Rg.wpFlts_nil ?_
              refine Rg.wpLays_nil ?_
              intro w1 hK
              have hg : Gr _ w1 := hK.up
              have hc := Gr.cells hg
              have hf := Gr.frees hg
              have hz := Gr.size hg
              try simp only [World.size_alloc, World.size_setCell, World.size_drew] at hz
              try have : 0 < w1.heap.size := by omega
              try have : w.heap.size < w1.heap.size := by omega
              try have : w.heap.size + 1 < w1.heap.size := by omega
              try have : w.heap.size + 1 + 1 < w1.heap.size := by omega
              try have : w.heap.size + 1 + 1 + 1 < w1.heap.size := by omega
              have c0 := hg.keep c0
              have c2 := hg.keep c2
              have d2 := hg.keep d2
              have e1 := hg.keep e1
              have bx0 := hg.keep (hg0.keep HB5.out.1)
              have bx1 := hg.keep (hg0.keep HB5.out.2.1)
              have bx2 := hg.keep (hg0.keep HB5.out.2.2.1)
              have bx3 := hg.keep (hg0.keep HB5.out.2.2.2.1)
              have bx4 := hg.keep (hg0.keep HB5.out.2.2.2.2)
              have hbb := lt_of_cell c0
              have hbd := lt_of_cell d2
              have hbe := lt_of_cell e1
              have HGV := hid (HGW.out.trans hg)
              have HGI := hid hg
              clear hg hg0 HB5
              have FJ := hid (FI.out (by cases ynn <;> cases yq <;> cases hx <;> simp) _ HGI.out)
              clear FI FR IX
              go_wp2
              exact ⟨FJ.out, by simp [intOf]; omega⟩
        · have ep : xt = 0 := by simpa using HPP.out
          subst ep
          clear HPP HQQ
          have hlg0 : lg = false := by
            have := HLG.out
            unfold longB at this
            rw [← this]
            simp
          subst hlg0
          clear HLG
          go_upto_region 6 with (fail)
          refine Rg.region_text 20 (Below.drew (Below.refl _ _)) (by kernel_rfl) (by kernel_rfl) (fun _ _ d _ _ h => by cases d <;> exact h) ?_
          simp only [List.append_eq, List.cons_append, List.nil_append, List.take_succ_cons, List.take_zero, List.drop_succ_cons, List.drop_zero]
          repeat (first
              | (refine Rg.wpDets_skip (by rfl) ?_; simp only [Act.put, List.setIfInBounds_toArray, List.set_cons_zero, List.set_cons_succ])
              | (refine Rg.wpDets_step ?_ (by rfl) (fun w hS => ?_) ?_
                 rotate_left
                 · have hc := Gr.cells hS
                   have hf := Gr.frees hS
                   go_simp
                   first
                   | (refine ⟨?_, Below.refl _ _⟩; with_reducible rfl)
                 simp only [Act.put, List.setIfInBounds_toArray, List.set_cons_zero, List.set_cons_succ]))
          refine Rg.wpDets_nil ?_
          refine Rg.wpFlts_nil ?_
          refine Rg.wpLays_nil ?_
          intro w1 hK
          have hg : Gr _ w1 := hK.up
          have hc := Gr.cells hg
          have hf := Gr.frees hg
          have hz := Gr.size hg
          try simp only [World.size_alloc, World.size_setCell, World.size_drew] at hz
          try have : 0 < w1.heap.size := by omega
          try have : w.heap.size < w1.heap.size := by omega
          try have : w.heap.size + 1 < w1.heap.size := by omega
          try have : w.heap.size + 1 + 1 < w1.heap.size := by omega
          try have : w.heap.size + 1 + 1 + 1 < w1.heap.size := by omega
          have c0 := hg.keep c0
          have c2 := hg.keep c2
          have d2 := hg.keep d2
          have e1 := hg.keep e1
          have bx0 := hg.keep (hg0.keep HB5.out.1)
          have bx1 := hg.keep (hg0.keep HB5.out.2.1)
          have bx2 := hg.keep (hg0.keep HB5.out.2.2.1)
          have bx3 := hg.keep (hg0.keep HB5.out.2.2.2.1)
          have bx4 := hg.keep (hg0.keep HB5.out.2.2.2.2)
          have hbb := lt_of_cell c0
          have hbd := lt_of_cell d2
          have hbe := lt_of_cell e1
          have HGV := hid (HGW.out.trans hg)
          have HGI := hid hg
          clear hg hg0 HB5
          cases ynn
          · have FJ := hid (FI.out (by cases q <;> cases yq <;> cases hx <;> simp) _ HGI.out)
            clear FI FR IX
            go_wp2
            exact ⟨FJ.out, by simp [intOf]; omega⟩
          · have e4 : (163 : Int) = R := by
              have := FR.out (by cases q <;> simp)
              cases q <;> simpa using this
            subst e4
            clear FI FR IX
            go_wp2
            go_ret
            exact ⟨rfl, HGV.out⟩
      · obtain rfl : k = n := by omega
        have HR1 := HR.out
        rw [List.drop_eq_nil_of_le (by rw [HN.out]; exact Nat.le_refl _), chk_end] at HR1
        subst HR1
        have g1 : decide ((k : Int) ≤ (k : Int)) = true := by rw [decide_eq_true_iff]; omega
        have C := hid (EN2.out wr (HG0.out.trans hg))
        have HGX := hid (HG0.out.trans hg)
        clear HR HN HCN HP HC HX EN2 HB1 HB5 HTB hg
        go_wp2_with fail
        refine C.out.mono ?_
        rintro e w1 ⟨ox', nx, cx', rfl, hg1⟩
        go_wp2
        go_ret
        exact ⟨rfl, HGX.out.trans hg1⟩
  · rw [if_neg he]
    clear hTr0
    have q1 : ((l.length : Int) == (cs.length : Int)) = false := by rw [beq_eq_false_iff_ne]; omega
    have q2 : ((l.length : Int) != (cs.length : Int)) = true := by simp [bne, q1]
    clear EN HP HC HX
    go_enter Tryd.func13, Tryd.ntmps13
    go_wp2
    all_goals (go_ret; exact ⟨rfl, (Gr.refl _).alloc _⟩)
end Go.Proofs.YtacbhkmkknicoaaDoor

/- Texts of this claim, put together: walks of functions and plain laws, of no condition. -/
import Derived.Test.YtaogpifcfmjcbaaCc4
section
namespace Go.Proofs.Ytaogpifcfmjcbaa
open Go.RowKit
set_option linter.unusedSimpArgs false
set_option linter.unusedVariables false
attribute [local go_sem] Rg.leads_value Rg.leads_skip Rg.leads_enter Rg.brings_value Rg.brings_skip Rg.brings_enter Rg.bringsG_value Rg.bringsG_enter Rg.once_normal Rg.once_exit Rg.once_ret Rg.once_panic Rg.once_goto Rg.bringsS_value Rg.bringsS_skip Rg.bringsS_enter Rg.still_value Rg.still_skip Rg.still_enter
def UpL (S0 : Nat) (v1 v2 : Value) (ys : List (ByteArray × Ex)) (W : World) : Prop := KL kStr (fun b => S0 + 1 ≤ b ∧ v2.ownBlock ≠ some b) W v1 (ys.map Prod.fst) ∧ KL kX (fun b => S0 + 1 ≤ b ∧ v1.ownBlock ≠ some b) W v2 (ys.map Prod.snd)
def UpRel (p N : Nat) (w : World) (R0 S0 : Nat) (n : ByteArray) (R : List (ByteArray × Ex) × Ps) (s4 : Value) (wr : World) : Prop := ∃ b v1 v2, s4 = .bool b ∧ SB p w R0 S0 (((SR.cs { kind := 6, table := n }).set 8 v2).set 6 v1) wr ∧ SqRel (UpL S0 v1 v2) setS p N R b wr
theorem set68 (cs : List Value) (v1 v2 : Value) : (cs.set 8 v2).set 6 v1 = (cs.set 6 v1).set 8 v2 := List.set_comm _ _ (by decide)
set_option maxHeartbeats 32000000 in
set_option maxRecDepth 100000 in
theorem update_any (p : Nat) (s : Ps) (w : World) (hS : PS p w s) (hs : s.size ≤ 900000) : Calls Try.prog 27 #[.pointer (some ⟨p, 0, none⟩)] w (Pst p w (updateS s)) := by
  have hpw := hS.lt
  have hG := fun o => (Gr.refl w).alloc o
  have hS0 := fun o => hS.keep (hG o)
  obtain ⟨n, hn⟩ : ∃ n, s.name.1 = n := ⟨_, rfl⟩
  obtain ⟨s1, hs1⟩ : ∃ s1, s.name.2 = s1 := ⟨_, rfl⟩
  have hni1 : s1.size ≤ s.size := by rw [← hs1]; exact size_name _
  obtain ⟨R, hR⟩ : ∃ R, sep setS (s1.need 1 ⟨#[115, 101, 116]⟩) = R := ⟨_, rfl⟩
  obtain ⟨C, hC⟩ : ∃ C, clauseS ⟨#[119, 104, 101, 114, 101]⟩ R.2 = C := ⟨_, rfl⟩
  have eT : updateS s = ({ kind := 6, table := n, columns := R.1.map Prod.fst, sets := R.1.map Prod.snd, wher := C.1 }, C.2) := by unfold updateS; simp only [hn, hs1, hR, hC]
  rw [eT]
  have HR := hid hR
  have HC := hid hC
  clear hR hC eT
  go_enter Try.func27, Try.ntmps27
  go_wp2_with fail
  refine (pname_any p s _ (hS0 _)).mono ?_
  rintro e w1 ⟨rfl, hps1, hg1⟩
  rw [hn]
  rw [hs1] at hps1
  have z1 := hg1.size
  simp only [World.size_alloc] at z1
  have H1 : Hid (∀ W5, W5.heap[w1.heap.size]? = some (.cells (SR.cs { kind := 6, table := n }).toArray 35 (0, 0)) → Go1 w1.heap.size (w1.alloc (.cells zeroS.toArray 35)) W5 → SB p w w.heap.size w1.heap.size (SR.cs { kind := 6, table := n }) W5 ∧ PS p W5 s1) := hid (fun W5 hx h5 => ⟨SB.start hpw hg1 hx h5, (hps1.keep ((Gr.refl w1).alloc _)).go h5 (by omega)⟩)
  have HA : Hid ((w1.alloc (.cells zeroS.toArray 35)).heap[w1.heap.size]? = some (.cells zeroS.toArray 35 (0, 0))) := hid (alloc_at _ _)
  clear hps1 hg1 hS0 hG hS hn hs1
  go_wp2_with (guard_target =~ wpList _ _ _ (Oper.mk _ (Op.store 35 _ _) _ _ _ _ :: _) _ _; refine st_row (ty := 35) rfl rfl w1.heap.size (SR.cs { kind := 6, table := n }).toArray rfl rfl 35 _ (HA.out) (by kernel_rfl) rfl (by kernel_rfl) ?_; intro W5 hW5 gW5 zW5; have HQ := hid (H1.out W5 hW5 gW5); clear hW5 gW5 zW5 H1 HA; generalize w1.heap.size = S0 at *)
  obtain ⟨hsb, hps⟩ := HQ.out
  clear HQ
  have hpS : p < S0 := by omega
  generalize hR0 : w.heap.size = R0 at *
  have hA3 := (Gr.refl W5).alloc (.cells #[.string ⟨#[115, 101, 116]⟩] 9)
  refine (words_one p _ ⟨#[115, 101, 116]⟩ s1 _ (hps.keep hA3) (by rw [Rg.blk_cells (alloc_at _ _)]; rfl)).mono ?_
  rintro e w3 ⟨rfl, hps3, hg30⟩
  have hg3 : Go1 p W5 w3 := (Go1.of hA3).trans hg30
  have hsb3 := hsb.go hg3
  have hsz3 : (s1.need 1 ⟨#[115, 101, 116]⟩).size ≤ 900000 := Nat.le_trans (size_need _ _ _) (by omega)
  have HST : Hid (UpRel p 900000 w R0 S0 n R (.bool true) w3) := hid ⟨true, .slice none 0 0, .slice none 0 0, rfl, hsb3, SqRel.start ⟨KL.nil, KL.nil⟩ hps3 hsz3 HR.out⟩
  have SzR : Hid (R.2.size ≤ 900000) := hid (by rw [← HR.out]; exact Nat.le_trans (ni_sep ni_setS _) hsz3)
  clear hsb hps hA3 hps3 hg30 hg3 hsb3 hsz3 HR
  go_wp2_with fail
  go_loopw [4] (fun s4 wr => UpRel p 900000 w R0 S0 n R s4 wr) (fun s4 wr => mB s4 (lenAt p wr))
  · exact HST.out
  · clear HST
    obtain ⟨b, v1, v2, rfl, hsb, hsq⟩ := hrel
    cases b with
    | false =>
      obtain ⟨ys, hL, hps, hyg, hlen⟩ := hsq.no
      clear hsq
      obtain ⟨sa, rfl, hka, _⟩ := hL.1.at kStr_ok (by simp; omega)
      obtain ⟨sb, rfl, hkb, _⟩ := hL.2.at kX_ok (by simp; omega)
      have hsb8 : SB p w R0 S0 (SR.cs { kind := 6, table := n, columns := sa, sets := sb }) wr := hsb
      have hxa := hka.mono kStr_ok (S' := Ab (S0 + 1)) (fun b _ hb => hb.1)
      have hxb := hkb.mono kX_ok (S' := Ab (S0 + 1)) (fun b _ hb => hb.1)
      have HRs : R.2.size ≤ 1000000 := by
        have := SzR.out
        omega
      go_wp2_with fail
      refine (clause_any p ⟨#[119, 104, 101, 114, 101]⟩ R.2 _ hps HRs).mono ?_
      rintro e w4 ⟨u, rfl, rx, x, rfl, hx, hps4, hg4, hgd⟩
      rw [HC.out] at hps4 hgd
      have hsb4 := hsb8.go hg4
      have hxa4 := hxa.of kStr_ok hg4.size (fun b hb hl => hg4.get hl (by have : S0 + 1 ≤ b := hb; omega))
      have hxb4 := hxb.of kX_ok hg4.size (fun b hb hl => hg4.get hl (by have : S0 + 1 ≤ b := hb; omega))
      have hwl := hsb8.lt
      have hx4 : StmAt (Ab (S0 + 1)) w4 { kind := 6, table := n, columns := ys.map Prod.fst, sets := ys.map Prod.snd, wher := x } { kind := 6, table := n, columns := sa, sets := sb, wher := rx } := { (StmAt.zero (S := Ab (S0 + 1)) (w := w4)) with kind := rfl, table := rfl, columns := hxa4, sets := hxb4, wher := hx.mono (fun b _ hb => by have : wr.heap.size ≤ b := hb; show S0 + 1 ≤ b; omega) }
      have hq4 : C.2.good = true → ({ kind := 6, table := n, columns := ys.map Prod.fst, sets := ys.map Prod.snd, wher := x } : Stm) = { kind := 6, table := n, columns := R.1.map Prod.fst, sets := R.1.map Prod.snd, wher := C.1 } := fun h => by
        have h1 : (clauseS ⟨#[119, 104, 101, 114, 101]⟩ R.2).2.good = true := by rw [HC.out]; exact h
        rw [hyg (kb_good (kb_clauseS _) h1), hgd h]
      have H4 : Hid (∀ W, W.heap[S0]? = some (.cells (SR.cs { kind := 6, table := n, columns := sa, sets := sb, wher := rx }).toArray 35 (0, 0)) → Go1 S0 w4 W → SB p w R0 S0 (SR.cs { kind := 6, table := n, columns := sa, sets := sb, wher := rx }) W ∧ StmAt (Ab (S0 + 1)) W { kind := 6, table := n, columns := ys.map Prod.fst, sets := ys.map Prod.snd, wher := x } { kind := 6, table := n, columns := sa, sets := sb, wher := rx } ∧ PS p W C.2) := hid (fun W hW gW => ⟨hsb4.part hW gW, hx4.of gW.size (fun b hb hl => gW.get hl (by have : S0 + 1 ≤ b := hb; omega)), hps4.go gW hpS⟩)
      have HX4 := hid hsb4.s
      have HQ4 := hid hq4
      clear hsb hL hps hyg hka hkb hsb8 hxa hxb hx hps4 hg4 hgd hsb4 hxa4 hxb4 hx4 hq4 HC SzR
      unfold XR.val
      go_upto_region 10 with (guard_target =~ wpList _ _ _ (Oper.mk _ (Op.store 32 _ _) _ _ _ _ :: _) _ _; refine st_part (ty := 32) rfl rfl S0 13 (xF rx).toArray rfl rfl 35 _ HX4.out (by kernel_rfl) (by rw [SR.len]; show 13 + 12 ≤ 41; decide) (by kernel_rfl) ?_; intro WA hWA gWA; rw [show (xF rx).toArray.toList = xF rx from rfl, put_where] at hWA; have HQW := hid (H4.out WA hWA gWA); clear hWA gWA H4 HX4)
      obtain ⟨hsb9, hx9, hps9⟩ := HQW.out
      have hq9 := HQ4.out
      clear HQW
      have HX := hid hsb9.s
      have HZ := hid hsb9.z
      have FI : Hid (∀ W9, Go1 R0 _ W9 → Rst p w ({ kind := 6, table := n, columns := R.1.map Prod.fst, sets := R.1.map Prod.snd, wher := C.1 }, C.2) (SR.val { kind := 6, table := n, columns := sa, sets := sb, wher := rx }) W9) := hid (fun W9 h9 => hsb9.give hx9 hps9 hq9 h9)
      clear hsb9 hx9 hps9
      go_wp2_with (first | (guard_target =~ wpList _ _ _ (Oper.mk _ (Op.load 35 _) _ _ _ _ :: _) _ _; refine wpList_load_row rfl 35 _ rfl S0 rfl 35 (SR.cs { kind := 6, table := n, columns := sa, sets := sb, wher := rx }).toArray (0, 0) _ HX.out Try.underlying35 rfl (by kernel_rfl) ?_) | (guard_target =~ wpList _ _ _ (Oper.mk _ (Op.store 35 _ _) _ _ _ _ :: _) _ _; refine st_row (ty := 35) rfl rfl R0 (SR.cs { kind := 6, table := n, columns := sa, sets := sb, wher := rx }).toArray rfl rfl 35 _ HZ.out (by kernel_rfl) rfl (by kernel_rfl) ?_; intro W9 hW9 gW9 zW9))
      (try change bodyPost _ _ _ _ _ _)
      refine bodyPost_ret (v := SR.val { kind := 6, table := n, columns := sa, sets := sb, wher := rx }) (results_cell_row (g := R0) rfl _ _ _ _ _ _ rfl hW9 Try.underlying35 rfl (by kernel_rfl)) rfl ?_
      exact ⟨_, rfl, FI.out W9 gW9⟩
    | true =>
      obtain ⟨ys, s, m, hL, hps, hR, hm, hN⟩ := hsq.yes
      clear hsq HC SzR
      have HLA : Hid (mB (.bool true) (lenAt p wr) = s.size + 1) := hid (by show lenAt p wr + 1 = _; rw [lenAt_ps hps])
      obtain ⟨nm, hnm⟩ : ∃ nm, s.name.1 = nm := ⟨_, rfl⟩
      obtain ⟨s2, hs2⟩ : ∃ s2, s.name.2 = s2 := ⟨_, rfl⟩
      have hz2 : s2.size ≤ s.size := by rw [← hs2]; exact size_name _
      obtain ⟨q, hq⟩ : ∃ q, exprS (s2.need 4 ⟨#[61]⟩) = q := ⟨_, rfl⟩
      have HSE : Hid (setS s = ((nm, q.1), q.2)) := hid (by unfold setS; simp only [hnm, hs2, hq])
      have hNM : s.name = (nm, s2) := by rw [← hnm, ← hs2]
      have hlt := hsb.lt
      have HH : Hid (PuH kStr p w R0 S0 6 (fun b => S0 + 1 ≤ b ∧ v2.ownBlock ≠ some b) ((SR.cs { kind := 6, table := n }).set 8 v2) v1 (ys.map Prod.fst) wr) := hid ⟨hsb, hL.1, fun b hb => hb.1, fun b hb => ⟨by omega, fun e => by have := (hL.2.blk e).2; omega⟩, by rw [List.length_set, SR.len]; decide, by simp; omega⟩
      have HCL : Hid (∀ W0, Gr wr W0 → Calls Try.prog 29 #[.pointer (some ⟨p, 0, none⟩)] W0 fun e W => ∃ u, e = .returned u ∧ RK kStr .string p (nm, s2) W0 u W) := hid (fun W0 h => (pname_any p s W0 (hps.keep h)).mono fun e W h => by rw [← hNM]; exact RK.name h)
      have HL2 := hid hL.2
      have HR2 := hid hR
      clear hsb hL hps hR hlt hnm hs2 hNM
      go_wp2_with fail
      refine Rg.region_chain 7 [3, 4, 5] [(1, 5)] (PuSH HH.out (.string) (nm, s2) 3) [some (.pointer (some ⟨S0, 6, none⟩)), some v1, some (.pointer (some ⟨p, 0, none⟩)), none, none, none, some (.pointer (some ⟨S0, 6, none⟩))]
        (fun _ => PuS.s0 ((Gr.refl _).drew)) (by kernel_rfl) (by kernel_rfl) (by kernel_rfl) (by kernel_rfl) (fun _ _ d _ _ h => by cases d <;> exact h) ?_
      intro OPS _ vx
      simp only [List.take_succ_cons, List.take_zero, Rg.wpC, Rg.wpS, Option.getD_some, Option.getD_none, Act.put, List.setIfInBounds_toArray, List.set_cons_zero, List.set_cons_succ, show List.contains [3, 4, 5] 0 = false from rfl, show List.contains [3, 4, 5] 1 = false from rfl, show List.contains [3, 4, 5] 2 = false from rfl, show List.contains [3, 4, 5] 3 = true from rfl, show List.contains [3, 4, 5] 4 = true from rfl, show List.contains [3, 4, 5] 5 = true from rfl, show List.contains [3, 4, 5] 6 = false from rfl, Bool.false_eq_true, if_false, if_true, Nat.reduceAdd]
      refine ⟨?_, ?_, ?_, ?_, ?_, ?_, ?_, ?_⟩
      · refine sc_still (by rfl) (by rfl) (fun s' W _ hS => ?_)
        clear hS
        go_simp
      · refine sc_still (by rfl) (by rfl) (fun s' W hlim hS => ?_)
        have hs2 : s' ≤ 2 := hlim 5 (by simp)
        have kc := PuS.cell HH.out hs2 hS
        clear hS
        go_simp
      · refine sc_still (by rfl) (by rfl) (fun s' W _ hS => ?_)
        clear hS
        go_simp
      · refine sc_new (by rfl) (by rfl) (fun W hS => ?_)
        have hg : Gr wr W := hS
        go_simp
        refine (HCL.out W hg).mono ?_
        rintro e w' ⟨u, rfl, hu⟩
        exact ⟨u, rfl, PuS.call hS hu⟩
      · refine sc_new (by rfl) (by rfl) (fun W hS => ?_)
        obtain ⟨rr, hv, hb⟩ := PuS.g1 hS
        have HB := hid hb
        clear hS hb
        rw [hv]
        clear hv
        go_simp
        exact HB.out _ rfl
      · refine sc_new (by rfl) (by rfl) (fun W hS => ?_)
        obtain ⟨v2, v', W', e2, hrun, hS'⟩ := PuS.append kStr_ok kt_str 24 HH.out hS
        exact brings_append (.tmp 15) (.tmp 18) 24 rfl rfl e2 hrun hS'
      · refine sc_still (by rfl) (by rfl) (fun s' W _ hS => ?_)
        clear hS
        go_simp
      intro W9 hS9
      obtain ⟨g9, m9, c9, y9, hv9, k9, kf9, hy9, hsb9, hkl9, hps9, hkp9, hmv9⟩ := PuS.g3 hS9
      clear hS9
      generalize vx 3 = vx3 at *
      generalize vx 4 = vx4 at *
      generalize vx (3 + 2) = vx5 at *
      try (generalize vx 5 = vx5 at *)
      subst hv9
      simp only [List.drop_succ_cons, List.drop_zero]
      have HL2b := hid (HL2.out.aside kX_ok hkp9 hmv9 (by omega) (by omega))
      have HSB9 := hid hsb9
      have HKL9 := hid hkl9
      have HPS9 := hid hps9
      clear hsb9 hkl9 hps9 hkp9 hmv9 HCL HL2 HH
      have HYA : Hid (s2.good = true → y9 = nm) := hid hy9
      clear hy9
      generalize y9 = ya at *
      go_wp2_with fail
      clear k9 kf9
      obtain ⟨v1', hv1'⟩ : ∃ v, Value.slice (some ⟨g9, 0, none⟩) m9 c9 = v := ⟨_, rfl⟩
      rw [hv1'] at HSB9 HKL9 HPS9 HL2b
      rw [hv1']
      clear hv1'
      generalize World.setCell W9 _ _ = wx at *
      refine (must_any p ⟨#[61]⟩ s2 _ HPS9.out).mono ?_
      rintro e wy ⟨rfl, hpsy, hgy⟩
      have hsby := HSB9.out.go hgy
      have hkly := HKL9.out.aside_go kStr_ok hgy (by omega)
      have hkl2 := HL2b.out.aside_go kX_ok hgy (by omega)
      have hlt := hsby.lt
      rw [set68] at hsby
      have HHX : Hid (PuH kX p w R0 S0 8 (fun b => S0 + 1 ≤ b ∧ v1'.ownBlock ≠ some b) ((SR.cs { kind := 6, table := n }).set 6 v1') v2 (ys.map Prod.snd) wy) := hid ⟨hsby, hkl2, fun b hb => hb.1, fun b hb => ⟨by omega, fun e => by have := (hkly.blk e).2; omega⟩, by rw [List.length_set, SR.len]; decide, by simp; omega⟩
      have HCX : Hid (∀ W0, Gr wy W0 → Calls Try.prog 18 #[.pointer (some ⟨p, 0, none⟩)] W0 fun e W => ∃ u, e = .returned u ∧ RK kX XR.val p q W0 u W) := hid (fun W0 h => (expr_any p 1000000 (Nat.le_refl _) _ W0 (hpsy.keep h) (Nat.le_trans (size_need _ _ _) (by omega))).mono fun e W h => RK.form (by rw [← hq]; exact h))
      have HKLY := hid hkly
      clear HSB9 HKL9 HPS9 HL2b hpsy hgy hsby hkly hkl2 hlt
      have HGQ : Hid (q.2.good = true → s2.good = true) := hid (fun h => by rw [← hq] at h; exact kneed_good (kb_good kb_exprS h))
      clear hq
      go_wp2_with fail
      refine Rg.region_chain 7 [3, 4, 5] [(1, 5)] (PuSH HHX.out (XR.val) q 3) [some (.pointer (some ⟨S0, 8, none⟩)), some v2, some (.pointer (some ⟨p, 0, none⟩)), none, none, none, some (.pointer (some ⟨S0, 8, none⟩))]
        (fun _ => PuS.s0 ((Gr.refl _).drew)) (by kernel_rfl) (by kernel_rfl) (by kernel_rfl) (by kernel_rfl) (fun _ _ d _ _ h => by cases d <;> exact h) ?_
      intro OPS _ vx
      simp only [List.take_succ_cons, List.take_zero, Rg.wpC, Rg.wpS, Option.getD_some, Option.getD_none, Act.put, List.setIfInBounds_toArray, List.set_cons_zero, List.set_cons_succ, show List.contains [3, 4, 5] 0 = false from rfl, show List.contains [3, 4, 5] 1 = false from rfl, show List.contains [3, 4, 5] 2 = false from rfl, show List.contains [3, 4, 5] 3 = true from rfl, show List.contains [3, 4, 5] 4 = true from rfl, show List.contains [3, 4, 5] 5 = true from rfl, show List.contains [3, 4, 5] 6 = false from rfl, Bool.false_eq_true, if_false, if_true, Nat.reduceAdd]
      refine ⟨?_, ?_, ?_, ?_, ?_, ?_, ?_, ?_⟩
      · refine sc_still (by rfl) (by rfl) (fun s' W _ hS => ?_)
        clear hS
        go_simp
      · refine sc_still (by rfl) (by rfl) (fun s' W hlim hS => ?_)
        have hs2 : s' ≤ 2 := hlim 5 (by simp)
        have kc := PuS.cell HHX.out hs2 hS
        clear hS
        go_simp
      · refine sc_still (by rfl) (by rfl) (fun s' W _ hS => ?_)
        clear hS
        go_simp
      · refine sc_new (by rfl) (by rfl) (fun W hS => ?_)
        have hg : Gr wy W := hS
        go_simp
        refine (HCX.out W hg).mono ?_
        rintro e w' ⟨u, rfl, hu⟩
        exact ⟨u, rfl, PuS.call hS hu⟩
      · refine sc_new (by rfl) (by rfl) (fun W hS => ?_)
        obtain ⟨rr, hv, hb⟩ := PuS.g1 hS
        have HB := hid hb
        clear hS hb
        unfold XR.val at hv
        rw [hv]
        clear hv
        go_simp
        exact HB.out _ rfl
      · refine sc_new (by rfl) (by rfl) (fun W hS => ?_)
        obtain ⟨v2, v', W', e2, hrun, hS'⟩ := PuS.append kX_ok kt_x 26 HHX.out hS
        exact brings_append (.tmp 24) (.tmp 27) 26 rfl rfl e2 hrun hS'
      · refine sc_still (by rfl) (by rfl) (fun s' W _ hS => ?_)
        clear hS
        go_simp
      intro W9 hS9
      obtain ⟨g9, m9, c9, y9, hv9, k9, kf9, hy9, hsb9, hkl9, hps9, hkp9, hmv9⟩ := PuS.g3 hS9
      clear hS9
      generalize vx 3 = vx3 at *
      generalize vx 4 = vx4 at *
      generalize vx (3 + 2) = vx5 at *
      try (generalize vx 5 = vx5 at *)
      subst hv9
      simp only [List.drop_succ_cons, List.drop_zero]
      have HK1 := hid (HKLY.out.aside kStr_ok hkp9 hmv9 (by omega) (by omega))
      have HSB9 := hid hsb9
      have HKL9 := hid hkl9
      have HPS9 := hid hps9
      clear hsb9 hkl9 hps9 hkp9 hmv9 HCX HKLY HHX
      go_wp2_with fail
      clear k9 kf9
      generalize World.setCell W9 _ _ = wx at *
      refine (sign_any' p ⟨#[44]⟩ _ _ HPS9.out).mono ?_
      rintro e wz ⟨rfl, hpsz, hgz⟩
      have hsbz := HSB9.out.go hgz
      rw [← set68] at hsbz
      have hk1z := HK1.out.aside_go kStr_ok hgz (by omega)
      have hk2z := HKL9.out.aside_go kX_ok hgz (by omega)
      have hLz : UpL S0 v1' (.slice (some ⟨g9, 0, none⟩) m9 c9) (ys ++ [(ya, y9)]) wz := ⟨by rw [List.map_append]; exact hk1z, by rw [List.map_append]; exact hk2z⟩
      have hnx := SqRel.next (q := setS) (s := s) (y := (ya, y9)) ni_setS hLz (by rw [HSE.out]; exact hpsz) HR2.out hm hN (fun h => by rw [HSE.out] at h ⊢; rw [hy9 h, HYA.out (HGQ.out h)])
      rw [HSE.out] at hnx
      have HNX := hid hnx
      have HSBZ := hid hsbz
      clear hpsz hgz hsbz hk1z hk2z hLz hnx HR2 HSB9 HKL9 HPS9 HK1 hy9 HSE
      generalize q.2.is 4 ⟨#[44]⟩ = b9 at *
      go_wp2
      exact ⟨⟨b9, _, _, rfl, HSBZ.out, HNX.out.1⟩, by rw [HLA.out]; exact HNX.out.2⟩
end Go.Proofs.Ytaogpifcfmjcbaa
end
section
namespace Go.Proofs.Ytaogpifcfmjcbaa
open Go.RowKit
set_option linter.unusedSimpArgs false
set_option linter.unusedVariables false
attribute [local go_sem] Rg.leads_value Rg.leads_skip Rg.leads_enter Rg.brings_value Rg.brings_skip Rg.brings_enter Rg.bringsG_value Rg.bringsG_enter Rg.once_normal Rg.once_exit Rg.once_ret Rg.once_panic Rg.once_goto Rg.bringsS_value Rg.bringsS_skip Rg.bringsS_enter Rg.still_value Rg.still_skip Rg.still_enter
def zI : List Value := itF ⟨false, ⟨{ op := 0 }, none, 0, 0⟩, ⟨#[]⟩, ⟨#[]⟩⟩
def ItRel (p N : Nat) (w : World) (R : List ItemS × Ps) (s2 s3 : Value) (wr : World) : Prop := ∃ b, s3 = .bool b ∧ Go1 p w wr ∧ SpRel kItem itemS p N (Ab w.heap.size) R b s2 wr
set_option maxHeartbeats 32000000 in
set_option maxRecDepth 100000 in
theorem items_any (p : Nat) (s : Ps) (w : World) (hS : PS p w s) (hs : s.size ≤ 900000) : Calls Try.prog 59 #[.pointer (some ⟨p, 0, none⟩)] w (fun e w' => ∃ u, e = .returned u ∧ RkL kItem p w (itemsS s) u w') := by
  have hpw := hS.lt
  obtain ⟨Q0, hQ0⟩ : ∃ Q0, itemsS s = Q0 := ⟨_, rfl⟩
  rw [hQ0]
  have HQ0' := hid hQ0
  clear hQ0
  go_enter Try.func59, Try.ntmps59
  go_wp2_with fail
  refine (sign_any' p ⟨#[42]⟩ s _ hS).mono ?_
  rintro e w1 ⟨rfl, hps1, hg1⟩
  have z1 := hg1.size
  cases hB : s.is 4 ⟨#[42]⟩ with
  | true =>
    have eT : itemsS s = ([{ star := true, e := noEx }], s.step) := by unfold itemsS; rw [hB]; rfl
    rw [may_y hB] at hps1
    have hA := (Gr.refl w1).alloc (.cells (itF ⟨true, ⟨{ op := 0 }, none, 0, 0⟩, ⟨#[]⟩, ⟨#[]⟩⟩).toArray 84)
    have FI : Hid (RkL kItem p w Q0 (.slice (some ⟨w1.heap.size, 0, none⟩) 1 1) (w1.alloc (.cells (itF ⟨true, ⟨{ op := 0 }, none, 0, 0⟩, ⟨#[]⟩, ⟨#[]⟩⟩).toArray 84))) := hid (by rw [← HQ0'.out, eT]; exact ⟨⟨_, 1, 1⟩, _, rfl, ks_one kItem_ok (r := ⟨true, ⟨{ op := 0 }, none, 0, 0⟩, ⟨#[]⟩, ⟨#[]⟩⟩) (alloc_at _ _) rfl z1 ⟨rfl, rfl, rfl, noEx_at⟩, hps1.keep hA, hg1.block2 hA, fun _ => rfl⟩)
    clear hps1 hg1 hS eT hA
    go_wp2
    go_ret
    exact ⟨_, rfl, FI.out⟩
  | false =>
    obtain ⟨R, hR⟩ : ∃ R, sep itemS s = R := ⟨_, rfl⟩
    have eT : itemsS s = R := by unfold itemsS; rw [hB, ← hR]; rfl
    have hRQ : R = Q0 := by rw [← HQ0'.out, eT]
    subst hRQ
    rw [may_n hB] at hps1
    have HST : Hid (ItRel p 900000 w R (.slice none 0 0) (.bool true) w1) := hid ⟨true, rfl, hg1, SpRel.start hps1 hs hR⟩
    clear hps1 hg1 hS eT hR hB z1 HQ0'
    go_wp2_with fail
    go_loopw [2, 3] (fun s2 s3 wr => ItRel p 900000 w R s2 s3 wr) (fun _ s3 wr => mB s3 (lenAt p wr))
    · exact HST.out
    · clear HST
      obtain ⟨b, rfl, hgo, hsp⟩ := hrel
      cases b with
      | false =>
        obtain ⟨ys, hL, hps, hyg, hlen⟩ := hsp.no
        clear hsp
        obtain ⟨sl, rfl, hks, _⟩ := hL.at kItem_ok (by omega)
        have FI : Hid (RkL kItem p w R sl.val wr) := hid ⟨sl, ys, rfl, hks, hps, hgo, hyg⟩
        clear hL hps hyg hks hgo
        go_wp2
        go_ret
        exact ⟨_, rfl, FI.out⟩
      | true =>
        obtain ⟨ys, s, m, hL, hps, hR, hm, hN⟩ := hsp.yes
        clear hsp
        have HLA : Hid (mB (.bool true) (lenAt p wr) = s.size + 1) := hid (by show lenAt p wr + 1 = _; rw [lenAt_ps hps])
        go_wp2_with fail
        refine (expr_any p 1000000 (Nat.le_refl _) s _ hps (by omega)).mono ?_
        rintro e w2 ⟨u, rfl, rx, x, rfl, hx, hps2, hg2, hgd⟩
        obtain ⟨q, hq⟩ : ∃ q, exprS s = q := ⟨_, rfl⟩
        rw [hq] at hps2 hgd
        have hL2 := hL.go kItem_ok hg2 (ab_no hpw)
        have hgo2 := hgo.trans hg2
        have hp2 : p < w2.heap.size := by have := hgo2.size; omega
        have hx0 : Ex.At (fun b => Ab w.heap.size b ∧ u2.ownBlock ≠ some b) w2 x rx := hx.mono (fun b _ hb => by
          have hb : wr.heap.size ≤ b := hb
          have := hgo.size
          exact ⟨by show w.heap.size ≤ b; omega, fun e => by have := (hL.blk e).2; omega⟩)
        have HX0 : Hid (∀ W5, W5.heap[w2.heap.size]? = some (.cells (itF ⟨false, rx, ⟨#[]⟩, ⟨#[]⟩⟩).toArray 84 (0, 0)) → Go1 w2.heap.size (w2.alloc (.cells zI.toArray 84)) W5 → XB p w2 84 (itF ⟨false, rx, ⟨#[]⟩, ⟨#[]⟩⟩) q.2 W5) := hid (fun W5 a b => XB.start hp2 hps2 a b)
        have HA : Hid ((w2.alloc (.cells zI.toArray 84)).heap[w2.heap.size]? = some (.cells zI.toArray 84 (0, 0))) := hid (alloc_at _ _)
        have HL := hid hL2
        have HX := hid hx0
        have HGO := hid hgo2
        have HR2 := hid hR
        have HGD := hid hgd
        have HZ : Hid (w.heap.size ≤ w2.heap.size) := hid hgo2.size
        clear hL hps hps2 hg2 hL2 hx hx0 hgo hgo2 hR hgd
        unfold XR.val
        go_wp2_with (guard_target =~ wpList _ _ _ (Oper.mk _ (Op.store 84 _ _) _ _ _ _ :: _) _ _; refine st_row (ty := 84) rfl rfl w2.heap.size (itF ⟨false, rx, ⟨#[]⟩, ⟨#[]⟩⟩).toArray rfl rfl 84 _ (HA.out) (by kernel_rfl) rfl (by kernel_rfl) ?_; intro W5 hW5 gW5 zW5; have HQ := hid (HX0.out W5 hW5 gW5); clear hW5 gW5 zW5 HX0 HA)
        have hx5 := HQ.out
        clear HQ
        refine (word_any p ⟨#[97, 115]⟩ q.2 _ hx5.ps).mono ?_
        rintro e w6 ⟨rfl, hps6, hg6⟩
        have hx6 := hx5.go hps6 hg6
        clear hx5 hps6 hg6
        cases hA : q.2.is 1 ⟨#[97, 115]⟩ with
        | false =>
          rw [may_n hA] at hx6
          have HQ0 : Hid (itemS s = ({ e := q.1, as_ := ⟨#[]⟩ }, q.2)) := hid (by unfold itemS; simp only [hq, hA, Bool.false_eq_true, if_false])
          have HGQ : Hid (q.2.good = true → q.2.good = true) := hid id
          clear hA hq
          have hxz := hx6
          clear hx6
          generalize w6 = wz at *
          have kc := Rg.blk_cells hxz.x
          simp only [itF, xF, List.cons_append, List.nil_append] at kc
          have hLz := HL.out.go kItem_ok hxz.g (ab_no hpw)
          have hxe := HX.out.of hxz.g.size (fun b hb hl => hxz.g.get hl (by have : w.heap.size ≤ b := hb.1; omega))
          obtain ⟨v', wy, hrun, hLy, hpsy, hgoy⟩ := KL.pushA kItem_ok kt_item 27 (y := { e := x, as_ := ⟨#[]⟩ }) (r := ⟨false, rx, ⟨#[]⟩, ⟨#[]⟩⟩) (cl := #[.bool false, .int .i64 rx.h.op, .int .i64 rx.h.v.t, .int .i64 rx.h.v.n, .string rx.h.v.s, .bool rx.h.v.b, .string rx.h.tab, .string rx.h.name, .int .i64 rx.h.t, .int .i64 rx.h.c, .bool rx.h.nt, .bool rx.h.st, .slice rx.oa rx.n rx.cap, .string ⟨#[]⟩, .string ⟨#[]⟩]) hpw (fun b h => h) (fun b h => by show w.heap.size ≤ b; have := hxz.g.size; have := HZ.out; omega) hLz (by omega) hxz.ps (HGO.out.trans hxz.g) ⟨rfl, rfl, rfl, hxe⟩ rfl
          have HRUN := hid hrun
          have HLY := hid hLy
          have HPSY := hid hpsy
          have HGOY := hid hgoy
          clear hLz hrun hLy hpsy hgoy hxz hxe HL HX HGO HZ
          go_wp2_with (at_builtin; refine Lib.wpList_append_run _ rfl _ _ _ _ rfl _ _ rfl rfl _ _ HRUN.out ?_)
          refine (sign_any' p ⟨#[44]⟩ q.2 _ HPSY.out).mono ?_
          rintro e w9 ⟨rfl, hps9, hg9⟩
          have hL9 := HLY.out.go kItem_ok hg9 (ab_no hpw)
          have hnx := SpRel.next (q := itemS) (s := s) (y := { e := x, as_ := ⟨#[]⟩ }) ni_itemS hL9 (by rw [HQ0.out]; exact hps9) HR2.out hm hN (fun h => by rw [HQ0.out] at h ⊢; rw [HGD.out (HGQ.out h)])
          rw [HQ0.out] at hnx
          have HNX := hid hnx
          have HGO9 := hid (HGOY.out.trans hg9)
          clear hL9 hnx hps9 hg9 HRUN HLY HPSY HGOY HR2 HQ0 HGD HGQ kc
          generalize q.2.is 4 ⟨#[44]⟩ = b9 at *
          go_wp2
          exact ⟨⟨b9, rfl, HGO9.out, HNX.out.1⟩, by rw [HLA.out]; exact HNX.out.2⟩
        | true =>
          rw [may_y hA] at hx6
          obtain ⟨a, ha⟩ : ∃ a, q.2.step.name.1 = a := ⟨_, rfl⟩
          obtain ⟨t5, ht5⟩ : ∃ t5, q.2.step.name.2 = t5 := ⟨_, rfl⟩
          have HQ0 : Hid (itemS s = ({ e := q.1, as_ := a }, t5)) := hid (by unfold itemS; simp only [hq, hA, if_true, ha, ht5])
          have HGQ : Hid (t5.good = true → q.2.good = true) := hid (fun h => by rw [← ht5] at h; exact step_good (kb_good kb_name h))
          clear hA hq
          go_wp2_with fail
          refine (pname_any p q.2.step _ hx6.ps).mono ?_
          rintro e w7 ⟨rfl, hps7, hg7⟩
          rw [ha]
          rw [ht5] at hps7
          have hx7 := hx6.go hps7 hg7
          clear hx6 hps7 hg7 ha ht5
          have k13 : w7.cell? ⟨w2.heap.size, 13, none⟩ = some (.string ⟨#[]⟩) := hx7.cell 13
          have kf := Rg.blk_free hx7.x
          have hx8 : XB p w2 84 (itF ⟨false, rx, a, ⟨#[]⟩⟩) t5 (w7.setCell ⟨w2.heap.size, 13, none⟩ (.string a)) := hx7.set 13 (.string a)
          clear hx7
          go_upto_region 9 with fail
          clear k13 kf
          generalize World.setCell w7 _ _ = wz at *
          have hxz := hx8
          clear hx8
          have kc := Rg.blk_cells hxz.x
          simp only [itF, xF, List.cons_append, List.nil_append] at kc
          have hLz := HL.out.go kItem_ok hxz.g (ab_no hpw)
          have hxe := HX.out.of hxz.g.size (fun b hb hl => hxz.g.get hl (by have : w.heap.size ≤ b := hb.1; omega))
          obtain ⟨v', wy, hrun, hLy, hpsy, hgoy⟩ := KL.pushA kItem_ok kt_item 27 (y := { e := x, as_ := a }) (r := ⟨false, rx, a, ⟨#[]⟩⟩) (cl := #[.bool false, .int .i64 rx.h.op, .int .i64 rx.h.v.t, .int .i64 rx.h.v.n, .string rx.h.v.s, .bool rx.h.v.b, .string rx.h.tab, .string rx.h.name, .int .i64 rx.h.t, .int .i64 rx.h.c, .bool rx.h.nt, .bool rx.h.st, .slice rx.oa rx.n rx.cap, .string a, .string ⟨#[]⟩]) hpw (fun b h => h) (fun b h => by show w.heap.size ≤ b; have := hxz.g.size; have := HZ.out; omega) hLz (by omega) hxz.ps (HGO.out.trans hxz.g) ⟨rfl, rfl, rfl, hxe⟩ rfl
          have HRUN := hid hrun
          have HLY := hid hLy
          have HPSY := hid hpsy
          have HGOY := hid hgoy
          clear hLz hrun hLy hpsy hgoy hxz hxe HL HX HGO HZ
          go_wp2_with (at_builtin; refine Lib.wpList_append_run _ rfl _ _ _ _ rfl _ _ rfl rfl _ _ HRUN.out ?_)
          refine (sign_any' p ⟨#[44]⟩ t5 _ HPSY.out).mono ?_
          rintro e w9 ⟨rfl, hps9, hg9⟩
          have hL9 := HLY.out.go kItem_ok hg9 (ab_no hpw)
          have hnx := SpRel.next (q := itemS) (s := s) (y := { e := x, as_ := a }) ni_itemS hL9 (by rw [HQ0.out]; exact hps9) HR2.out hm hN (fun h => by rw [HQ0.out] at h ⊢; rw [HGD.out (HGQ.out h)])
          rw [HQ0.out] at hnx
          have HNX := hid hnx
          have HGO9 := hid (HGOY.out.trans hg9)
          clear hL9 hnx hps9 hg9 HRUN HLY HPSY HGOY HR2 HQ0 HGD HGQ kc
          generalize t5.is 4 ⟨#[44]⟩ = b9 at *
          go_wp2
          exact ⟨⟨b9, rfl, HGO9.out, HNX.out.1⟩, by rw [HLA.out]; exact HNX.out.2⟩
end Go.Proofs.Ytaogpifcfmjcbaa
end
section
namespace Go.Proofs.Ytaogpifcfmjcbaa
open Go.RowKit
set_option linter.unusedSimpArgs false
set_option linter.unusedVariables false
attribute [local go_sem] Rg.leads_value Rg.leads_skip Rg.leads_enter Rg.brings_value Rg.brings_skip Rg.brings_enter Rg.bringsG_value Rg.bringsG_enter Rg.once_normal Rg.once_exit Rg.once_ret Rg.once_panic Rg.once_goto Rg.bringsS_value Rg.bringsS_skip Rg.bringsS_enter Rg.still_value Rg.still_skip Rg.still_enter
theorem rfv_ex (t a : ByteArray) : RfV t a = .agg #[.string t, .string a, .int .i64 0, .int .i64 0, .int .i64 0, .string ⟨#[]⟩, .bool false, .string ⟨#[]⟩, .string ⟨#[]⟩, .int .i64 0, .int .i64 0, .bool false, .bool false, .slice none 0 0] := rfl
theorem ref_on (s : Ps) : (refS s).1.on_ = noEx := by
  unfold refS
  simp only
  split
  · rfl
  · split <;> rfl
theorem word_1 (c : ByteArray) (s : Ps) : (s.word c).1 = s.is 1 c := by unfold Ps.word Ps.may; split <;> simp_all
theorem put_on (t a : ByteArray) (rx : XR) : putL (rfC t a) 2 (xF rx) = rF ⟨t, a, rx⟩ := rfl
theorem put_oe (rx : XR) (b : Bool) : (oF ⟨rx, false⟩).set 12 (.bool b) = oF ⟨rx, b⟩ := rfl
def zO : List Value := oF ⟨⟨{ op := 0 }, none, 0, 0⟩, false⟩
def OrRel (p N : Nat) (w : World) (R0 S0 B : Nat) (X : Stm) (r : SR) (s0 : Ps) (R : List OrdS × Ps) (s5 : Value) (wr : World) : Prop := ∃ b v, s5 = .bool b ∧ QF B p w R0 S0 38 v X r s0 wr ∧ SpRel kOrd ordS p N (Ab B) R b v wr
set_option maxHeartbeats 64000000 in
set_option maxRecDepth 100000 in
theorem query_any (p : Nat) (s : Ps) (w : World) (hS : PS p w s) (hs : s.size ≤ 900000) : Calls Try.prog 32 #[.pointer (some ⟨p, 0, none⟩)] w (Pst p w (queryS s)) := by
  have hpw := hS.lt
  have hG := fun o => (Gr.refl w).alloc o
  have hS0 := fun o => hS.keep (hG o)
  obtain ⟨xe, hxe⟩ : ∃ xe, s.word ⟨#[101, 120, 112, 108, 97, 105, 110]⟩ = xe := ⟨_, rfl⟩
  obtain ⟨s2, hs2⟩ : ∃ s2, xe.2.need 1 ⟨#[115, 101, 108, 101, 99, 116]⟩ = s2 := ⟨_, rfl⟩
  obtain ⟨xd, hxd⟩ : ∃ xd, s2.word ⟨#[100, 105, 115, 116, 105, 110, 99, 116]⟩ = xd := ⟨_, rfl⟩
  obtain ⟨I, hI⟩ : ∃ I, itemsS xd.2 = I := ⟨_, rfl⟩
  obtain ⟨s5, hs5⟩ : ∃ s5, I.2.need 1 ⟨#[102, 114, 111, 109]⟩ = s5 := ⟨_, rfl⟩
  obtain ⟨rf, hrf⟩ : ∃ rf, refS s5 = rf := ⟨_, rfl⟩
  obtain ⟨F, hF⟩ : ∃ F, joins rf.2.size [rf.1] rf.2 = F := ⟨_, rfl⟩
  obtain ⟨C, hC⟩ : ∃ C, clauseS ⟨#[119, 104, 101, 114, 101]⟩ F.2 = C := ⟨_, rfl⟩
  obtain ⟨G, hGr⟩ : ∃ G, groupS C.2 = G := ⟨_, rfl⟩
  obtain ⟨V, hV⟩ : ∃ V, clauseS ⟨#[104, 97, 118, 105, 110, 103]⟩ G.2 = V := ⟨_, rfl⟩
  obtain ⟨O, hO⟩ : ∃ O, orderS V.2 = O := ⟨_, rfl⟩
  obtain ⟨L, hL0⟩ : ∃ L, limitS O.2 = L := ⟨_, rfl⟩
  have eT : queryS s = ({ kind := 8, explain := xe.1, distinct := xd.1, limit := L.1.1, items := I.1, refs := F.1, wher := C.1, group := G.1, having := V.1, order := O.1, offset := L.1.2 }, L.2) := by
    unfold queryS fromS
    simp only [hxe, hs2, hxd, hI, hs5, hrf, hF, hC, hGr, hV, hO, hL0]
  rw [eT]
  have z1 : xe.2.size ≤ 900000 := by rw [← hxe]; exact Nat.le_trans (size_may _ _ _) hs
  have z2 : s2.size ≤ 900000 := by rw [← hs2]; exact Nat.le_trans (size_need _ _ _) z1
  have z3 : xd.2.size ≤ 900000 := by rw [← hxd]; exact Nat.le_trans (size_may _ _ _) z2
  have z4 : I.2.size ≤ 900000 := by rw [← hI]; exact Nat.le_trans (ni_itemsS _) z3
  have z5 : s5.size ≤ 900000 := by rw [← hs5]; exact Nat.le_trans (size_need _ _ _) z4
  have z6 : rf.2.size ≤ 900000 := by rw [← hrf]; exact Nat.le_trans (ni_refS _) z5
  have z7 : F.2.size ≤ 900000 := by rw [← hF]; exact Nat.le_trans (ni_joins _ _ _) z6
  have z8 : C.2.size ≤ 900000 := by rw [← hC]; exact Nat.le_trans (ni_clauseS _ _) z7
  have z9 : G.2.size ≤ 900000 := by rw [← hGr]; exact Nat.le_trans (ni_groupS _) z8
  have z10 : V.2.size ≤ 900000 := by rw [← hV]; exact Nat.le_trans (ni_clauseS _ _) z9
  have hon : rf.1.on_ = noEx := by rw [← hrf]; exact ref_on _
  have Z7 := hid z7
  have Z8 := hid z8
  have Z9 := hid z9
  have Z10 := hid z10
  have HI := hid hI
  have HF := hid hF
  have HC := hid hC
  have HGr := hid hGr
  have HV := hid hV
  have HO := hid hO
  have HLm := hid hL0
  have HON := hid hon
  have e1 : s.is 1 ⟨#[101, 120, 112, 108, 97, 105, 110]⟩ = xe.1 := by rw [← hxe, word_1]
  have e2 : (s.may 1 ⟨#[101, 120, 112, 108, 97, 105, 110]⟩).2 = xe.2 := by rw [← hxe]
  have e3 : s2.is 1 ⟨#[100, 105, 115, 116, 105, 110, 99, 116]⟩ = xd.1 := by rw [← hxd, word_1]
  have e4 : (s2.may 1 ⟨#[100, 105, 115, 116, 105, 110, 99, 116]⟩).2 = xd.2 := by rw [← hxd]
  have HE := hid e3
  have HE2 := hid e4
  have HRF := hid hrf
  have HS5 := hid hs5
  have Z5 := hid z5
  have Z6 := hid z6
  have Z3 := hid z3
  clear hI hF hC hGr hV hO hL0 eT z2 z4 z5 z6 z7 z8 z9 z10 hon hxe hxd hrf hs5 e3 e4
  go_enter Try.func32, Try.ntmps32
  go_wp2_with fail
  refine (word_any p ⟨#[101, 120, 112, 108, 97, 105, 110]⟩ s _ (hS0 _)).mono ?_
  rintro e w1 ⟨rfl, hps1, hg1⟩
  rw [e1]
  rw [e2] at hps1
  have y1 := hg1.size
  simp only [World.size_alloc] at y1
  have H1 : Hid (∀ W5, W5.heap[w1.heap.size]? = some (.cells (SR.cs { kind := 8, explain := xe.1, limit := -1 }).toArray 35 (0, 0)) → Go1 w1.heap.size (w1.alloc (.cells zeroS.toArray 35)) W5 → QB (Ab (w1.heap.size + 1)) p w w.heap.size w1.heap.size { kind := 8, explain := xe.1, limit := -1 } { kind := 8, explain := xe.1, limit := -1 } xe.2 W5) := hid (fun W5 hx h5 => ⟨SB.start hpw hg1 hx h5, (hps1.keep ((Gr.refl w1).alloc _)).go h5 (by omega), fun b hb => hb, { kind := 8, explain := xe.1, limit := -1 }, { (StmAt.zero (S := Ab (w1.heap.size + 1)) (w := W5)) with kind := rfl, explain := rfl, limit := rfl }, fun _ => rfl⟩)
  have HA : Hid ((w1.alloc (.cells zeroS.toArray 35)).heap[w1.heap.size]? = some (.cells zeroS.toArray 35 (0, 0))) := hid (alloc_at _ _)
  clear hps1 hg1 hS0 hG hS e1 e2
  go_wp2_with (guard_target =~ wpList _ _ _ (Oper.mk _ (Op.store 35 _ _) _ _ _ _ :: _) _ _; refine st_row (ty := 35) rfl rfl w1.heap.size (SR.cs { kind := 8, explain := xe.1, limit := -1 }).toArray rfl rfl 35 _ (HA.out) (by kernel_rfl) rfl (by kernel_rfl) ?_; intro W5 hW5 gW5 zW5; have HQ := hid (H1.out W5 hW5 gW5); clear hW5 gW5 zW5 H1 HA; generalize w1.heap.size = S0 at *)
  have hqb := HQ.out
  clear HQ
  have hpS : p < S0 := by omega
  generalize hR0 : w.heap.size = R0 at *
  have hA2 := (Gr.refl W5).alloc (.cells #[.string ⟨#[115, 101, 108, 101, 99, 116]⟩] 9)
  refine (words_one p _ ⟨#[115, 101, 108, 101, 99, 116]⟩ xe.2 _ (hqb.ps.keep hA2) (by rw [Rg.blk_cells (alloc_at _ _)]; rfl)).mono ?_
  rintro e w2 ⟨rfl, hps2, hg2⟩
  rw [hs2] at hps2
  have hqb2 := hqb.go hps2 ((Go1.of hA2).trans hg2) (fun h => by rw [← hs2] at h; exact kneed_good h)
  clear hqb hps2 hg2 hA2 hs2
  go_wp2_with fail
  refine (word_any p ⟨#[100, 105, 115, 116, 105, 110, 99, 116]⟩ s2 _ hqb2.ps).mono ?_
  rintro e w3 ⟨rfl, hps3, hg3⟩
  rw [HE.out]
  have hqb3 := hqb2.go hps3 hg3 may_good
  rw [HE2.out] at hqb3
  clear hqb2 hps3 hg3 HE HE2
  have k10 : w3.cell? ⟨S0, 10, none⟩ = some (.bool false) := hqb3.sb.cell 10
  have kf := Rg.blk_free hqb3.sb.s
  have hqb4 : QB (Ab (S0 + 1)) p w R0 S0 { kind := 8, explain := xe.1, distinct := xd.1, limit := -1 } { kind := 8, explain := xe.1, distinct := xd.1, limit := -1 } xd.2 (w3.setCell ⟨S0, 10, none⟩ (.bool xd.1)) := hqb3.dist xd.1
  clear hqb3
  go_wp2_with fail
  clear k10 kf
  generalize World.setCell w3 _ _ = w4 at *
  have hIg := kb_good (s := xd.2) kb_itemsS
  refine (items_any p xd.2 _ hqb4.ps Z3.out).mono ?_
  rintro e w5 ⟨u, rfl, si, ys, rfl, hks, hps5, hg5, hgd5⟩
  rw [HI.out] at hps5 hgd5 hIg
  have hl4 := hqb4.sb.lt
  have hqb5 := hqb4.go hps5 hg5 hIg
  have k11 : w5.cell? ⟨S0, 11, none⟩ = some (.slice none 0 0) := hqb5.sb.cell 11
  have kf := Rg.blk_free hqb5.sb.s
  have hqb6 : QB (Ab (S0 + 1)) p w R0 S0 { kind := 8, explain := xe.1, distinct := xd.1, limit := -1, items := I.1 } { kind := 8, explain := xe.1, distinct := xd.1, limit := -1, items := si } I.2 (w5.setCell ⟨S0, 11, none⟩ si.val) := hqb5.items (hks.mono kItem_ok (fun b _ hb => by have : w4.heap.size ≤ b := hb; show S0 + 1 ≤ b; omega)) hgd5
  clear hqb4 hqb5 hks hps5 hg5 hgd5 hIg HI hl4
  unfold Slc.val
  go_wp2_with fail
  clear k11 kf
  change Calls _ _ _ ((World.setCell w5 ⟨S0, 11, none⟩ si.val).alloc _) _
  have hz6 : w5.heap.size = (World.setCell w5 ⟨S0, 11, none⟩ si.val).heap.size := by simp
  generalize World.setCell w5 _ _ = w6 at *
  have hA6 := (Gr.refl w6).alloc (.cells #[.string ⟨#[102, 114, 111, 109]⟩] 9)
  refine (words_one p _ ⟨#[102, 114, 111, 109]⟩ I.2 _ (hqb6.ps.keep hA6) (by rw [Rg.blk_cells (alloc_at' _ _ _ hz6)]; rfl)).mono ?_
  rintro e w6b ⟨rfl, hps6, hg6⟩
  rw [HS5.out] at hps6
  have hqb7 := hqb6.go hps6 ((Go1.of hA6).trans hg6) (fun h => by rw [← HS5.out] at h; exact kneed_good h)
  clear hqb6 hps6 hg6 hA6 HS5 hz6
  go_wp2_with fail
  have hrg := kb_good (s := s5) kb_refS
  refine (ref_any p s5 _ hqb7.ps).mono ?_
  rintro e w7 ⟨rfl, hps7, hg7⟩
  rw [HRF.out] at hps7 hrg
  rw [HRF.out]
  have hqb8 := hqb7.go hps7 hg7 hrg
  clear hqb7 hps7 hg7 hrg HRF
  have hl7 := hqb8.sb.lt
  have k12 : ∀ o, (w7.alloc o).cell? ⟨S0, 12, none⟩ = some (.slice none 0 0) := fun o => (hqb8.sb.gr ((Gr.refl w7).alloc o)).cell 12
  have kf : ∀ o i, (w7.alloc o).frozen? ⟨S0, i, none⟩ = false := fun o => Rg.blk_free (hqb8.sb.gr ((Gr.refl w7).alloc o)).s
  obtain ⟨B, hB⟩ : ∃ B, w7.heap.size = B := ⟨_, rfl⟩
  have hSB : S0 + 1 ≤ B := by omega
  have HST : Hid (JoRel p 900001 w R0 S0 B { kind := 8, explain := xe.1, distinct := xd.1, limit := -1, items := I.1 } { kind := 8, explain := xe.1, distinct := xd.1, limit := -1, items := si } rf.2 F ((w7.alloc (.cells #[.string rf.1.tab, .string rf.1.al, .int .i64 0, .int .i64 0, .int .i64 0, .string ⟨#[]⟩, .bool false, .string ⟨#[]⟩, .string ⟨#[]⟩, .int .i64 0, .int .i64 0, .bool false, .bool false, .slice none 0 0] 81)).setCell ⟨S0, 12, none⟩ (.slice (some ⟨w7.heap.size, 0, none⟩) 1 1))) := hid (by
    have hA := (Gr.refl w7).alloc (.cells #[.string rf.1.tab, .string rf.1.al, .int .i64 0, .int .i64 0, .int .i64 0, .string ⟨#[]⟩, .bool false, .string ⟨#[]⟩, .string ⟨#[]⟩, .int .i64 0, .int .i64 0, .bool false, .bool false, .slice none 0 0] 81)
    have hg := Go1.set S0 12 (w7.alloc (.cells #[.string rf.1.tab, .string rf.1.al, .int .i64 0, .int .i64 0, .int .i64 0, .string ⟨#[]⟩, .bool false, .string ⟨#[]⟩, .string ⟨#[]⟩, .int .i64 0, .int .i64 0, .bool false, .bool false, .slice none 0 0] 81)) (.slice (some ⟨w7.heap.size, 0, none⟩) 1 1)
    have hf := ((QF.frame hqb8 (k := 12) (.slice none 0 0) rfl).go (.of hA)).set (.slice (some ⟨w7.heap.size, 0, none⟩) 1 1)
    refine ⟨.slice (some ⟨w7.heap.size, 0, none⟩) 1 1, [rf.1], [rf.1], rf.2, rf.2.size, (by rw [← hB]; exact hf), ?_, (hqb8.ps.keep hA).go hg hpS, fun _ => rfl, HF.out, Nat.le_refl _, by simp; have := Z6.out; omega, id⟩
    refine KL.set kRef_ok (KL.one kRef_ok (r := ⟨rf.1.tab, rf.1.al, zX⟩) rfl (by show B ≤ _; omega) ⟨rfl, rfl, ?_⟩) (ab_no (by omega))
    rw [HON.out]
    exact noEx_at)
  clear hqb8 HF HON Z6 Z5 Z3 z1 z3 hl7 hB
  rw [rfv_ex]
  go_wp2_with fail
  clear k12 kf
  go_loopw [] (fun wr => JoRel p 900001 w R0 S0 B { kind := 8, explain := xe.1, distinct := xd.1, limit := -1, items := I.1 } { kind := 8, explain := xe.1, distinct := xd.1, limit := -1, items := si } rf.2 F wr) (fun wr => lenAt p wr)
  · exact HST.out
  · clear HST
    obtain ⟨v, ys, l0, sj, n, hqf, hL, hps, hyl, hR, hsn, hN, hsg⟩ := hrel
    go_wp2_with fail
    refine (is1_any p ⟨#[105, 110, 110, 101, 114]⟩ sj _ hps).mono ?_
    rintro e w' ⟨rfl, hw⟩
    rw [hw]
    clear hw w'
    cases hIn : sj.is 1 ⟨#[105, 110, 110, 101, 114]⟩ with
    | true =>
      have hc : (sj.is 1 ⟨#[105, 110, 110, 101, 114]⟩ || sj.is 1 ⟨#[106, 111, 105, 110]⟩) = true := by rw [hIn]; rfl
      clear hIn
      obtain ⟨n1, rfl, hRj, hn1⟩ := joins_yes (l := l0) hc hsn
      rw [hRj] at hR
      have hless := join_less hc
      have HLA : Hid (lenAt p wr = sj.size) := hid (lenAt_ps hps)
      have hcg : sj.good = true := by
        cases sj with
        | ok l d => rfl
        | bad e a => cases hc
      obtain ⟨t1, ht1⟩ : ∃ t1, (sj.word ⟨#[105, 110, 110, 101, 114]⟩).2 = t1 := ⟨_, rfl⟩
      have ht1' : (sj.may 1 ⟨#[105, 110, 110, 101, 114]⟩).2 = t1 := ht1
      have u1 : t1.size ≤ sj.size := by rw [← ht1]; exact size_may _ _ _
      obtain ⟨t2, ht2⟩ : ∃ t2, t1.need 1 ⟨#[106, 111, 105, 110]⟩ = t2 := ⟨_, rfl⟩
      have u2 : t2.size ≤ t1.size := by rw [← ht2]; exact size_need _ _ _
      obtain ⟨rj, hrj⟩ : ∃ rj, refS t2 = rj := ⟨_, rfl⟩
      have u3 : rj.2.size ≤ t2.size := by rw [← hrj]; exact ni_refS _
      obtain ⟨t4, ht4⟩ : ∃ t4, rj.2.need 1 ⟨#[111, 110]⟩ = t4 := ⟨_, rfl⟩
      have u4 : t4.size ≤ rj.2.size := by rw [← ht4]; exact size_need _ _ _
      obtain ⟨ej, hej⟩ : ∃ ej, exprS t4 = ej := ⟨_, rfl⟩
      have HJ : Hid (joinS sj = (⟨rj.1.tab, rj.1.al, ej.1⟩, ej.2)) := hid (by unfold joinS; simp only [ht1, ht2, hrj, ht4, hej])
      have HNZ : Hid (t4.size ≤ 1000000) := hid (by omega)
      have HYL : Hid (ys = l0) := hid (hyl hcg)
      have HSG : Hid (rf.2.good = true) := hid (hsg hcg)
      have HR2 : Hid (joins n1 (l0 ++ [(joinS sj).1]) (joinS sj).2 = F) := hid hR
      have HN1 := hid hn1
      have HLS := hid hless
      clear hR hRj hyl hsg hcg hc hn1 hless ht1 u1 u2 u3 u4
      go_wp2_with fail
      refine (word_any p ⟨#[105, 110, 110, 101, 114]⟩ sj _ hps).mono ?_
      rintro e w2 ⟨rfl, hps2, hg2⟩
      rw [ht1'] at hps2
      have hA2 := (Gr.refl w2).alloc (.cells #[.string ⟨#[106, 111, 105, 110]⟩] 9)
      go_wp2_with fail
      refine (words_one p _ ⟨#[106, 111, 105, 110]⟩ t1 _ (hps2.keep hA2) (by rw [Rg.blk_cells (alloc_at _ _)]; rfl)).mono ?_
      rintro e w3 ⟨rfl, hps3, hg3⟩
      rw [ht2] at hps3
      go_wp2_with fail
      refine (ref_any p t2 _ hps3).mono ?_
      rintro e w4 ⟨rfl, hps4, hg4⟩
      rw [hrj] at hps4
      rw [hrj]
      have hg14 := ((hg2.trans (Go1.of hA2)).trans hg3).trans hg4
      have hqf4 := hqf.go hg14
      have hL4 := hL.go kRef_ok hg14 (ab_no (by omega))
      have hp4 : p < w4.heap.size := by have := hqf4.sb.lt; omega
      have HX0 : Hid (∀ W5, W5.heap[w4.heap.size]? = some (.cells (rfC rj.1.tab rj.1.al).toArray 81 (0, 0)) → Go1 w4.heap.size (w4.alloc (.cells (rfC ⟨#[]⟩ ⟨#[]⟩).toArray 81)) W5 → XB p w4 81 (rfC rj.1.tab rj.1.al) rj.2 W5) := hid (fun W5 a b => XB.start hp4 hps4 a b)
      have HA : Hid ((w4.alloc (.cells (rfC ⟨#[]⟩ ⟨#[]⟩).toArray 81)).heap[w4.heap.size]? = some (.cells (rfC ⟨#[]⟩ ⟨#[]⟩).toArray 81 (0, 0))) := hid (alloc_at _ _)
      have HQF := hid hqf4
      have HL := hid hL4
      clear hqf hL hps hps2 hps3 hps4 hg2 hA2 hg3 hg4 hg14 hqf4 hL4 hrj ht2 ht1'
      unfold RfV
      go_wp2_with (guard_target =~ wpList _ _ _ (Oper.mk _ (Op.store 81 _ _) _ _ _ _ :: _) _ _; refine st_row (ty := 81) rfl rfl w4.heap.size (rfC rj.1.tab rj.1.al).toArray rfl rfl 81 _ (HA.out) (by kernel_rfl) rfl (by kernel_rfl) ?_; intro W5 hW5 gW5 zW5; have HQ := hid (HX0.out W5 hW5 gW5); clear hW5 gW5 zW5 HX0 HA)
      have hx5 := HQ.out
      clear HQ
      have hA5 := (Gr.refl W5).alloc (.cells #[.string ⟨#[111, 110]⟩] 9)
      refine (words_one p _ ⟨#[111, 110]⟩ rj.2 _ (hx5.ps.keep hA5) (by rw [Rg.blk_cells (alloc_at _ _)]; rfl)).mono ?_
      rintro e w6 ⟨rfl, hps6, hg6⟩
      rw [ht4] at hps6
      have hx6 := hx5.go hps6 ((Go1.of hA5).trans hg6)
      clear hx5 hps6 hg6 hA5 ht4
      go_wp2_with fail
      refine (expr_any p 1000000 (Nat.le_refl _) t4 _ hx6.ps HNZ.out).mono ?_
      rintro e w7 ⟨u, rfl, rx, x, rfl, hx, hps7, hg7, hgd7⟩
      rw [hej] at hps7 hgd7
      have hx7 := hx6.go hps7 hg7
      have HEX : Hid (∀ WA, Go1 w4.heap.size w7 WA → kRef.E (fun b => Ab B b ∧ v.ownBlock ≠ some b) WA ⟨rj.1.tab, rj.1.al, x⟩ ⟨rj.1.tab, rj.1.al, rx⟩) := hid (fun WA hgA => by
        have hz6 := (Array.getElem?_eq_some_iff.1 hx6.x).1
        have hB4 := HQF.out.hz
        have hl6 := hx6.g.size
        refine ⟨rfl, rfl, (hx.of hgA.size (fun b hb hl => hgA.get hl (by have : w6.heap.size ≤ b := hb; omega))).mono (fun b _ hb => ?_)⟩
        have hb : w6.heap.size ≤ b := hb
        exact ⟨by show B ≤ b; omega, fun e => by have := (HL.out.blk e).2; omega⟩)
      have HXA : Hid (∀ WA, WA.heap[w4.heap.size]? = some (.cells (rF ⟨rj.1.tab, rj.1.al, rx⟩).toArray 81 (0, 0)) → Go1 w4.heap.size w7 WA → XB p w4 81 (rF ⟨rj.1.tab, rj.1.al, rx⟩) ej.2 WA) := hid (fun WA hA hgA => ⟨hx7.hp, hA, hx7.g.own hgA (Nat.le_refl _), hx7.ps.go hgA hx7.hp⟩)
      have HX7 := hid hx7.x
      have HGD := hid hgd7
      clear hx6 hx hps7 hg7 hx7 hgd7 hej
      unfold XR.val
      go_upto_region 13 with (guard_target =~ wpList _ _ _ (Oper.mk _ (Op.store 32 _ _) _ _ _ _ :: _) _ _; refine st_part (ty := 32) rfl rfl w4.heap.size 2 (xF rx).toArray rfl rfl 81 _ HX7.out (by kernel_rfl) (by show 2 + 12 ≤ 14; decide) (by kernel_rfl) ?_; intro WA hWA gWA; rw [show (xF rx).toArray.toList = xF rx from rfl, put_on] at hWA; have HQW := hid (HXA.out WA hWA gWA); have HEA := hid (HEX.out WA gWA); clear hWA gWA HXA HEX HX7)
      have hxz := HQW.out
      clear HQW
      have kc := Rg.blk_cells hxz.x
      simp only [rF, xF, List.cons_append, List.nil_append] at kc
      have hqfz := HQF.out.go hxz.g
      have hLz := HL.out.go kRef_ok hxz.g (ab_no (by omega))
      have k12 : WA.cell? ⟨S0, 12, none⟩ = some v := hqfz.sb.cell 12
      obtain ⟨v', wy, hrun, k12', kfy, hsby, hLy, hpsy, ⟨g9, m9, c9, rfl⟩, hkp, _⟩ := SB.push kRef_ok kt_ref 28 (k := 12) (y := ⟨rj.1.tab, rj.1.al, x⟩) (r := ⟨rj.1.tab, rj.1.al, rx⟩) (cl := #[.string rj.1.tab, .string rj.1.al, .int .i64 rx.h.op, .int .i64 rx.h.v.t, .int .i64 rx.h.v.n, .string rx.h.v.s, .bool rx.h.v.b, .string rx.h.tab, .string rx.h.name, .int .i64 rx.h.t, .int .i64 rx.h.c, .bool rx.h.nt, .bool rx.h.st, .slice rx.oa rx.n rx.cap]) (fun b h => by have : B ≤ b := h; omega) (fun b h => by have := hqfz.hz; show B ≤ b; omega) hqfz.sb (by rw [SR.len]; decide) hLz (by omega) hxz.ps HEA.out rfl
      have hqfy := hqfz.push hsby hkp (fun b e => (hLz.blk e).1)
      have HRUN := hid hrun
      have HFIN : Hid (JoRel p 900001 w R0 S0 B { kind := 8, explain := xe.1, distinct := xd.1, limit := -1, items := I.1 } { kind := 8, explain := xe.1, distinct := xd.1, limit := -1, items := si } rf.2 F (wy.setCell ⟨S0, 12, none⟩ (.slice (some ⟨g9, 0, none⟩) m9 c9)) ∧ lenAt p (wy.setCell ⟨S0, 12, none⟩ (.slice (some ⟨g9, 0, none⟩) m9 c9)) < sj.size) := hid (by
        have h1 := HLS.out
        have h2 := HN1.out
        have h3 := HR2.out
        have h4 := HJ.out
        generalize joinS sj = qj at h1 h2 h3 h4
        subst h4
        exact JoRel.next hqfy hLy hpsy (fun h => by rw [HGD.out h]) HYL.out h3 h2 h1 hN HSG.out)
      clear hqfz hLz hrun hsby hLy hpsy hkp hqfy hxz HQF HL HEA HGD HJ HYL HR2 HN1 HLS
      go_wp2_with (at_builtin; refine Lib.wpList_append_run _ rfl _ _ _ _ rfl _ _ rfl rfl _ _ HRUN.out ?_)
      exact ⟨HFIN.out.1, by rw [HLA.out]; exact HFIN.out.2⟩
    | false =>
      go_wp2_with fail
      refine (is1_any p ⟨#[106, 111, 105, 110]⟩ sj _ hps).mono ?_
      rintro e w' ⟨rfl, hw⟩
      rw [hw]
      clear hw w'
      cases hJn : sj.is 1 ⟨#[106, 111, 105, 110]⟩ with
      | true =>
        have hc : (sj.is 1 ⟨#[105, 110, 110, 101, 114]⟩ || sj.is 1 ⟨#[106, 111, 105, 110]⟩) = true := by rw [hIn, hJn]; rfl
        clear hIn hJn
        obtain ⟨n1, rfl, hRj, hn1⟩ := joins_yes (l := l0) hc hsn
        rw [hRj] at hR
        have hless := join_less hc
        have HLA : Hid (lenAt p wr = sj.size) := hid (lenAt_ps hps)
        have hcg : sj.good = true := by
          cases sj with
          | ok l d => rfl
          | bad e a => cases hc
        obtain ⟨t1, ht1⟩ : ∃ t1, (sj.word ⟨#[105, 110, 110, 101, 114]⟩).2 = t1 := ⟨_, rfl⟩
        have ht1' : (sj.may 1 ⟨#[105, 110, 110, 101, 114]⟩).2 = t1 := ht1
        have u1 : t1.size ≤ sj.size := by rw [← ht1]; exact size_may _ _ _
        obtain ⟨t2, ht2⟩ : ∃ t2, t1.need 1 ⟨#[106, 111, 105, 110]⟩ = t2 := ⟨_, rfl⟩
        have u2 : t2.size ≤ t1.size := by rw [← ht2]; exact size_need _ _ _
        obtain ⟨rj, hrj⟩ : ∃ rj, refS t2 = rj := ⟨_, rfl⟩
        have u3 : rj.2.size ≤ t2.size := by rw [← hrj]; exact ni_refS _
        obtain ⟨t4, ht4⟩ : ∃ t4, rj.2.need 1 ⟨#[111, 110]⟩ = t4 := ⟨_, rfl⟩
        have u4 : t4.size ≤ rj.2.size := by rw [← ht4]; exact size_need _ _ _
        obtain ⟨ej, hej⟩ : ∃ ej, exprS t4 = ej := ⟨_, rfl⟩
        have HJ : Hid (joinS sj = (⟨rj.1.tab, rj.1.al, ej.1⟩, ej.2)) := hid (by unfold joinS; simp only [ht1, ht2, hrj, ht4, hej])
        have HNZ : Hid (t4.size ≤ 1000000) := hid (by omega)
        have HYL : Hid (ys = l0) := hid (hyl hcg)
        have HSG : Hid (rf.2.good = true) := hid (hsg hcg)
        have HR2 : Hid (joins n1 (l0 ++ [(joinS sj).1]) (joinS sj).2 = F) := hid hR
        have HN1 := hid hn1
        have HLS := hid hless
        clear hR hRj hyl hsg hcg hc hn1 hless ht1 u1 u2 u3 u4
        go_wp2_with fail
        refine (word_any p ⟨#[105, 110, 110, 101, 114]⟩ sj _ hps).mono ?_
        rintro e w2 ⟨rfl, hps2, hg2⟩
        rw [ht1'] at hps2
        have hA2 := (Gr.refl w2).alloc (.cells #[.string ⟨#[106, 111, 105, 110]⟩] 9)
        go_wp2_with fail
        refine (words_one p _ ⟨#[106, 111, 105, 110]⟩ t1 _ (hps2.keep hA2) (by rw [Rg.blk_cells (alloc_at _ _)]; rfl)).mono ?_
        rintro e w3 ⟨rfl, hps3, hg3⟩
        rw [ht2] at hps3
        go_wp2_with fail
        refine (ref_any p t2 _ hps3).mono ?_
        rintro e w4 ⟨rfl, hps4, hg4⟩
        rw [hrj] at hps4
        rw [hrj]
        have hg14 := ((hg2.trans (Go1.of hA2)).trans hg3).trans hg4
        have hqf4 := hqf.go hg14
        have hL4 := hL.go kRef_ok hg14 (ab_no (by omega))
        have hp4 : p < w4.heap.size := by have := hqf4.sb.lt; omega
        have HX0 : Hid (∀ W5, W5.heap[w4.heap.size]? = some (.cells (rfC rj.1.tab rj.1.al).toArray 81 (0, 0)) → Go1 w4.heap.size (w4.alloc (.cells (rfC ⟨#[]⟩ ⟨#[]⟩).toArray 81)) W5 → XB p w4 81 (rfC rj.1.tab rj.1.al) rj.2 W5) := hid (fun W5 a b => XB.start hp4 hps4 a b)
        have HA : Hid ((w4.alloc (.cells (rfC ⟨#[]⟩ ⟨#[]⟩).toArray 81)).heap[w4.heap.size]? = some (.cells (rfC ⟨#[]⟩ ⟨#[]⟩).toArray 81 (0, 0))) := hid (alloc_at _ _)
        have HQF := hid hqf4
        have HL := hid hL4
        clear hqf hL hps hps2 hps3 hps4 hg2 hA2 hg3 hg4 hg14 hqf4 hL4 hrj ht2 ht1'
        unfold RfV
        go_wp2_with (guard_target =~ wpList _ _ _ (Oper.mk _ (Op.store 81 _ _) _ _ _ _ :: _) _ _; refine st_row (ty := 81) rfl rfl w4.heap.size (rfC rj.1.tab rj.1.al).toArray rfl rfl 81 _ (HA.out) (by kernel_rfl) rfl (by kernel_rfl) ?_; intro W5 hW5 gW5 zW5; have HQ := hid (HX0.out W5 hW5 gW5); clear hW5 gW5 zW5 HX0 HA)
        have hx5 := HQ.out
        clear HQ
        have hA5 := (Gr.refl W5).alloc (.cells #[.string ⟨#[111, 110]⟩] 9)
        refine (words_one p _ ⟨#[111, 110]⟩ rj.2 _ (hx5.ps.keep hA5) (by rw [Rg.blk_cells (alloc_at _ _)]; rfl)).mono ?_
        rintro e w6 ⟨rfl, hps6, hg6⟩
        rw [ht4] at hps6
        have hx6 := hx5.go hps6 ((Go1.of hA5).trans hg6)
        clear hx5 hps6 hg6 hA5 ht4
        go_wp2_with fail
        refine (expr_any p 1000000 (Nat.le_refl _) t4 _ hx6.ps HNZ.out).mono ?_
        rintro e w7 ⟨u, rfl, rx, x, rfl, hx, hps7, hg7, hgd7⟩
        rw [hej] at hps7 hgd7
        have hx7 := hx6.go hps7 hg7
        have HEX : Hid (∀ WA, Go1 w4.heap.size w7 WA → kRef.E (fun b => Ab B b ∧ v.ownBlock ≠ some b) WA ⟨rj.1.tab, rj.1.al, x⟩ ⟨rj.1.tab, rj.1.al, rx⟩) := hid (fun WA hgA => by
          have hz6 := (Array.getElem?_eq_some_iff.1 hx6.x).1
          have hB4 := HQF.out.hz
          have hl6 := hx6.g.size
          refine ⟨rfl, rfl, (hx.of hgA.size (fun b hb hl => hgA.get hl (by have : w6.heap.size ≤ b := hb; omega))).mono (fun b _ hb => ?_)⟩
          have hb : w6.heap.size ≤ b := hb
          exact ⟨by show B ≤ b; omega, fun e => by have := (HL.out.blk e).2; omega⟩)
        have HXA : Hid (∀ WA, WA.heap[w4.heap.size]? = some (.cells (rF ⟨rj.1.tab, rj.1.al, rx⟩).toArray 81 (0, 0)) → Go1 w4.heap.size w7 WA → XB p w4 81 (rF ⟨rj.1.tab, rj.1.al, rx⟩) ej.2 WA) := hid (fun WA hA hgA => ⟨hx7.hp, hA, hx7.g.own hgA (Nat.le_refl _), hx7.ps.go hgA hx7.hp⟩)
        have HX7 := hid hx7.x
        have HGD := hid hgd7
        clear hx6 hx hps7 hg7 hx7 hgd7 hej
        unfold XR.val
        go_upto_region 13 with (guard_target =~ wpList _ _ _ (Oper.mk _ (Op.store 32 _ _) _ _ _ _ :: _) _ _; refine st_part (ty := 32) rfl rfl w4.heap.size 2 (xF rx).toArray rfl rfl 81 _ HX7.out (by kernel_rfl) (by show 2 + 12 ≤ 14; decide) (by kernel_rfl) ?_; intro WA hWA gWA; rw [show (xF rx).toArray.toList = xF rx from rfl, put_on] at hWA; have HQW := hid (HXA.out WA hWA gWA); have HEA := hid (HEX.out WA gWA); clear hWA gWA HXA HEX HX7)
        have hxz := HQW.out
        clear HQW
        have kc := Rg.blk_cells hxz.x
        simp only [rF, xF, List.cons_append, List.nil_append] at kc
        have hqfz := HQF.out.go hxz.g
        have hLz := HL.out.go kRef_ok hxz.g (ab_no (by omega))
        have k12 : WA.cell? ⟨S0, 12, none⟩ = some v := hqfz.sb.cell 12
        obtain ⟨v', wy, hrun, k12', kfy, hsby, hLy, hpsy, ⟨g9, m9, c9, rfl⟩, hkp, _⟩ := SB.push kRef_ok kt_ref 28 (k := 12) (y := ⟨rj.1.tab, rj.1.al, x⟩) (r := ⟨rj.1.tab, rj.1.al, rx⟩) (cl := #[.string rj.1.tab, .string rj.1.al, .int .i64 rx.h.op, .int .i64 rx.h.v.t, .int .i64 rx.h.v.n, .string rx.h.v.s, .bool rx.h.v.b, .string rx.h.tab, .string rx.h.name, .int .i64 rx.h.t, .int .i64 rx.h.c, .bool rx.h.nt, .bool rx.h.st, .slice rx.oa rx.n rx.cap]) (fun b h => by have : B ≤ b := h; omega) (fun b h => by have := hqfz.hz; show B ≤ b; omega) hqfz.sb (by rw [SR.len]; decide) hLz (by omega) hxz.ps HEA.out rfl
        have hqfy := hqfz.push hsby hkp (fun b e => (hLz.blk e).1)
        have HRUN := hid hrun
        have HFIN : Hid (JoRel p 900001 w R0 S0 B { kind := 8, explain := xe.1, distinct := xd.1, limit := -1, items := I.1 } { kind := 8, explain := xe.1, distinct := xd.1, limit := -1, items := si } rf.2 F (wy.setCell ⟨S0, 12, none⟩ (.slice (some ⟨g9, 0, none⟩) m9 c9)) ∧ lenAt p (wy.setCell ⟨S0, 12, none⟩ (.slice (some ⟨g9, 0, none⟩) m9 c9)) < sj.size) := hid (by
          have h1 := HLS.out
          have h2 := HN1.out
          have h3 := HR2.out
          have h4 := HJ.out
          generalize joinS sj = qj at h1 h2 h3 h4
          subst h4
          exact JoRel.next hqfy hLy hpsy (fun h => by rw [HGD.out h]) HYL.out h3 h2 h1 hN HSG.out)
        clear hqfz hLz hrun hsby hLy hpsy hkp hqfy hxz HQF HL HEA HGD HJ HYL HR2 HN1 HLS
        go_wp2_with (at_builtin; refine Lib.wpList_append_run _ rfl _ _ _ _ rfl _ _ rfl rfl _ _ HRUN.out ?_)
        exact ⟨HFIN.out.1, by rw [HLA.out]; exact HFIN.out.2⟩
      | false =>
        have hc : (sj.is 1 ⟨#[105, 110, 110, 101, 114]⟩ || sj.is 1 ⟨#[106, 111, 105, 110]⟩) = false := by rw [hIn, hJn]; rfl
        have hRF : F = (l0, sj) := by rw [← hR]; exact joins_no hc
        obtain ⟨sr, rfl, hks, _⟩ := hL.at kRef_ok (by omega)
        have hqr : QB (Ab (S0 + 1)) p w R0 S0 { kind := 8, explain := xe.1, distinct := xd.1, limit := -1, items := I.1, refs := F.1 } { kind := 8, explain := xe.1, distinct := xd.1, limit := -1, items := si, refs := sr } F.2 wr := by rw [hRF]; exact hqf.refs hps hsg rfl hks hyl
        clear hqf hL hps hyl hR hsn hN hsg hks hc hRF hIn hJn
        have hwg := kb_good (s := F.2) (kb_clauseS ⟨#[119, 104, 101, 114, 101]⟩)
        go_wp2_with fail
        refine (clause_any p ⟨#[119, 104, 101, 114, 101]⟩ F.2 _ hqr.ps (by have := Z7.out; omega)).mono ?_
        rintro e ww ⟨u, rfl, rw, xw, rfl, hxw, hpsw, hgw, hgdw⟩
        rw [HC.out] at hpsw hgdw hwg
        have hlw := hqr.sb.lt
        have hqw := hqr.go hpsw hgw hwg
        have HW : Hid (∀ WA, WA.heap[S0]? = some (.cells (SR.cs { kind := 8, explain := xe.1, distinct := xd.1, limit := -1, items := si, refs := sr, wher := rw }).toArray 35 (0, 0)) → Go1 S0 ww WA → QB (Ab (S0 + 1)) p w R0 S0 { kind := 8, explain := xe.1, distinct := xd.1, limit := -1, items := I.1, refs := F.1, wher := C.1 } { kind := 8, explain := xe.1, distinct := xd.1, limit := -1, items := si, refs := sr, wher := rw } C.2 WA) := hid (fun WA hA hgA => hqw.wher (hxw.mono (fun b _ hb => by have : wr.heap.size ≤ b := hb; show S0 + 1 ≤ b; omega)) hgdw hA hgA)
        have HXW := hid hqw.sb.s
        clear hqr hxw hpsw hgw hgdw hwg hlw hqw HC
        unfold XR.val
        go_wp2_with (guard_target =~ wpList _ _ _ (Oper.mk _ (Op.store 32 _ _) _ _ _ _ :: _) _ _; refine st_part (ty := 32) rfl rfl S0 13 (xF rw).toArray rfl rfl 35 _ HXW.out (by kernel_rfl) (by rw [SR.len]; show 13 + 12 ≤ 41; decide) (by kernel_rfl) ?_; intro WW hWW gWW; rw [show (xF rw).toArray.toList = xF rw from rfl, put_where] at hWW; have HQW := hid (HW.out WW hWW gWW); clear hWW gWW HW HXW)
        have hqx := HQW.out
        clear HQW
        refine (word_any p ⟨#[103, 114, 111, 117, 112]⟩ C.2 _ hqx.ps).mono ?_
        rintro e wg0 ⟨rfl, hpsg, hgg⟩
        have hqg0 := hqx.go hpsg hgg may_good
        clear hqx hpsg hgg
        cases hGp : C.2.is 1 ⟨#[103, 114, 111, 117, 112]⟩ with
        | false =>
          rw [may_n hGp] at hqg0
          have hGG : G = ([], C.2) := by rw [← HGr.out]; unfold groupS; rw [hGp]; rfl
          obtain ⟨sg, hsg⟩ : ∃ sg : Slc, ({} : Slc) = sg := ⟨_, rfl⟩
          have hqg : QB (Ab (S0 + 1)) p w R0 S0 { kind := 8, explain := xe.1, distinct := xd.1, limit := -1, items := I.1, refs := F.1, wher := C.1, group := G.1 } { kind := 8, explain := xe.1, distinct := xd.1, limit := -1, items := si, refs := sr, wher := rw, group := sg } G.2 wg0 := by rw [hGG, ← hsg]; exact hqg0
          clear hqg0 hGG hsg hGp HGr
          go_wp2_with fail
          have hvg := kb_good (s := G.2) (kb_clauseS ⟨#[104, 97, 118, 105, 110, 103]⟩)
          refine (clause_any p ⟨#[104, 97, 118, 105, 110, 103]⟩ G.2 _ hqg.ps (by have := Z9.out; omega)).mono ?_
          rintro e wv ⟨u, rfl, rv, xv, rfl, hxv, hpsv, hgv, hgdv⟩
          rw [HV.out] at hpsv hgdv hvg
          have hlv := hqg.sb.lt
          have hqv := hqg.go hpsv hgv hvg
          have HW : Hid (∀ WA, WA.heap[S0]? = some (.cells (SR.cs { kind := 8, explain := xe.1, distinct := xd.1, limit := -1, items := si, refs := sr, wher := rw, group := sg, having := rv }).toArray 35 (0, 0)) → Go1 S0 wv WA → QB (Ab (S0 + 1)) p w R0 S0 { kind := 8, explain := xe.1, distinct := xd.1, limit := -1, items := I.1, refs := F.1, wher := C.1, group := G.1, having := V.1 } { kind := 8, explain := xe.1, distinct := xd.1, limit := -1, items := si, refs := sr, wher := rw, group := sg, having := rv } V.2 WA) := hid (fun WA hA hgA => hqv.having (hxv.mono (fun b _ hb => by have : wg0.heap.size ≤ b := hb; show S0 + 1 ≤ b; omega)) hgdv hA hgA)
          have HXV := hid hqv.sb.s
          clear hqg hxv hpsv hgv hgdv hvg hlv hqv HV
          unfold XR.val
          go_wp2_with (guard_target =~ wpList _ _ _ (Oper.mk _ (Op.store 32 _ _) _ _ _ _ :: _) _ _; refine st_part (ty := 32) rfl rfl S0 25 (xF rv).toArray rfl rfl 35 _ HXV.out (by kernel_rfl) (by rw [SR.len]; show 25 + 12 ≤ 41; decide) (by kernel_rfl) ?_; intro WV hWV gWV; rw [show (xF rv).toArray.toList = xF rv from rfl, put_having] at hWV; have HQV := hid (HW.out WV hWV gWV); clear hWV gWV HW HXV)
          have hqw := HQV.out
          clear HQV
          refine (word_any p ⟨#[111, 114, 100, 101, 114]⟩ V.2 _ hqw.ps).mono ?_
          rintro e wo0 ⟨rfl, hpso, hgo⟩
          have hqo0 := hqw.go hpso hgo may_good
          clear hqw hpso hgo
          cases hOr : V.2.is 1 ⟨#[111, 114, 100, 101, 114]⟩ with
          | false =>
            rw [may_n hOr] at hqo0
            have hOO : O = ([], V.2) := by rw [← HO.out]; unfold orderS; rw [hOr]; rfl
            obtain ⟨so, hso⟩ : ∃ so : Slc, ({} : Slc) = so := ⟨_, rfl⟩
            have hqo : QB (Ab (S0 + 1)) p w R0 S0 { kind := 8, explain := xe.1, distinct := xd.1, limit := -1, items := I.1, refs := F.1, wher := C.1, group := G.1, having := V.1, order := O.1 } { kind := 8, explain := xe.1, distinct := xd.1, limit := -1, items := si, refs := sr, wher := rw, group := sg, having := rv, order := so } O.2 wo0 := by rw [hOO, ← hso]; exact hqo0
            clear hqo0 hOO hso hOr HO
            go_wp2_with fail
            refine (word_any p ⟨#[108, 105, 109, 105, 116]⟩ O.2 _ hqo.ps).mono ?_
            rintro e wl ⟨rfl, hpsl, hgl⟩
            cases hLi : O.2.is 1 ⟨#[108, 105, 109, 105, 116]⟩ with
            | false =>
              have hql := hqo.go hpsl hgl may_good
              rw [may_n hLi] at hql
              have hLL : L = ((-1, 0), O.2) := by rw [← HLm.out]; unfold limitS; rw [hLi]; rfl
              clear hqo hpsl hgl hLi
              obtain ⟨rr, hrr⟩ : ∃ rr : SR, ({ kind := 8, explain := xe.1, distinct := xd.1, limit := -1, items := si, refs := sr, wher := rw, group := sg, having := rv, order := so } : SR) = rr := ⟨_, rfl⟩
              rw [hrr] at hql
              have HX := hid hql.sb.s
              have HZ : Hid (_ = some (Obj.cells (SR.cs {}).toArray 35 (0, 0))) := hid hql.sb.z
              have FI : Hid (∀ W9, Go1 R0 _ W9 → Rst p w ({ kind := 8, explain := xe.1, distinct := xd.1, limit := L.1.1, items := I.1, refs := F.1, wher := C.1, group := G.1, having := V.1, order := O.1, offset := L.1.2 }, L.2) (SR.val rr) W9) := hid (fun W9 h9 => by have := hql.give h9; rw [hLL]; exact this)
              clear hql hrr
              go_wp2_with (first | (guard_target =~ wpList _ _ _ (Oper.mk _ (Op.load 35 _) _ _ _ _ :: _) _ _; refine wpList_load_row rfl 35 _ rfl S0 (by kernel_rfl) 35 (SR.cs rr).toArray (0, 0) _ HX.out Try.underlying35 rfl (sr_info rr) ?_) | (guard_target =~ wpList _ _ _ (Oper.mk _ (Op.store 35 _ _) _ _ _ _ :: _) _ _; refine st_row (ty := 35) (x := .tmp 2) (y := .tmp 98) ?_ ?_ R0 (SR.cs rr).toArray ?_ ?_ 35 (SR.cs {}).toArray HZ.out (sr_info rr) (sr_old {} rr) (sr_one rr) ?_; exact rfl; exact rfl; kernel_rfl; kernel_rfl; intro W9 hW9 gW9 zW9; apply wpList_nil; rename_i hKK; refine hKK _ _ (wp_ret ?_); refine bodyPost_ret (v := SR.val rr) (results_cell_row (g := R0) rfl _ _ _ _ _ _ (by kernel_rfl) hW9 Try.underlying35 rfl (sr_info rr)) rfl ?_; exact ⟨_, rfl, FI.out W9 gW9⟩))
            | true =>
              have hql := hqo.go hpsl hgl may_good
              rw [may_y hLi] at hql
              obtain ⟨nl, hnl⟩ : ∃ nl, O.2.step.num = nl := ⟨_, rfl⟩
              have hLL : L = (let m := offS nl.2; ((nl.1, m.1), m.2)) := by rw [← HLm.out]; unfold limitS; rw [hLi]; simp only [if_true, hnl]
              have HLL := hid hLL
              clear hqo hpsl hgl hLi hLL HLm
              go_wp2_with fail
              refine (pnum_any p O.2.step _ hql.ps).mono ?_
              rintro e wn ⟨rfl, hpsn, hgn⟩
              have hqn := hql.go hpsn hgn (fun h => by
                have : O.2.step.num.2.good = true := h
                cases hst : O.2.step with
                | ok l d => rfl
                | bad e a => rw [hst] at this; cases this)
              rw [hnl] at hqn
              rw [hnl]
              have k39 : wn.cell? ⟨S0, 39, none⟩ = some (.int .i64 (-1)) := hqn.sb.cell 39
              have kf := Rg.blk_free hqn.sb.s
              have hqm : QB (Ab (S0 + 1)) p w R0 S0 { kind := 8, explain := xe.1, distinct := xd.1, limit := nl.1, items := I.1, refs := F.1, wher := C.1, group := G.1, having := V.1, order := O.1 } { kind := 8, explain := xe.1, distinct := xd.1, limit := nl.1, items := si, refs := sr, wher := rw, group := sg, having := rv, order := so } nl.2 (wn.setCell ⟨S0, 39, none⟩ (.int .i64 nl.1)) := hqn.limit nl.1
              clear hql hpsn hgn hnl hqn
              go_wp2_with fail
              clear k39 kf
              generalize World.setCell wn _ _ = wm at *
              refine (word_any p ⟨#[111, 102, 102, 115, 101, 116]⟩ nl.2 _ hqm.ps).mono ?_
              rintro e wf ⟨rfl, hpsf, hgf⟩
              cases hOf : nl.2.is 1 ⟨#[111, 102, 102, 115, 101, 116]⟩ with
              | false =>
                have hqf := hqm.go hpsf hgf may_good
                rw [may_n hOf] at hqf
                have hLL : L = ((nl.1, 0), nl.2) := by rw [HLL.out]; unfold offS; rw [hOf]; rfl
                clear hqm hpsf hgf hOf
                obtain ⟨rr, hrr⟩ : ∃ rr : SR, ({ kind := 8, explain := xe.1, distinct := xd.1, limit := nl.1, items := si, refs := sr, wher := rw, group := sg, having := rv, order := so } : SR) = rr := ⟨_, rfl⟩
                rw [hrr] at hqf
                have HX := hid hqf.sb.s
                have HZ : Hid (_ = some (Obj.cells (SR.cs {}).toArray 35 (0, 0))) := hid hqf.sb.z
                have FI : Hid (∀ W9, Go1 R0 _ W9 → Rst p w ({ kind := 8, explain := xe.1, distinct := xd.1, limit := L.1.1, items := I.1, refs := F.1, wher := C.1, group := G.1, having := V.1, order := O.1, offset := L.1.2 }, L.2) (SR.val rr) W9) := hid (fun W9 h9 => by have := hqf.give h9; rw [hLL]; exact this)
                clear hqf hrr
                go_wp2_with (first | (guard_target =~ wpList _ _ _ (Oper.mk _ (Op.load 35 _) _ _ _ _ :: _) _ _; refine wpList_load_row rfl 35 _ rfl S0 (by kernel_rfl) 35 (SR.cs rr).toArray (0, 0) _ HX.out Try.underlying35 rfl (sr_info rr) ?_) | (guard_target =~ wpList _ _ _ (Oper.mk _ (Op.store 35 _ _) _ _ _ _ :: _) _ _; refine st_row (ty := 35) (x := .tmp 2) (y := .tmp 98) ?_ ?_ R0 (SR.cs rr).toArray ?_ ?_ 35 (SR.cs {}).toArray HZ.out (sr_info rr) (sr_old {} rr) (sr_one rr) ?_; exact rfl; exact rfl; kernel_rfl; kernel_rfl; intro W9 hW9 gW9 zW9; apply wpList_nil; rename_i hKK; refine hKK _ _ (wp_ret ?_); refine bodyPost_ret (v := SR.val rr) (results_cell_row (g := R0) rfl _ _ _ _ _ _ (by kernel_rfl) hW9 Try.underlying35 rfl (sr_info rr)) rfl ?_; exact ⟨_, rfl, FI.out W9 gW9⟩))
              | true =>
                have hqf := hqm.go hpsf hgf may_good
                rw [may_y hOf] at hqf
                obtain ⟨nf, hnf⟩ : ∃ nf, nl.2.step.num = nf := ⟨_, rfl⟩
                have hLL : L = ((nl.1, nf.1), nf.2) := by rw [HLL.out]; unfold offS; rw [hOf]; simp only [if_true, hnf]
                have HL2 := hid hLL
                clear hqm hpsf hgf hOf hLL HLL
                go_wp2_with fail
                refine (pnum_any p nl.2.step _ hqf.ps).mono ?_
                rintro e wg ⟨rfl, hpsg, hgg⟩
                have hqg := hqf.go hpsg hgg (fun h => by
                  have : nl.2.step.num.2.good = true := h
                  cases hst : nl.2.step with
                  | ok l d => rfl
                  | bad e a => rw [hst] at this; cases this)
                rw [hnf] at hqg
                rw [hnf]
                have k40 : wg.cell? ⟨S0, 40, none⟩ = some (.int .i64 0) := hqg.sb.cell 40
                have kf := Rg.blk_free hqg.sb.s
                have hqh : QB (Ab (S0 + 1)) p w R0 S0 { kind := 8, explain := xe.1, distinct := xd.1, limit := nl.1, items := I.1, refs := F.1, wher := C.1, group := G.1, having := V.1, order := O.1, offset := nf.1 } { kind := 8, explain := xe.1, distinct := xd.1, limit := nl.1, items := si, refs := sr, wher := rw, group := sg, having := rv, order := so, offset := nf.1 } nf.2 (wg.setCell ⟨S0, 40, none⟩ (.int .i64 nf.1)) := hqg.offset nf.1
                clear hqf hpsg hgg hnf hqg
                go_upto_region 32 with fail
                clear k40 kf
                generalize World.setCell wg _ _ = wh at *
                obtain ⟨rr, hrr⟩ : ∃ rr : SR, ({ kind := 8, explain := xe.1, distinct := xd.1, limit := nl.1, items := si, refs := sr, wher := rw, group := sg, having := rv, order := so, offset := nf.1 } : SR) = rr := ⟨_, rfl⟩
                rw [hrr] at hqh
                have HX := hid hqh.sb.s
                have HZ : Hid (_ = some (Obj.cells (SR.cs {}).toArray 35 (0, 0))) := hid hqh.sb.z
                have FI : Hid (∀ W9, Go1 R0 _ W9 → Rst p w ({ kind := 8, explain := xe.1, distinct := xd.1, limit := L.1.1, items := I.1, refs := F.1, wher := C.1, group := G.1, having := V.1, order := O.1, offset := L.1.2 }, L.2) (SR.val rr) W9) := hid (fun W9 h9 => by have := hqh.give h9; rw [HL2.out]; exact this)
                clear hqh hrr
                go_wp2_with (first | (guard_target =~ wpList _ _ _ (Oper.mk _ (Op.load 35 _) _ _ _ _ :: _) _ _; refine wpList_load_row rfl 35 _ rfl S0 (by kernel_rfl) 35 (SR.cs rr).toArray (0, 0) _ HX.out Try.underlying35 rfl (sr_info rr) ?_) | (guard_target =~ wpList _ _ _ (Oper.mk _ (Op.store 35 _ _) _ _ _ _ :: _) _ _; refine st_row (ty := 35) (x := .tmp 2) (y := .tmp 98) ?_ ?_ R0 (SR.cs rr).toArray ?_ ?_ 35 (SR.cs {}).toArray HZ.out (sr_info rr) (sr_old {} rr) (sr_one rr) ?_; exact rfl; exact rfl; kernel_rfl; kernel_rfl; intro W9 hW9 gW9 zW9; apply wpList_nil; rename_i hKK; refine hKK _ _ (wp_ret ?_); refine bodyPost_ret (v := SR.val rr) (results_cell_row (g := R0) rfl _ _ _ _ _ _ (by kernel_rfl) hW9 Try.underlying35 rfl (sr_info rr)) rfl ?_; exact ⟨_, rfl, FI.out W9 gW9⟩))
          | true =>
            rw [may_y hOr] at hqo0
            obtain ⟨sy, hsy⟩ : ∃ sy, V.2.step.need 1 ⟨#[98, 121]⟩ = sy := ⟨_, rfl⟩
            have hOO : sep ordS sy = O := by rw [← HO.out]; unfold orderS; rw [hOr]; simp only [if_true, hsy]
            have hzy : sy.size ≤ 900000 := by rw [← hsy]; exact Nat.le_trans (size_need _ _ _) (Nat.le_trans (size_step _) Z10.out)
            go_wp2_with fail
            have hAo := (Gr.refl wo0).alloc (.cells #[.string ⟨#[98, 121]⟩] 9)
            refine (words_one p _ ⟨#[98, 121]⟩ V.2.step _ (hqo0.ps.keep hAo) (by rw [Rg.blk_cells (alloc_at _ _)]; rfl)).mono ?_
            rintro e wy0 ⟨rfl, hpsy0, hgy0⟩
            rw [hsy] at hpsy0
            have hqy := hqo0.go hpsy0 ((Go1.of hAo).trans hgy0) (fun h => by rw [← hsy] at h; exact kneed_good h)
            obtain ⟨B2, hB2⟩ : ∃ B2, wy0.heap.size = B2 := ⟨_, rfl⟩
            have hSB2 : S0 + 1 ≤ B2 := by have := hqy.sb.lt; omega
            have hfr := QF.frame hqy (k := 38) (.slice none 0 0) rfl
            rw [hB2] at hfr
            have HST2 : Hid (OrRel p 900000 w R0 S0 B2 { kind := 8, explain := xe.1, distinct := xd.1, limit := -1, items := I.1, refs := F.1, wher := C.1, group := G.1, having := V.1 } { kind := 8, explain := xe.1, distinct := xd.1, limit := -1, items := si, refs := sr, wher := rw, group := sg, having := rv } sy O (.bool true) wy0) := hid ⟨true, .slice none 0 0, rfl, hfr, SpRel.start hqy.ps hzy hOO⟩
            have HOG : Hid (O.2.good = true → sy.good = true) := hid (fun h => by
              rw [← hOO] at h
              exact kb_good (kb_sep kb_ordS) h)
            clear hqo0 hAo hpsy0 hgy0 hqy hfr hOO hsy hOr hzy
            go_wp2_with fail
            go_loopw [5] (fun s5 wr => OrRel p 900000 w R0 S0 B2 { kind := 8, explain := xe.1, distinct := xd.1, limit := -1, items := I.1, refs := F.1, wher := C.1, group := G.1, having := V.1 } { kind := 8, explain := xe.1, distinct := xd.1, limit := -1, items := si, refs := sr, wher := rw, group := sg, having := rv } sy O s5 wr) (fun s5 wr => mB s5 (lenAt p wr))
            · exact HST2.out
            · clear HST2
              obtain ⟨b, v, rfl, hqf, hsp⟩ := hrel
              cases b with
              | false =>
                obtain ⟨ys, hL, hps, hyg, hlen⟩ := hsp.no
                clear hsp
                obtain ⟨so, rfl, hks, _⟩ := hL.at kOrd_ok (by omega)
                have hqo : QB (Ab (S0 + 1)) p w R0 S0 { kind := 8, explain := xe.1, distinct := xd.1, limit := -1, items := I.1, refs := F.1, wher := C.1, group := G.1, having := V.1, order := O.1 } { kind := 8, explain := xe.1, distinct := xd.1, limit := -1, items := si, refs := sr, wher := rw, group := sg, having := rv, order := so } O.2 wr := hqf.order hps HOG.out rfl hks hyg
                clear hqf hL hps hyg hks HOG HO hlen
                go_wp2_with fail
                refine (word_any p ⟨#[108, 105, 109, 105, 116]⟩ O.2 _ hqo.ps).mono ?_
                rintro e wl ⟨rfl, hpsl, hgl⟩
                cases hLi : O.2.is 1 ⟨#[108, 105, 109, 105, 116]⟩ with
                | false =>
                  have hql := hqo.go hpsl hgl may_good
                  rw [may_n hLi] at hql
                  have hLL : L = ((-1, 0), O.2) := by rw [← HLm.out]; unfold limitS; rw [hLi]; rfl
                  clear hqo hpsl hgl hLi
                  obtain ⟨rr, hrr⟩ : ∃ rr : SR, ({ kind := 8, explain := xe.1, distinct := xd.1, limit := -1, items := si, refs := sr, wher := rw, group := sg, having := rv, order := so } : SR) = rr := ⟨_, rfl⟩
                  rw [hrr] at hql
                  have HX := hid hql.sb.s
                  have HZ : Hid (_ = some (Obj.cells (SR.cs {}).toArray 35 (0, 0))) := hid hql.sb.z
                  have FI : Hid (∀ W9, Go1 R0 _ W9 → Rst p w ({ kind := 8, explain := xe.1, distinct := xd.1, limit := L.1.1, items := I.1, refs := F.1, wher := C.1, group := G.1, having := V.1, order := O.1, offset := L.1.2 }, L.2) (SR.val rr) W9) := hid (fun W9 h9 => by have := hql.give h9; rw [hLL]; exact this)
                  clear hql hrr
                  go_wp2_with (first | (guard_target =~ wpList _ _ _ (Oper.mk _ (Op.load 35 _) _ _ _ _ :: _) _ _; refine wpList_load_row rfl 35 _ rfl S0 (by kernel_rfl) 35 (SR.cs rr).toArray (0, 0) _ HX.out Try.underlying35 rfl (sr_info rr) ?_) | (guard_target =~ wpList _ _ _ (Oper.mk _ (Op.store 35 _ _) _ _ _ _ :: _) _ _; refine st_row (ty := 35) (x := .tmp 2) (y := .tmp 98) ?_ ?_ R0 (SR.cs rr).toArray ?_ ?_ 35 (SR.cs {}).toArray HZ.out (sr_info rr) (sr_old {} rr) (sr_one rr) ?_; exact rfl; exact rfl; kernel_rfl; kernel_rfl; intro W9 hW9 gW9 zW9; apply wpList_nil; rename_i hKK; refine hKK _ _ (wp_ret ?_); refine bodyPost_ret (v := SR.val rr) (results_cell_row (g := R0) rfl _ _ _ _ _ _ (by kernel_rfl) hW9 Try.underlying35 rfl (sr_info rr)) rfl ?_; exact ⟨_, rfl, FI.out W9 gW9⟩))
                | true =>
                  have hql := hqo.go hpsl hgl may_good
                  rw [may_y hLi] at hql
                  obtain ⟨nl, hnl⟩ : ∃ nl, O.2.step.num = nl := ⟨_, rfl⟩
                  have hLL : L = (let m := offS nl.2; ((nl.1, m.1), m.2)) := by rw [← HLm.out]; unfold limitS; rw [hLi]; simp only [if_true, hnl]
                  have HLL := hid hLL
                  clear hqo hpsl hgl hLi hLL HLm
                  go_wp2_with fail
                  refine (pnum_any p O.2.step _ hql.ps).mono ?_
                  rintro e wn ⟨rfl, hpsn, hgn⟩
                  have hqn := hql.go hpsn hgn (fun h => by
                    have : O.2.step.num.2.good = true := h
                    cases hst : O.2.step with
                    | ok l d => rfl
                    | bad e a => rw [hst] at this; cases this)
                  rw [hnl] at hqn
                  rw [hnl]
                  have k39 : wn.cell? ⟨S0, 39, none⟩ = some (.int .i64 (-1)) := hqn.sb.cell 39
                  have kf := Rg.blk_free hqn.sb.s
                  have hqm : QB (Ab (S0 + 1)) p w R0 S0 { kind := 8, explain := xe.1, distinct := xd.1, limit := nl.1, items := I.1, refs := F.1, wher := C.1, group := G.1, having := V.1, order := O.1 } { kind := 8, explain := xe.1, distinct := xd.1, limit := nl.1, items := si, refs := sr, wher := rw, group := sg, having := rv, order := so } nl.2 (wn.setCell ⟨S0, 39, none⟩ (.int .i64 nl.1)) := hqn.limit nl.1
                  clear hql hpsn hgn hnl hqn
                  go_wp2_with fail
                  clear k39 kf
                  generalize World.setCell wn _ _ = wm at *
                  refine (word_any p ⟨#[111, 102, 102, 115, 101, 116]⟩ nl.2 _ hqm.ps).mono ?_
                  rintro e wf ⟨rfl, hpsf, hgf⟩
                  cases hOf : nl.2.is 1 ⟨#[111, 102, 102, 115, 101, 116]⟩ with
                  | false =>
                    have hqf := hqm.go hpsf hgf may_good
                    rw [may_n hOf] at hqf
                    have hLL : L = ((nl.1, 0), nl.2) := by rw [HLL.out]; unfold offS; rw [hOf]; rfl
                    clear hqm hpsf hgf hOf
                    obtain ⟨rr, hrr⟩ : ∃ rr : SR, ({ kind := 8, explain := xe.1, distinct := xd.1, limit := nl.1, items := si, refs := sr, wher := rw, group := sg, having := rv, order := so } : SR) = rr := ⟨_, rfl⟩
                    rw [hrr] at hqf
                    have HX := hid hqf.sb.s
                    have HZ : Hid (_ = some (Obj.cells (SR.cs {}).toArray 35 (0, 0))) := hid hqf.sb.z
                    have FI : Hid (∀ W9, Go1 R0 _ W9 → Rst p w ({ kind := 8, explain := xe.1, distinct := xd.1, limit := L.1.1, items := I.1, refs := F.1, wher := C.1, group := G.1, having := V.1, order := O.1, offset := L.1.2 }, L.2) (SR.val rr) W9) := hid (fun W9 h9 => by have := hqf.give h9; rw [hLL]; exact this)
                    clear hqf hrr
                    go_wp2_with (first | (guard_target =~ wpList _ _ _ (Oper.mk _ (Op.load 35 _) _ _ _ _ :: _) _ _; refine wpList_load_row rfl 35 _ rfl S0 (by kernel_rfl) 35 (SR.cs rr).toArray (0, 0) _ HX.out Try.underlying35 rfl (sr_info rr) ?_) | (guard_target =~ wpList _ _ _ (Oper.mk _ (Op.store 35 _ _) _ _ _ _ :: _) _ _; refine st_row (ty := 35) (x := .tmp 2) (y := .tmp 98) ?_ ?_ R0 (SR.cs rr).toArray ?_ ?_ 35 (SR.cs {}).toArray HZ.out (sr_info rr) (sr_old {} rr) (sr_one rr) ?_; exact rfl; exact rfl; kernel_rfl; kernel_rfl; intro W9 hW9 gW9 zW9; apply wpList_nil; rename_i hKK; refine hKK _ _ (wp_ret ?_); refine bodyPost_ret (v := SR.val rr) (results_cell_row (g := R0) rfl _ _ _ _ _ _ (by kernel_rfl) hW9 Try.underlying35 rfl (sr_info rr)) rfl ?_; exact ⟨_, rfl, FI.out W9 gW9⟩))
                  | true =>
                    have hqf := hqm.go hpsf hgf may_good
                    rw [may_y hOf] at hqf
                    obtain ⟨nf, hnf⟩ : ∃ nf, nl.2.step.num = nf := ⟨_, rfl⟩
                    have hLL : L = ((nl.1, nf.1), nf.2) := by rw [HLL.out]; unfold offS; rw [hOf]; simp only [if_true, hnf]
                    have HL2 := hid hLL
                    clear hqm hpsf hgf hOf hLL HLL
                    go_wp2_with fail
                    refine (pnum_any p nl.2.step _ hqf.ps).mono ?_
                    rintro e wg ⟨rfl, hpsg, hgg⟩
                    have hqg := hqf.go hpsg hgg (fun h => by
                      have : nl.2.step.num.2.good = true := h
                      cases hst : nl.2.step with
                      | ok l d => rfl
                      | bad e a => rw [hst] at this; cases this)
                    rw [hnf] at hqg
                    rw [hnf]
                    have k40 : wg.cell? ⟨S0, 40, none⟩ = some (.int .i64 0) := hqg.sb.cell 40
                    have kf := Rg.blk_free hqg.sb.s
                    have hqh : QB (Ab (S0 + 1)) p w R0 S0 { kind := 8, explain := xe.1, distinct := xd.1, limit := nl.1, items := I.1, refs := F.1, wher := C.1, group := G.1, having := V.1, order := O.1, offset := nf.1 } { kind := 8, explain := xe.1, distinct := xd.1, limit := nl.1, items := si, refs := sr, wher := rw, group := sg, having := rv, order := so, offset := nf.1 } nf.2 (wg.setCell ⟨S0, 40, none⟩ (.int .i64 nf.1)) := hqg.offset nf.1
                    clear hqf hpsg hgg hnf hqg
                    go_upto_region 32 with fail
                    clear k40 kf
                    generalize World.setCell wg _ _ = wh at *
                    obtain ⟨rr, hrr⟩ : ∃ rr : SR, ({ kind := 8, explain := xe.1, distinct := xd.1, limit := nl.1, items := si, refs := sr, wher := rw, group := sg, having := rv, order := so, offset := nf.1 } : SR) = rr := ⟨_, rfl⟩
                    rw [hrr] at hqh
                    have HX := hid hqh.sb.s
                    have HZ : Hid (_ = some (Obj.cells (SR.cs {}).toArray 35 (0, 0))) := hid hqh.sb.z
                    have FI : Hid (∀ W9, Go1 R0 _ W9 → Rst p w ({ kind := 8, explain := xe.1, distinct := xd.1, limit := L.1.1, items := I.1, refs := F.1, wher := C.1, group := G.1, having := V.1, order := O.1, offset := L.1.2 }, L.2) (SR.val rr) W9) := hid (fun W9 h9 => by have := hqh.give h9; rw [HL2.out]; exact this)
                    clear hqh hrr
                    go_wp2_with (first | (guard_target =~ wpList _ _ _ (Oper.mk _ (Op.load 35 _) _ _ _ _ :: _) _ _; refine wpList_load_row rfl 35 _ rfl S0 (by kernel_rfl) 35 (SR.cs rr).toArray (0, 0) _ HX.out Try.underlying35 rfl (sr_info rr) ?_) | (guard_target =~ wpList _ _ _ (Oper.mk _ (Op.store 35 _ _) _ _ _ _ :: _) _ _; refine st_row (ty := 35) (x := .tmp 2) (y := .tmp 98) ?_ ?_ R0 (SR.cs rr).toArray ?_ ?_ 35 (SR.cs {}).toArray HZ.out (sr_info rr) (sr_old {} rr) (sr_one rr) ?_; exact rfl; exact rfl; kernel_rfl; kernel_rfl; intro W9 hW9 gW9 zW9; apply wpList_nil; rename_i hKK; refine hKK _ _ (wp_ret ?_); refine bodyPost_ret (v := SR.val rr) (results_cell_row (g := R0) rfl _ _ _ _ _ _ (by kernel_rfl) hW9 Try.underlying35 rfl (sr_info rr)) rfl ?_; exact ⟨_, rfl, FI.out W9 gW9⟩))
              | true =>
                obtain ⟨ys, sj, m, hL, hps, hR, hm, hN⟩ := hsp.yes
                clear hsp HLm HO HOG
                have HLA : Hid (mB (.bool true) (lenAt p wr) = sj.size + 1) := hid (by show lenAt p wr + 1 = _; rw [lenAt_ps hps])
                go_wp2_with fail
                refine (expr_any p 1000000 (Nat.le_refl _) sj _ hps (by omega)).mono ?_
                rintro e w2 ⟨u, rfl, rx, x, rfl, hx, hps2, hg2, hgd⟩
                obtain ⟨q, hq⟩ : ∃ q, exprS sj = q := ⟨_, rfl⟩
                rw [hq] at hps2 hgd
                have hL2 := hL.go kOrd_ok hg2 (ab_no (by omega))
                have hqf2 := hqf.go hg2
                have hp2 : p < w2.heap.size := by have := hqf2.sb.lt; omega
                have hx0 : Ex.At (fun b => Ab B2 b ∧ v.ownBlock ≠ some b) w2 x rx := hx.mono (fun b _ hb => by
                  have hb : wr.heap.size ≤ b := hb
                  have := hqf.hz
                  exact ⟨by show B2 ≤ b; omega, fun e => by have := (hL.blk e).2; omega⟩)
                have HX0 : Hid (∀ W5, W5.heap[w2.heap.size]? = some (.cells (oF ⟨rx, false⟩).toArray 42 (0, 0)) → Go1 w2.heap.size (w2.alloc (.cells zO.toArray 42)) W5 → XB p w2 42 (oF ⟨rx, false⟩) q.2 W5) := hid (fun W5 a b => XB.start hp2 hps2 a b)
                have HA : Hid ((w2.alloc (.cells zO.toArray 42)).heap[w2.heap.size]? = some (.cells zO.toArray 42 (0, 0))) := hid (alloc_at _ _)
                have HL := hid hL2
                have HEX := hid hx0
                have HQF := hid hqf2
                have HR2 := hid hR
                have HGD := hid hgd
                clear hL hps hps2 hg2 hL2 hx hx0 hqf hqf2 hR hgd
                unfold XR.val
                go_wp2_with (guard_target =~ wpList _ _ _ (Oper.mk _ (Op.store 42 _ _) _ _ _ _ :: _) _ _; refine st_row (ty := 42) rfl rfl w2.heap.size (oF ⟨rx, false⟩).toArray rfl rfl 42 _ (HA.out) (by kernel_rfl) rfl (by kernel_rfl) ?_; intro W5 hW5 gW5 zW5; have HQ := hid (HX0.out W5 hW5 gW5); clear hW5 gW5 zW5 HX0 HA)
                have hx5 := HQ.out
                clear HQ
                refine (word_any p ⟨#[97, 115, 99]⟩ q.2 _ hx5.ps).mono ?_
                rintro e w6 ⟨rfl, hps6, hg6⟩
                have hx6 := hx5.go hps6 hg6
                clear hx5 hps6 hg6
                cases hA : q.2.is 1 ⟨#[97, 115, 99]⟩ with
                | true =>
                  rw [may_y hA] at hx6
                  have HQ0 : Hid (ordS sj = (⟨q.1, false⟩, q.2.step)) := hid (by unfold ordS; simp only [hq, hA, if_true])
                  have HGQ : Hid (q.2.step.good = true → q.2.good = true) := hid step_good
                  clear hA hq
                  have hxz := hx6
                  clear hx6
                  generalize w6 = wz at *
                  have kc := Rg.blk_cells hxz.x
                  simp only [oF, xF, List.cons_append, List.nil_append] at kc
                  have hqfz := HQF.out.go hxz.g
                  have hLz := HL.out.go kOrd_ok hxz.g (ab_no (by omega))
                  have hxe := HEX.out.of hxz.g.size (fun b hb hl => hxz.g.get hl (by have : B2 ≤ b := hb.1; omega))
                  have k38 : wz.cell? ⟨S0, 38, none⟩ = some v := hqfz.sb.cell 38
                  obtain ⟨v', wy, hrun, k38', kfy, hsby, hLy, hpsy, ⟨g9, m9, c9, rfl⟩, hkp, _⟩ := SB.push kOrd_ok kt_ord 33 (k := 38) (y := ⟨x, false⟩) (r := ⟨rx, false⟩) (cl := #[.int .i64 rx.h.op, .int .i64 rx.h.v.t, .int .i64 rx.h.v.n, .string rx.h.v.s, .bool rx.h.v.b, .string rx.h.tab, .string rx.h.name, .int .i64 rx.h.t, .int .i64 rx.h.c, .bool rx.h.nt, .bool rx.h.st, .slice rx.oa rx.n rx.cap, .bool false]) (fun b h => by have : B2 ≤ b := h; omega) (fun b h => by have := hqfz.hz; show B2 ≤ b; omega) hqfz.sb (by rw [SR.len]; decide) hLz (by omega) hxz.ps ⟨rfl, hxe⟩ rfl
                  have hqfy := hqfz.push hsby hkp (fun b e => (hLz.blk e).1)
                  have HRUN := hid hrun
                  have HQY := hid hqfy
                  have HLY := hid hLy
                  have HPSY := hid hpsy
                  clear hqfz hLz hrun hsby hLy hpsy hkp hqfy hxz hxe HQF HL HEX
                  go_wp2_with (at_builtin; refine Lib.wpList_append_run _ rfl _ _ _ _ rfl _ _ rfl rfl _ _ HRUN.out ?_)
                  refine (sign_any' p ⟨#[44]⟩ q.2.step _ HPSY.out).mono ?_
                  rintro e w9 ⟨rfl, hps9, hg9⟩
                  have hL9 := HLY.out.go kOrd_ok hg9 (ab_no (by omega))
                  have hnx := SpRel.next (q := ordS) (s := sj) (y := ⟨x, false⟩) ni_ordS hL9 (by rw [HQ0.out]; exact hps9) HR2.out hm hN (fun h => by rw [HQ0.out] at h ⊢; rw [HGD.out (HGQ.out h)])
                  rw [HQ0.out] at hnx
                  have HNX := hid hnx
                  have HQF9 := hid (HQY.out.go hg9)
                  clear hL9 hnx hps9 hg9 HRUN HLY HPSY HQY HR2 HQ0 HGD HGQ kc k38 k38' kfy
                  generalize (q.2.step).is 4 ⟨#[44]⟩ = b9 at *
                  go_wp2
                  exact ⟨⟨b9, _, rfl, HQF9.out, HNX.out.1⟩, by rw [HLA.out]; exact HNX.out.2⟩
                | false =>
                  rw [may_n hA] at hx6
                  obtain ⟨dd, hdd⟩ : ∃ dd, q.2.is 1 ⟨#[100, 101, 115, 99]⟩ = dd := ⟨_, rfl⟩
                  obtain ⟨t5, ht5⟩ : ∃ t5, (q.2.may 1 ⟨#[100, 101, 115, 99]⟩).2 = t5 := ⟨_, rfl⟩
                  have hwd : q.2.word ⟨#[100, 101, 115, 99]⟩ = (dd, t5) := by rw [← hdd, ← ht5]; unfold Ps.word Ps.may; split <;> simp_all
                  have HQ0 : Hid (ordS sj = (⟨q.1, dd⟩, t5)) := hid (by unfold ordS; simp only [hq, hA, Bool.false_eq_true, if_false, hwd])
                  have HGQ : Hid (t5.good = true → q.2.good = true) := hid (fun h => by rw [← ht5] at h; exact may_good h)
                  clear hA hq hwd
                  go_wp2_with fail
                  refine (word_any p ⟨#[100, 101, 115, 99]⟩ q.2 _ hx6.ps).mono ?_
                  rintro e w7 ⟨rfl, hps7, hg7⟩
                  rw [hdd]
                  rw [ht5] at hps7
                  have hx7 := hx6.go hps7 hg7
                  clear hx6 hps7 hg7 hdd ht5
                  have k12 : w7.cell? ⟨w2.heap.size, 12, none⟩ = some (.bool false) := hx7.cell 12
                  have kf := Rg.blk_free hx7.x
                  have hx8 : XB p w2 42 (oF ⟨rx, dd⟩) t5 (w7.setCell ⟨w2.heap.size, 12, none⟩ (.bool dd)) := by rw [← put_oe]; exact hx7.set 12 (.bool dd)
                  clear hx7
                  go_upto_region 27 with fail
                  clear k12 kf
                  generalize World.setCell w7 _ _ = wz at *
                  have hxz := hx8
                  clear hx8
                  have kc := Rg.blk_cells hxz.x
                  simp only [oF, xF, List.cons_append, List.nil_append] at kc
                  have hqfz := HQF.out.go hxz.g
                  have hLz := HL.out.go kOrd_ok hxz.g (ab_no (by omega))
                  have hxe := HEX.out.of hxz.g.size (fun b hb hl => hxz.g.get hl (by have : B2 ≤ b := hb.1; omega))
                  have k38 : wz.cell? ⟨S0, 38, none⟩ = some v := hqfz.sb.cell 38
                  obtain ⟨v', wy, hrun, k38', kfy, hsby, hLy, hpsy, ⟨g9, m9, c9, rfl⟩, hkp, _⟩ := SB.push kOrd_ok kt_ord 33 (k := 38) (y := ⟨x, dd⟩) (r := ⟨rx, dd⟩) (cl := #[.int .i64 rx.h.op, .int .i64 rx.h.v.t, .int .i64 rx.h.v.n, .string rx.h.v.s, .bool rx.h.v.b, .string rx.h.tab, .string rx.h.name, .int .i64 rx.h.t, .int .i64 rx.h.c, .bool rx.h.nt, .bool rx.h.st, .slice rx.oa rx.n rx.cap, .bool dd]) (fun b h => by have : B2 ≤ b := h; omega) (fun b h => by have := hqfz.hz; show B2 ≤ b; omega) hqfz.sb (by rw [SR.len]; decide) hLz (by omega) hxz.ps ⟨rfl, hxe⟩ rfl
                  have hqfy := hqfz.push hsby hkp (fun b e => (hLz.blk e).1)
                  have HRUN := hid hrun
                  have HQY := hid hqfy
                  have HLY := hid hLy
                  have HPSY := hid hpsy
                  clear hqfz hLz hrun hsby hLy hpsy hkp hqfy hxz hxe HQF HL HEX
                  go_wp2_with (at_builtin; refine Lib.wpList_append_run _ rfl _ _ _ _ rfl _ _ rfl rfl _ _ HRUN.out ?_)
                  refine (sign_any' p ⟨#[44]⟩ t5 _ HPSY.out).mono ?_
                  rintro e w9 ⟨rfl, hps9, hg9⟩
                  have hL9 := HLY.out.go kOrd_ok hg9 (ab_no (by omega))
                  have hnx := SpRel.next (q := ordS) (s := sj) (y := ⟨x, dd⟩) ni_ordS hL9 (by rw [HQ0.out]; exact hps9) HR2.out hm hN (fun h => by rw [HQ0.out] at h ⊢; rw [HGD.out (HGQ.out h)])
                  rw [HQ0.out] at hnx
                  have HNX := hid hnx
                  have HQF9 := hid (HQY.out.go hg9)
                  clear hL9 hnx hps9 hg9 HRUN HLY HPSY HQY HR2 HQ0 HGD HGQ kc k38 k38' kfy
                  generalize (t5).is 4 ⟨#[44]⟩ = b9 at *
                  go_wp2
                  exact ⟨⟨b9, _, rfl, HQF9.out, HNX.out.1⟩, by rw [HLA.out]; exact HNX.out.2⟩
        | true =>
          rw [may_y hGp] at hqg0
          obtain ⟨sy, hsy⟩ : ∃ sy, C.2.step.need 1 ⟨#[98, 121]⟩ = sy := ⟨_, rfl⟩
          have hGG : sep exprS sy = G := by rw [← HGr.out]; unfold groupS; rw [hGp]; simp only [if_true, hsy]
          have hzy : sy.size ≤ 1000000 := by rw [← hsy]; exact Nat.le_trans (size_need _ _ _) (Nat.le_trans (size_step _) (Nat.le_trans Z8.out (by decide)))
          go_wp2_with fail
          have hAg := (Gr.refl wg0).alloc (.cells #[.string ⟨#[98, 121]⟩] 9)
          refine (words_one p _ ⟨#[98, 121]⟩ C.2.step _ (hqg0.ps.keep hAg) (by rw [Rg.blk_cells (alloc_at _ _)]; rfl)).mono ?_
          rintro e wg1 ⟨rfl, hpsg1, hgg1⟩
          rw [hsy] at hpsg1
          have hqg1 := hqg0.go hpsg1 ((Go1.of hAg).trans hgg1) (fun h => by rw [← hsy] at h; exact kneed_good h)
          clear hqg0 hpsg1 hgg1 hAg hsy hGp
          go_wp2_with fail
          have hgk := kb_good (s := sy) (kb_sep kb_exprS)
          refine (exprs_all p sy _ hqg1.ps hzy).mono ?_
          rintro e wg2 ⟨u, rfl, oa, n9, cap9, xs, rfl, hxs, hpsg2, hgg2, _, _, hgdg⟩
          rw [hGG] at hpsg2 hgdg hgk
          have hlg := hqg1.sb.lt
          have hqg2 := hqg1.go hpsg2 hgg2 hgk
          have k37 : wg2.cell? ⟨S0, 37, none⟩ = some (.slice none 0 0) := hqg2.sb.cell 37
          have kf := Rg.blk_free hqg2.sb.s
          have hqg3 : QB (Ab (S0 + 1)) p w R0 S0 { kind := 8, explain := xe.1, distinct := xd.1, limit := -1, items := I.1, refs := F.1, wher := C.1, group := G.1 } { kind := 8, explain := xe.1, distinct := xd.1, limit := -1, items := si, refs := sr, wher := rw, group := ⟨oa, n9, cap9⟩ } G.2 (wg2.setCell ⟨S0, 37, none⟩ (.slice oa n9 cap9)) := hqg2.group (ys := xs) (sl := ⟨oa, n9, cap9⟩) ((ks_x.1 hxs).mono kX_ok (fun b _ hb => by have : wg1.heap.size ≤ b := hb; show S0 + 1 ≤ b; omega)) hgdg
          clear hqg1 hqg2 hxs hpsg2 hgg2 hgdg hgk hGG hzy HGr hlg
          go_wp2_with fail
          clear k37 kf
          generalize World.setCell wg2 _ _ = wg3 at *
          obtain ⟨sg, hsg⟩ : ∃ sg : Slc, (⟨oa, n9, cap9⟩ : Slc) = sg := ⟨_, rfl⟩
          rw [hsg] at hqg3
          clear hsg
          have hqg := hqg3
          clear hqg3
          have hvg := kb_good (s := G.2) (kb_clauseS ⟨#[104, 97, 118, 105, 110, 103]⟩)
          refine (clause_any p ⟨#[104, 97, 118, 105, 110, 103]⟩ G.2 _ hqg.ps (by have := Z9.out; omega)).mono ?_
          rintro e wv ⟨u, rfl, rv, xv, rfl, hxv, hpsv, hgv, hgdv⟩
          rw [HV.out] at hpsv hgdv hvg
          have hlv := hqg.sb.lt
          have hqv := hqg.go hpsv hgv hvg
          have HW : Hid (∀ WA, WA.heap[S0]? = some (.cells (SR.cs { kind := 8, explain := xe.1, distinct := xd.1, limit := -1, items := si, refs := sr, wher := rw, group := sg, having := rv }).toArray 35 (0, 0)) → Go1 S0 wv WA → QB (Ab (S0 + 1)) p w R0 S0 { kind := 8, explain := xe.1, distinct := xd.1, limit := -1, items := I.1, refs := F.1, wher := C.1, group := G.1, having := V.1 } { kind := 8, explain := xe.1, distinct := xd.1, limit := -1, items := si, refs := sr, wher := rw, group := sg, having := rv } V.2 WA) := hid (fun WA hA hgA => hqv.having (hxv.mono (fun b _ hb => by have : wg3.heap.size ≤ b := hb; show S0 + 1 ≤ b; omega)) hgdv hA hgA)
          have HXV := hid hqv.sb.s
          clear hqg hxv hpsv hgv hgdv hvg hlv hqv HV
          unfold XR.val
          go_wp2_with (guard_target =~ wpList _ _ _ (Oper.mk _ (Op.store 32 _ _) _ _ _ _ :: _) _ _; refine st_part (ty := 32) rfl rfl S0 25 (xF rv).toArray rfl rfl 35 _ HXV.out (by kernel_rfl) (by rw [SR.len]; show 25 + 12 ≤ 41; decide) (by kernel_rfl) ?_; intro WV hWV gWV; rw [show (xF rv).toArray.toList = xF rv from rfl, put_having] at hWV; have HQV := hid (HW.out WV hWV gWV); clear hWV gWV HW HXV)
          have hqw := HQV.out
          clear HQV
          refine (word_any p ⟨#[111, 114, 100, 101, 114]⟩ V.2 _ hqw.ps).mono ?_
          rintro e wo0 ⟨rfl, hpso, hgo⟩
          have hqo0 := hqw.go hpso hgo may_good
          clear hqw hpso hgo
          cases hOr : V.2.is 1 ⟨#[111, 114, 100, 101, 114]⟩ with
          | false =>
            rw [may_n hOr] at hqo0
            have hOO : O = ([], V.2) := by rw [← HO.out]; unfold orderS; rw [hOr]; rfl
            obtain ⟨so, hso⟩ : ∃ so : Slc, ({} : Slc) = so := ⟨_, rfl⟩
            have hqo : QB (Ab (S0 + 1)) p w R0 S0 { kind := 8, explain := xe.1, distinct := xd.1, limit := -1, items := I.1, refs := F.1, wher := C.1, group := G.1, having := V.1, order := O.1 } { kind := 8, explain := xe.1, distinct := xd.1, limit := -1, items := si, refs := sr, wher := rw, group := sg, having := rv, order := so } O.2 wo0 := by rw [hOO, ← hso]; exact hqo0
            clear hqo0 hOO hso hOr HO
            go_wp2_with fail
            refine (word_any p ⟨#[108, 105, 109, 105, 116]⟩ O.2 _ hqo.ps).mono ?_
            rintro e wl ⟨rfl, hpsl, hgl⟩
            cases hLi : O.2.is 1 ⟨#[108, 105, 109, 105, 116]⟩ with
            | false =>
              have hql := hqo.go hpsl hgl may_good
              rw [may_n hLi] at hql
              have hLL : L = ((-1, 0), O.2) := by rw [← HLm.out]; unfold limitS; rw [hLi]; rfl
              clear hqo hpsl hgl hLi
              obtain ⟨rr, hrr⟩ : ∃ rr : SR, ({ kind := 8, explain := xe.1, distinct := xd.1, limit := -1, items := si, refs := sr, wher := rw, group := sg, having := rv, order := so } : SR) = rr := ⟨_, rfl⟩
              rw [hrr] at hql
              have HX := hid hql.sb.s
              have HZ : Hid (_ = some (Obj.cells (SR.cs {}).toArray 35 (0, 0))) := hid hql.sb.z
              have FI : Hid (∀ W9, Go1 R0 _ W9 → Rst p w ({ kind := 8, explain := xe.1, distinct := xd.1, limit := L.1.1, items := I.1, refs := F.1, wher := C.1, group := G.1, having := V.1, order := O.1, offset := L.1.2 }, L.2) (SR.val rr) W9) := hid (fun W9 h9 => by have := hql.give h9; rw [hLL]; exact this)
              clear hql hrr
              go_wp2_with (first | (guard_target =~ wpList _ _ _ (Oper.mk _ (Op.load 35 _) _ _ _ _ :: _) _ _; refine wpList_load_row rfl 35 _ rfl S0 (by kernel_rfl) 35 (SR.cs rr).toArray (0, 0) _ HX.out Try.underlying35 rfl (sr_info rr) ?_) | (guard_target =~ wpList _ _ _ (Oper.mk _ (Op.store 35 _ _) _ _ _ _ :: _) _ _; refine st_row (ty := 35) (x := .tmp 2) (y := .tmp 98) ?_ ?_ R0 (SR.cs rr).toArray ?_ ?_ 35 (SR.cs {}).toArray HZ.out (sr_info rr) (sr_old {} rr) (sr_one rr) ?_; exact rfl; exact rfl; kernel_rfl; kernel_rfl; intro W9 hW9 gW9 zW9; apply wpList_nil; rename_i hKK; refine hKK _ _ (wp_ret ?_); refine bodyPost_ret (v := SR.val rr) (results_cell_row (g := R0) rfl _ _ _ _ _ _ (by kernel_rfl) hW9 Try.underlying35 rfl (sr_info rr)) rfl ?_; exact ⟨_, rfl, FI.out W9 gW9⟩))
            | true =>
              have hql := hqo.go hpsl hgl may_good
              rw [may_y hLi] at hql
              obtain ⟨nl, hnl⟩ : ∃ nl, O.2.step.num = nl := ⟨_, rfl⟩
              have hLL : L = (let m := offS nl.2; ((nl.1, m.1), m.2)) := by rw [← HLm.out]; unfold limitS; rw [hLi]; simp only [if_true, hnl]
              have HLL := hid hLL
              clear hqo hpsl hgl hLi hLL HLm
              go_wp2_with fail
              refine (pnum_any p O.2.step _ hql.ps).mono ?_
              rintro e wn ⟨rfl, hpsn, hgn⟩
              have hqn := hql.go hpsn hgn (fun h => by
                have : O.2.step.num.2.good = true := h
                cases hst : O.2.step with
                | ok l d => rfl
                | bad e a => rw [hst] at this; cases this)
              rw [hnl] at hqn
              rw [hnl]
              have k39 : wn.cell? ⟨S0, 39, none⟩ = some (.int .i64 (-1)) := hqn.sb.cell 39
              have kf := Rg.blk_free hqn.sb.s
              have hqm : QB (Ab (S0 + 1)) p w R0 S0 { kind := 8, explain := xe.1, distinct := xd.1, limit := nl.1, items := I.1, refs := F.1, wher := C.1, group := G.1, having := V.1, order := O.1 } { kind := 8, explain := xe.1, distinct := xd.1, limit := nl.1, items := si, refs := sr, wher := rw, group := sg, having := rv, order := so } nl.2 (wn.setCell ⟨S0, 39, none⟩ (.int .i64 nl.1)) := hqn.limit nl.1
              clear hql hpsn hgn hnl hqn
              go_wp2_with fail
              clear k39 kf
              generalize World.setCell wn _ _ = wm at *
              refine (word_any p ⟨#[111, 102, 102, 115, 101, 116]⟩ nl.2 _ hqm.ps).mono ?_
              rintro e wf ⟨rfl, hpsf, hgf⟩
              cases hOf : nl.2.is 1 ⟨#[111, 102, 102, 115, 101, 116]⟩ with
              | false =>
                have hqf := hqm.go hpsf hgf may_good
                rw [may_n hOf] at hqf
                have hLL : L = ((nl.1, 0), nl.2) := by rw [HLL.out]; unfold offS; rw [hOf]; rfl
                clear hqm hpsf hgf hOf
                obtain ⟨rr, hrr⟩ : ∃ rr : SR, ({ kind := 8, explain := xe.1, distinct := xd.1, limit := nl.1, items := si, refs := sr, wher := rw, group := sg, having := rv, order := so } : SR) = rr := ⟨_, rfl⟩
                rw [hrr] at hqf
                have HX := hid hqf.sb.s
                have HZ : Hid (_ = some (Obj.cells (SR.cs {}).toArray 35 (0, 0))) := hid hqf.sb.z
                have FI : Hid (∀ W9, Go1 R0 _ W9 → Rst p w ({ kind := 8, explain := xe.1, distinct := xd.1, limit := L.1.1, items := I.1, refs := F.1, wher := C.1, group := G.1, having := V.1, order := O.1, offset := L.1.2 }, L.2) (SR.val rr) W9) := hid (fun W9 h9 => by have := hqf.give h9; rw [hLL]; exact this)
                clear hqf hrr
                go_wp2_with (first | (guard_target =~ wpList _ _ _ (Oper.mk _ (Op.load 35 _) _ _ _ _ :: _) _ _; refine wpList_load_row rfl 35 _ rfl S0 (by kernel_rfl) 35 (SR.cs rr).toArray (0, 0) _ HX.out Try.underlying35 rfl (sr_info rr) ?_) | (guard_target =~ wpList _ _ _ (Oper.mk _ (Op.store 35 _ _) _ _ _ _ :: _) _ _; refine st_row (ty := 35) (x := .tmp 2) (y := .tmp 98) ?_ ?_ R0 (SR.cs rr).toArray ?_ ?_ 35 (SR.cs {}).toArray HZ.out (sr_info rr) (sr_old {} rr) (sr_one rr) ?_; exact rfl; exact rfl; kernel_rfl; kernel_rfl; intro W9 hW9 gW9 zW9; apply wpList_nil; rename_i hKK; refine hKK _ _ (wp_ret ?_); refine bodyPost_ret (v := SR.val rr) (results_cell_row (g := R0) rfl _ _ _ _ _ _ (by kernel_rfl) hW9 Try.underlying35 rfl (sr_info rr)) rfl ?_; exact ⟨_, rfl, FI.out W9 gW9⟩))
              | true =>
                have hqf := hqm.go hpsf hgf may_good
                rw [may_y hOf] at hqf
                obtain ⟨nf, hnf⟩ : ∃ nf, nl.2.step.num = nf := ⟨_, rfl⟩
                have hLL : L = ((nl.1, nf.1), nf.2) := by rw [HLL.out]; unfold offS; rw [hOf]; simp only [if_true, hnf]
                have HL2 := hid hLL
                clear hqm hpsf hgf hOf hLL HLL
                go_wp2_with fail
                refine (pnum_any p nl.2.step _ hqf.ps).mono ?_
                rintro e wg ⟨rfl, hpsg, hgg⟩
                have hqg := hqf.go hpsg hgg (fun h => by
                  have : nl.2.step.num.2.good = true := h
                  cases hst : nl.2.step with
                  | ok l d => rfl
                  | bad e a => rw [hst] at this; cases this)
                rw [hnf] at hqg
                rw [hnf]
                have k40 : wg.cell? ⟨S0, 40, none⟩ = some (.int .i64 0) := hqg.sb.cell 40
                have kf := Rg.blk_free hqg.sb.s
                have hqh : QB (Ab (S0 + 1)) p w R0 S0 { kind := 8, explain := xe.1, distinct := xd.1, limit := nl.1, items := I.1, refs := F.1, wher := C.1, group := G.1, having := V.1, order := O.1, offset := nf.1 } { kind := 8, explain := xe.1, distinct := xd.1, limit := nl.1, items := si, refs := sr, wher := rw, group := sg, having := rv, order := so, offset := nf.1 } nf.2 (wg.setCell ⟨S0, 40, none⟩ (.int .i64 nf.1)) := hqg.offset nf.1
                clear hqf hpsg hgg hnf hqg
                go_upto_region 32 with fail
                clear k40 kf
                generalize World.setCell wg _ _ = wh at *
                obtain ⟨rr, hrr⟩ : ∃ rr : SR, ({ kind := 8, explain := xe.1, distinct := xd.1, limit := nl.1, items := si, refs := sr, wher := rw, group := sg, having := rv, order := so, offset := nf.1 } : SR) = rr := ⟨_, rfl⟩
                rw [hrr] at hqh
                have HX := hid hqh.sb.s
                have HZ : Hid (_ = some (Obj.cells (SR.cs {}).toArray 35 (0, 0))) := hid hqh.sb.z
                have FI : Hid (∀ W9, Go1 R0 _ W9 → Rst p w ({ kind := 8, explain := xe.1, distinct := xd.1, limit := L.1.1, items := I.1, refs := F.1, wher := C.1, group := G.1, having := V.1, order := O.1, offset := L.1.2 }, L.2) (SR.val rr) W9) := hid (fun W9 h9 => by have := hqh.give h9; rw [HL2.out]; exact this)
                clear hqh hrr
                go_wp2_with (first | (guard_target =~ wpList _ _ _ (Oper.mk _ (Op.load 35 _) _ _ _ _ :: _) _ _; refine wpList_load_row rfl 35 _ rfl S0 (by kernel_rfl) 35 (SR.cs rr).toArray (0, 0) _ HX.out Try.underlying35 rfl (sr_info rr) ?_) | (guard_target =~ wpList _ _ _ (Oper.mk _ (Op.store 35 _ _) _ _ _ _ :: _) _ _; refine st_row (ty := 35) (x := .tmp 2) (y := .tmp 98) ?_ ?_ R0 (SR.cs rr).toArray ?_ ?_ 35 (SR.cs {}).toArray HZ.out (sr_info rr) (sr_old {} rr) (sr_one rr) ?_; exact rfl; exact rfl; kernel_rfl; kernel_rfl; intro W9 hW9 gW9 zW9; apply wpList_nil; rename_i hKK; refine hKK _ _ (wp_ret ?_); refine bodyPost_ret (v := SR.val rr) (results_cell_row (g := R0) rfl _ _ _ _ _ _ (by kernel_rfl) hW9 Try.underlying35 rfl (sr_info rr)) rfl ?_; exact ⟨_, rfl, FI.out W9 gW9⟩))
          | true =>
            rw [may_y hOr] at hqo0
            obtain ⟨sy, hsy⟩ : ∃ sy, V.2.step.need 1 ⟨#[98, 121]⟩ = sy := ⟨_, rfl⟩
            have hOO : sep ordS sy = O := by rw [← HO.out]; unfold orderS; rw [hOr]; simp only [if_true, hsy]
            have hzy : sy.size ≤ 900000 := by rw [← hsy]; exact Nat.le_trans (size_need _ _ _) (Nat.le_trans (size_step _) Z10.out)
            go_wp2_with fail
            have hAo := (Gr.refl wo0).alloc (.cells #[.string ⟨#[98, 121]⟩] 9)
            refine (words_one p _ ⟨#[98, 121]⟩ V.2.step _ (hqo0.ps.keep hAo) (by rw [Rg.blk_cells (alloc_at _ _)]; rfl)).mono ?_
            rintro e wy0 ⟨rfl, hpsy0, hgy0⟩
            rw [hsy] at hpsy0
            have hqy := hqo0.go hpsy0 ((Go1.of hAo).trans hgy0) (fun h => by rw [← hsy] at h; exact kneed_good h)
            obtain ⟨B2, hB2⟩ : ∃ B2, wy0.heap.size = B2 := ⟨_, rfl⟩
            have hSB2 : S0 + 1 ≤ B2 := by have := hqy.sb.lt; omega
            have hfr := QF.frame hqy (k := 38) (.slice none 0 0) rfl
            rw [hB2] at hfr
            have HST2 : Hid (OrRel p 900000 w R0 S0 B2 { kind := 8, explain := xe.1, distinct := xd.1, limit := -1, items := I.1, refs := F.1, wher := C.1, group := G.1, having := V.1 } { kind := 8, explain := xe.1, distinct := xd.1, limit := -1, items := si, refs := sr, wher := rw, group := sg, having := rv } sy O (.bool true) wy0) := hid ⟨true, .slice none 0 0, rfl, hfr, SpRel.start hqy.ps hzy hOO⟩
            have HOG : Hid (O.2.good = true → sy.good = true) := hid (fun h => by
              rw [← hOO] at h
              exact kb_good (kb_sep kb_ordS) h)
            clear hqo0 hAo hpsy0 hgy0 hqy hfr hOO hsy hOr hzy
            go_wp2_with fail
            go_loopw [5] (fun s5 wr => OrRel p 900000 w R0 S0 B2 { kind := 8, explain := xe.1, distinct := xd.1, limit := -1, items := I.1, refs := F.1, wher := C.1, group := G.1, having := V.1 } { kind := 8, explain := xe.1, distinct := xd.1, limit := -1, items := si, refs := sr, wher := rw, group := sg, having := rv } sy O s5 wr) (fun s5 wr => mB s5 (lenAt p wr))
            · exact HST2.out
            · clear HST2
              obtain ⟨b, v, rfl, hqf, hsp⟩ := hrel
              cases b with
              | false =>
                obtain ⟨ys, hL, hps, hyg, hlen⟩ := hsp.no
                clear hsp
                obtain ⟨so, rfl, hks, _⟩ := hL.at kOrd_ok (by omega)
                have hqo : QB (Ab (S0 + 1)) p w R0 S0 { kind := 8, explain := xe.1, distinct := xd.1, limit := -1, items := I.1, refs := F.1, wher := C.1, group := G.1, having := V.1, order := O.1 } { kind := 8, explain := xe.1, distinct := xd.1, limit := -1, items := si, refs := sr, wher := rw, group := sg, having := rv, order := so } O.2 wr := hqf.order hps HOG.out rfl hks hyg
                clear hqf hL hps hyg hks HOG HO hlen
                go_wp2_with fail
                refine (word_any p ⟨#[108, 105, 109, 105, 116]⟩ O.2 _ hqo.ps).mono ?_
                rintro e wl ⟨rfl, hpsl, hgl⟩
                cases hLi : O.2.is 1 ⟨#[108, 105, 109, 105, 116]⟩ with
                | false =>
                  have hql := hqo.go hpsl hgl may_good
                  rw [may_n hLi] at hql
                  have hLL : L = ((-1, 0), O.2) := by rw [← HLm.out]; unfold limitS; rw [hLi]; rfl
                  clear hqo hpsl hgl hLi
                  obtain ⟨rr, hrr⟩ : ∃ rr : SR, ({ kind := 8, explain := xe.1, distinct := xd.1, limit := -1, items := si, refs := sr, wher := rw, group := sg, having := rv, order := so } : SR) = rr := ⟨_, rfl⟩
                  rw [hrr] at hql
                  have HX := hid hql.sb.s
                  have HZ : Hid (_ = some (Obj.cells (SR.cs {}).toArray 35 (0, 0))) := hid hql.sb.z
                  have FI : Hid (∀ W9, Go1 R0 _ W9 → Rst p w ({ kind := 8, explain := xe.1, distinct := xd.1, limit := L.1.1, items := I.1, refs := F.1, wher := C.1, group := G.1, having := V.1, order := O.1, offset := L.1.2 }, L.2) (SR.val rr) W9) := hid (fun W9 h9 => by have := hql.give h9; rw [hLL]; exact this)
                  clear hql hrr
                  go_wp2_with (first | (guard_target =~ wpList _ _ _ (Oper.mk _ (Op.load 35 _) _ _ _ _ :: _) _ _; refine wpList_load_row rfl 35 _ rfl S0 (by kernel_rfl) 35 (SR.cs rr).toArray (0, 0) _ HX.out Try.underlying35 rfl (sr_info rr) ?_) | (guard_target =~ wpList _ _ _ (Oper.mk _ (Op.store 35 _ _) _ _ _ _ :: _) _ _; refine st_row (ty := 35) (x := .tmp 2) (y := .tmp 98) ?_ ?_ R0 (SR.cs rr).toArray ?_ ?_ 35 (SR.cs {}).toArray HZ.out (sr_info rr) (sr_old {} rr) (sr_one rr) ?_; exact rfl; exact rfl; kernel_rfl; kernel_rfl; intro W9 hW9 gW9 zW9; apply wpList_nil; rename_i hKK; refine hKK _ _ (wp_ret ?_); refine bodyPost_ret (v := SR.val rr) (results_cell_row (g := R0) rfl _ _ _ _ _ _ (by kernel_rfl) hW9 Try.underlying35 rfl (sr_info rr)) rfl ?_; exact ⟨_, rfl, FI.out W9 gW9⟩))
                | true =>
                  have hql := hqo.go hpsl hgl may_good
                  rw [may_y hLi] at hql
                  obtain ⟨nl, hnl⟩ : ∃ nl, O.2.step.num = nl := ⟨_, rfl⟩
                  have hLL : L = (let m := offS nl.2; ((nl.1, m.1), m.2)) := by rw [← HLm.out]; unfold limitS; rw [hLi]; simp only [if_true, hnl]
                  have HLL := hid hLL
                  clear hqo hpsl hgl hLi hLL HLm
                  go_wp2_with fail
                  refine (pnum_any p O.2.step _ hql.ps).mono ?_
                  rintro e wn ⟨rfl, hpsn, hgn⟩
                  have hqn := hql.go hpsn hgn (fun h => by
                    have : O.2.step.num.2.good = true := h
                    cases hst : O.2.step with
                    | ok l d => rfl
                    | bad e a => rw [hst] at this; cases this)
                  rw [hnl] at hqn
                  rw [hnl]
                  have k39 : wn.cell? ⟨S0, 39, none⟩ = some (.int .i64 (-1)) := hqn.sb.cell 39
                  have kf := Rg.blk_free hqn.sb.s
                  have hqm : QB (Ab (S0 + 1)) p w R0 S0 { kind := 8, explain := xe.1, distinct := xd.1, limit := nl.1, items := I.1, refs := F.1, wher := C.1, group := G.1, having := V.1, order := O.1 } { kind := 8, explain := xe.1, distinct := xd.1, limit := nl.1, items := si, refs := sr, wher := rw, group := sg, having := rv, order := so } nl.2 (wn.setCell ⟨S0, 39, none⟩ (.int .i64 nl.1)) := hqn.limit nl.1
                  clear hql hpsn hgn hnl hqn
                  go_wp2_with fail
                  clear k39 kf
                  generalize World.setCell wn _ _ = wm at *
                  refine (word_any p ⟨#[111, 102, 102, 115, 101, 116]⟩ nl.2 _ hqm.ps).mono ?_
                  rintro e wf ⟨rfl, hpsf, hgf⟩
                  cases hOf : nl.2.is 1 ⟨#[111, 102, 102, 115, 101, 116]⟩ with
                  | false =>
                    have hqf := hqm.go hpsf hgf may_good
                    rw [may_n hOf] at hqf
                    have hLL : L = ((nl.1, 0), nl.2) := by rw [HLL.out]; unfold offS; rw [hOf]; rfl
                    clear hqm hpsf hgf hOf
                    obtain ⟨rr, hrr⟩ : ∃ rr : SR, ({ kind := 8, explain := xe.1, distinct := xd.1, limit := nl.1, items := si, refs := sr, wher := rw, group := sg, having := rv, order := so } : SR) = rr := ⟨_, rfl⟩
                    rw [hrr] at hqf
                    have HX := hid hqf.sb.s
                    have HZ : Hid (_ = some (Obj.cells (SR.cs {}).toArray 35 (0, 0))) := hid hqf.sb.z
                    have FI : Hid (∀ W9, Go1 R0 _ W9 → Rst p w ({ kind := 8, explain := xe.1, distinct := xd.1, limit := L.1.1, items := I.1, refs := F.1, wher := C.1, group := G.1, having := V.1, order := O.1, offset := L.1.2 }, L.2) (SR.val rr) W9) := hid (fun W9 h9 => by have := hqf.give h9; rw [hLL]; exact this)
                    clear hqf hrr
                    go_wp2_with (first | (guard_target =~ wpList _ _ _ (Oper.mk _ (Op.load 35 _) _ _ _ _ :: _) _ _; refine wpList_load_row rfl 35 _ rfl S0 (by kernel_rfl) 35 (SR.cs rr).toArray (0, 0) _ HX.out Try.underlying35 rfl (sr_info rr) ?_) | (guard_target =~ wpList _ _ _ (Oper.mk _ (Op.store 35 _ _) _ _ _ _ :: _) _ _; refine st_row (ty := 35) (x := .tmp 2) (y := .tmp 98) ?_ ?_ R0 (SR.cs rr).toArray ?_ ?_ 35 (SR.cs {}).toArray HZ.out (sr_info rr) (sr_old {} rr) (sr_one rr) ?_; exact rfl; exact rfl; kernel_rfl; kernel_rfl; intro W9 hW9 gW9 zW9; apply wpList_nil; rename_i hKK; refine hKK _ _ (wp_ret ?_); refine bodyPost_ret (v := SR.val rr) (results_cell_row (g := R0) rfl _ _ _ _ _ _ (by kernel_rfl) hW9 Try.underlying35 rfl (sr_info rr)) rfl ?_; exact ⟨_, rfl, FI.out W9 gW9⟩))
                  | true =>
                    have hqf := hqm.go hpsf hgf may_good
                    rw [may_y hOf] at hqf
                    obtain ⟨nf, hnf⟩ : ∃ nf, nl.2.step.num = nf := ⟨_, rfl⟩
                    have hLL : L = ((nl.1, nf.1), nf.2) := by rw [HLL.out]; unfold offS; rw [hOf]; simp only [if_true, hnf]
                    have HL2 := hid hLL
                    clear hqm hpsf hgf hOf hLL HLL
                    go_wp2_with fail
                    refine (pnum_any p nl.2.step _ hqf.ps).mono ?_
                    rintro e wg ⟨rfl, hpsg, hgg⟩
                    have hqg := hqf.go hpsg hgg (fun h => by
                      have : nl.2.step.num.2.good = true := h
                      cases hst : nl.2.step with
                      | ok l d => rfl
                      | bad e a => rw [hst] at this; cases this)
                    rw [hnf] at hqg
                    rw [hnf]
                    have k40 : wg.cell? ⟨S0, 40, none⟩ = some (.int .i64 0) := hqg.sb.cell 40
                    have kf := Rg.blk_free hqg.sb.s
                    have hqh : QB (Ab (S0 + 1)) p w R0 S0 { kind := 8, explain := xe.1, distinct := xd.1, limit := nl.1, items := I.1, refs := F.1, wher := C.1, group := G.1, having := V.1, order := O.1, offset := nf.1 } { kind := 8, explain := xe.1, distinct := xd.1, limit := nl.1, items := si, refs := sr, wher := rw, group := sg, having := rv, order := so, offset := nf.1 } nf.2 (wg.setCell ⟨S0, 40, none⟩ (.int .i64 nf.1)) := hqg.offset nf.1
                    clear hqf hpsg hgg hnf hqg
                    go_upto_region 32 with fail
                    clear k40 kf
                    generalize World.setCell wg _ _ = wh at *
                    obtain ⟨rr, hrr⟩ : ∃ rr : SR, ({ kind := 8, explain := xe.1, distinct := xd.1, limit := nl.1, items := si, refs := sr, wher := rw, group := sg, having := rv, order := so, offset := nf.1 } : SR) = rr := ⟨_, rfl⟩
                    rw [hrr] at hqh
                    have HX := hid hqh.sb.s
                    have HZ : Hid (_ = some (Obj.cells (SR.cs {}).toArray 35 (0, 0))) := hid hqh.sb.z
                    have FI : Hid (∀ W9, Go1 R0 _ W9 → Rst p w ({ kind := 8, explain := xe.1, distinct := xd.1, limit := L.1.1, items := I.1, refs := F.1, wher := C.1, group := G.1, having := V.1, order := O.1, offset := L.1.2 }, L.2) (SR.val rr) W9) := hid (fun W9 h9 => by have := hqh.give h9; rw [HL2.out]; exact this)
                    clear hqh hrr
                    go_wp2_with (first | (guard_target =~ wpList _ _ _ (Oper.mk _ (Op.load 35 _) _ _ _ _ :: _) _ _; refine wpList_load_row rfl 35 _ rfl S0 (by kernel_rfl) 35 (SR.cs rr).toArray (0, 0) _ HX.out Try.underlying35 rfl (sr_info rr) ?_) | (guard_target =~ wpList _ _ _ (Oper.mk _ (Op.store 35 _ _) _ _ _ _ :: _) _ _; refine st_row (ty := 35) (x := .tmp 2) (y := .tmp 98) ?_ ?_ R0 (SR.cs rr).toArray ?_ ?_ 35 (SR.cs {}).toArray HZ.out (sr_info rr) (sr_old {} rr) (sr_one rr) ?_; exact rfl; exact rfl; kernel_rfl; kernel_rfl; intro W9 hW9 gW9 zW9; apply wpList_nil; rename_i hKK; refine hKK _ _ (wp_ret ?_); refine bodyPost_ret (v := SR.val rr) (results_cell_row (g := R0) rfl _ _ _ _ _ _ (by kernel_rfl) hW9 Try.underlying35 rfl (sr_info rr)) rfl ?_; exact ⟨_, rfl, FI.out W9 gW9⟩))
              | true =>
                obtain ⟨ys, sj, m, hL, hps, hR, hm, hN⟩ := hsp.yes
                clear hsp HLm HO HOG
                have HLA : Hid (mB (.bool true) (lenAt p wr) = sj.size + 1) := hid (by show lenAt p wr + 1 = _; rw [lenAt_ps hps])
                go_wp2_with fail
                refine (expr_any p 1000000 (Nat.le_refl _) sj _ hps (by omega)).mono ?_
                rintro e w2 ⟨u, rfl, rx, x, rfl, hx, hps2, hg2, hgd⟩
                obtain ⟨q, hq⟩ : ∃ q, exprS sj = q := ⟨_, rfl⟩
                rw [hq] at hps2 hgd
                have hL2 := hL.go kOrd_ok hg2 (ab_no (by omega))
                have hqf2 := hqf.go hg2
                have hp2 : p < w2.heap.size := by have := hqf2.sb.lt; omega
                have hx0 : Ex.At (fun b => Ab B2 b ∧ v.ownBlock ≠ some b) w2 x rx := hx.mono (fun b _ hb => by
                  have hb : wr.heap.size ≤ b := hb
                  have := hqf.hz
                  exact ⟨by show B2 ≤ b; omega, fun e => by have := (hL.blk e).2; omega⟩)
                have HX0 : Hid (∀ W5, W5.heap[w2.heap.size]? = some (.cells (oF ⟨rx, false⟩).toArray 42 (0, 0)) → Go1 w2.heap.size (w2.alloc (.cells zO.toArray 42)) W5 → XB p w2 42 (oF ⟨rx, false⟩) q.2 W5) := hid (fun W5 a b => XB.start hp2 hps2 a b)
                have HA : Hid ((w2.alloc (.cells zO.toArray 42)).heap[w2.heap.size]? = some (.cells zO.toArray 42 (0, 0))) := hid (alloc_at _ _)
                have HL := hid hL2
                have HEX := hid hx0
                have HQF := hid hqf2
                have HR2 := hid hR
                have HGD := hid hgd
                clear hL hps hps2 hg2 hL2 hx hx0 hqf hqf2 hR hgd
                unfold XR.val
                go_wp2_with (guard_target =~ wpList _ _ _ (Oper.mk _ (Op.store 42 _ _) _ _ _ _ :: _) _ _; refine st_row (ty := 42) rfl rfl w2.heap.size (oF ⟨rx, false⟩).toArray rfl rfl 42 _ (HA.out) (by kernel_rfl) rfl (by kernel_rfl) ?_; intro W5 hW5 gW5 zW5; have HQ := hid (HX0.out W5 hW5 gW5); clear hW5 gW5 zW5 HX0 HA)
                have hx5 := HQ.out
                clear HQ
                refine (word_any p ⟨#[97, 115, 99]⟩ q.2 _ hx5.ps).mono ?_
                rintro e w6 ⟨rfl, hps6, hg6⟩
                have hx6 := hx5.go hps6 hg6
                clear hx5 hps6 hg6
                cases hA : q.2.is 1 ⟨#[97, 115, 99]⟩ with
                | true =>
                  rw [may_y hA] at hx6
                  have HQ0 : Hid (ordS sj = (⟨q.1, false⟩, q.2.step)) := hid (by unfold ordS; simp only [hq, hA, if_true])
                  have HGQ : Hid (q.2.step.good = true → q.2.good = true) := hid step_good
                  clear hA hq
                  have hxz := hx6
                  clear hx6
                  generalize w6 = wz at *
                  have kc := Rg.blk_cells hxz.x
                  simp only [oF, xF, List.cons_append, List.nil_append] at kc
                  have hqfz := HQF.out.go hxz.g
                  have hLz := HL.out.go kOrd_ok hxz.g (ab_no (by omega))
                  have hxe := HEX.out.of hxz.g.size (fun b hb hl => hxz.g.get hl (by have : B2 ≤ b := hb.1; omega))
                  have k38 : wz.cell? ⟨S0, 38, none⟩ = some v := hqfz.sb.cell 38
                  obtain ⟨v', wy, hrun, k38', kfy, hsby, hLy, hpsy, ⟨g9, m9, c9, rfl⟩, hkp, _⟩ := SB.push kOrd_ok kt_ord 33 (k := 38) (y := ⟨x, false⟩) (r := ⟨rx, false⟩) (cl := #[.int .i64 rx.h.op, .int .i64 rx.h.v.t, .int .i64 rx.h.v.n, .string rx.h.v.s, .bool rx.h.v.b, .string rx.h.tab, .string rx.h.name, .int .i64 rx.h.t, .int .i64 rx.h.c, .bool rx.h.nt, .bool rx.h.st, .slice rx.oa rx.n rx.cap, .bool false]) (fun b h => by have : B2 ≤ b := h; omega) (fun b h => by have := hqfz.hz; show B2 ≤ b; omega) hqfz.sb (by rw [SR.len]; decide) hLz (by omega) hxz.ps ⟨rfl, hxe⟩ rfl
                  have hqfy := hqfz.push hsby hkp (fun b e => (hLz.blk e).1)
                  have HRUN := hid hrun
                  have HQY := hid hqfy
                  have HLY := hid hLy
                  have HPSY := hid hpsy
                  clear hqfz hLz hrun hsby hLy hpsy hkp hqfy hxz hxe HQF HL HEX
                  go_wp2_with (at_builtin; refine Lib.wpList_append_run _ rfl _ _ _ _ rfl _ _ rfl rfl _ _ HRUN.out ?_)
                  refine (sign_any' p ⟨#[44]⟩ q.2.step _ HPSY.out).mono ?_
                  rintro e w9 ⟨rfl, hps9, hg9⟩
                  have hL9 := HLY.out.go kOrd_ok hg9 (ab_no (by omega))
                  have hnx := SpRel.next (q := ordS) (s := sj) (y := ⟨x, false⟩) ni_ordS hL9 (by rw [HQ0.out]; exact hps9) HR2.out hm hN (fun h => by rw [HQ0.out] at h ⊢; rw [HGD.out (HGQ.out h)])
                  rw [HQ0.out] at hnx
                  have HNX := hid hnx
                  have HQF9 := hid (HQY.out.go hg9)
                  clear hL9 hnx hps9 hg9 HRUN HLY HPSY HQY HR2 HQ0 HGD HGQ kc k38 k38' kfy
                  generalize (q.2.step).is 4 ⟨#[44]⟩ = b9 at *
                  go_wp2
                  exact ⟨⟨b9, _, rfl, HQF9.out, HNX.out.1⟩, by rw [HLA.out]; exact HNX.out.2⟩
                | false =>
                  rw [may_n hA] at hx6
                  obtain ⟨dd, hdd⟩ : ∃ dd, q.2.is 1 ⟨#[100, 101, 115, 99]⟩ = dd := ⟨_, rfl⟩
                  obtain ⟨t5, ht5⟩ : ∃ t5, (q.2.may 1 ⟨#[100, 101, 115, 99]⟩).2 = t5 := ⟨_, rfl⟩
                  have hwd : q.2.word ⟨#[100, 101, 115, 99]⟩ = (dd, t5) := by rw [← hdd, ← ht5]; unfold Ps.word Ps.may; split <;> simp_all
                  have HQ0 : Hid (ordS sj = (⟨q.1, dd⟩, t5)) := hid (by unfold ordS; simp only [hq, hA, Bool.false_eq_true, if_false, hwd])
                  have HGQ : Hid (t5.good = true → q.2.good = true) := hid (fun h => by rw [← ht5] at h; exact may_good h)
                  clear hA hq hwd
                  go_wp2_with fail
                  refine (word_any p ⟨#[100, 101, 115, 99]⟩ q.2 _ hx6.ps).mono ?_
                  rintro e w7 ⟨rfl, hps7, hg7⟩
                  rw [hdd]
                  rw [ht5] at hps7
                  have hx7 := hx6.go hps7 hg7
                  clear hx6 hps7 hg7 hdd ht5
                  have k12 : w7.cell? ⟨w2.heap.size, 12, none⟩ = some (.bool false) := hx7.cell 12
                  have kf := Rg.blk_free hx7.x
                  have hx8 : XB p w2 42 (oF ⟨rx, dd⟩) t5 (w7.setCell ⟨w2.heap.size, 12, none⟩ (.bool dd)) := by rw [← put_oe]; exact hx7.set 12 (.bool dd)
                  clear hx7
                  go_upto_region 27 with fail
                  clear k12 kf
                  generalize World.setCell w7 _ _ = wz at *
                  have hxz := hx8
                  clear hx8
                  have kc := Rg.blk_cells hxz.x
                  simp only [oF, xF, List.cons_append, List.nil_append] at kc
                  have hqfz := HQF.out.go hxz.g
                  have hLz := HL.out.go kOrd_ok hxz.g (ab_no (by omega))
                  have hxe := HEX.out.of hxz.g.size (fun b hb hl => hxz.g.get hl (by have : B2 ≤ b := hb.1; omega))
                  have k38 : wz.cell? ⟨S0, 38, none⟩ = some v := hqfz.sb.cell 38
                  obtain ⟨v', wy, hrun, k38', kfy, hsby, hLy, hpsy, ⟨g9, m9, c9, rfl⟩, hkp, _⟩ := SB.push kOrd_ok kt_ord 33 (k := 38) (y := ⟨x, dd⟩) (r := ⟨rx, dd⟩) (cl := #[.int .i64 rx.h.op, .int .i64 rx.h.v.t, .int .i64 rx.h.v.n, .string rx.h.v.s, .bool rx.h.v.b, .string rx.h.tab, .string rx.h.name, .int .i64 rx.h.t, .int .i64 rx.h.c, .bool rx.h.nt, .bool rx.h.st, .slice rx.oa rx.n rx.cap, .bool dd]) (fun b h => by have : B2 ≤ b := h; omega) (fun b h => by have := hqfz.hz; show B2 ≤ b; omega) hqfz.sb (by rw [SR.len]; decide) hLz (by omega) hxz.ps ⟨rfl, hxe⟩ rfl
                  have hqfy := hqfz.push hsby hkp (fun b e => (hLz.blk e).1)
                  have HRUN := hid hrun
                  have HQY := hid hqfy
                  have HLY := hid hLy
                  have HPSY := hid hpsy
                  clear hqfz hLz hrun hsby hLy hpsy hkp hqfy hxz hxe HQF HL HEX
                  go_wp2_with (at_builtin; refine Lib.wpList_append_run _ rfl _ _ _ _ rfl _ _ rfl rfl _ _ HRUN.out ?_)
                  refine (sign_any' p ⟨#[44]⟩ t5 _ HPSY.out).mono ?_
                  rintro e w9 ⟨rfl, hps9, hg9⟩
                  have hL9 := HLY.out.go kOrd_ok hg9 (ab_no (by omega))
                  have hnx := SpRel.next (q := ordS) (s := sj) (y := ⟨x, dd⟩) ni_ordS hL9 (by rw [HQ0.out]; exact hps9) HR2.out hm hN (fun h => by rw [HQ0.out] at h ⊢; rw [HGD.out (HGQ.out h)])
                  rw [HQ0.out] at hnx
                  have HNX := hid hnx
                  have HQF9 := hid (HQY.out.go hg9)
                  clear hL9 hnx hps9 hg9 HRUN HLY HPSY HQY HR2 HQ0 HGD HGQ kc k38 k38' kfy
                  generalize (t5).is 4 ⟨#[44]⟩ = b9 at *
                  go_wp2
                  exact ⟨⟨b9, _, rfl, HQF9.out, HNX.out.1⟩, by rw [HLA.out]; exact HNX.out.2⟩
end Go.Proofs.Ytaogpifcfmjcbaa
end
section
namespace Go.Proofs.Ytaogpifcfmjcbaa
open Go.RowKit
set_option linter.unusedSimpArgs false
set_option linter.unusedVariables false
attribute [local go_sem] Rg.leads_value Rg.leads_skip Rg.leads_enter Rg.brings_value Rg.brings_skip Rg.brings_enter Rg.bringsG_value Rg.bringsG_enter Rg.once_normal Rg.once_exit Rg.once_ret Rg.once_panic Rg.once_goto Rg.bringsS_value Rg.bringsS_skip Rg.bringsS_enter Rg.still_value Rg.still_skip Rg.still_enter
theorem stm_store {p : Nat} {w w5 w6 W9 : World} {cs : List Value} {s : Ps} {q : Stm × Ps} {u : Value} (h5 : XB p w 35 cs s w5) (hR : Rst p w5 q u w6) (hg : Go1 w.heap.size w6 W9) : Rst p w q u W9 := by
  obtain ⟨r', x, e, h1, h2, h3, h4⟩ := hR
  have hl := (Array.getElem?_eq_some_iff.1 h5.x).1
  refine ⟨r', x, e, ?_, h2.go hg h5.hp, (h5.g.trans h3).own hg (Nat.le_refl _), h4⟩
  exact (h1.of hg.size (fun b hb hl' => hg.get hl' (by have : w5.heap.size ≤ b := hb; omega))).mono (fun b _ hb => by have : w5.heap.size ≤ b := hb; show w.heap.size ≤ b; omega)
theorem stm_plain {p : Nat} {w w5 W9 : World} {cs : List Value} {s : Ps} {r : SR} {x : Stm} (h5 : XB p w 35 cs s w5) (hg : Go1 w.heap.size w5 W9) (hS : StmAt (Nw w) W9 x r) : Rst p w (x, s) r.val W9 :=
  ⟨r, x, rfl, hS, h5.ps.go hg h5.hp, h5.g.own hg (Nat.le_refl _), fun _ => rfl⟩
set_option maxHeartbeats 16000000 in
set_option maxRecDepth 100000 in
theorem stm_insert (p : Nat) (s : Ps) (w : World) (hS : PS p w s) (h0 : s.is 1 ⟨#[99, 114, 101, 97, 116, 101]⟩ = false) (h1 : s.is 1 ⟨#[100, 114, 111, 112]⟩ = false) (h2 : s.is 1 ⟨#[114, 111, 108, 108, 98, 97, 99, 107]⟩ = false) (hy : s.is 1 ⟨#[105, 110, 115, 101, 114, 116]⟩ = true) (hs : s.size ≤ 900000) : Calls Try.prog 14 #[.pointer (some ⟨p, 0, none⟩)] w (Pst p w (insertS s.step)) := by
  have hpw := hS.lt
  have hx : XB p w 35 zeroS s (w.alloc (.cells zeroS.toArray 35)) := ⟨hpw, alloc_at _ _, .of ((Gr.refl w).alloc _), hS.keep ((Gr.refl w).alloc _)⟩
  clear hS
  go_enter Try.func14, Try.ntmps14
  go_wp2_with fail
  refine Rg.wp_scope_once 0 rfl ?_
  go_wp2_with fail
  generalize hw0 : World.alloc w _ = w0
  have hx' : XB p w 35 zeroS s w0 := by rw [← hw0]; exact hx
  clear hw0 hx
  have hx := hx'
  clear hx'
  refine (word_no p ⟨#[99, 114, 101, 97, 116, 101]⟩ s _ hx.ps h0).mono ?_
  rintro e w' ⟨rfl, hw⟩
  rw [hw]
  clear hw w'
  go_wp2_with fail
  refine (word_no p ⟨#[100, 114, 111, 112]⟩ s _ hx.ps h1).mono ?_
  rintro e w' ⟨rfl, hw⟩
  rw [hw]
  clear hw w'
  go_wp2_with fail
  refine (word_no p ⟨#[114, 111, 108, 108, 98, 97, 99, 107]⟩ s _ hx.ps h2).mono ?_
  rintro e w' ⟨rfl, hw⟩
  rw [hw]
  clear hw w'
  go_wp2_with fail
  refine (word_any p ⟨#[105, 110, 115, 101, 114, 116]⟩ s _ hx.ps).mono ?_
  rintro e w1 ⟨rfl, hps1, hg1⟩
  rw [hy]
  rw [may_y hy] at hps1
  have hx1 := hx.go hps1 hg1
  clear hx hps1 hg1
  go_wp2_with fail
  refine (insert_any p s.step _ hx1.ps (Nat.le_trans (size_step s) hs)).mono ?_
  rintro e w2 ⟨u, rfl, hR⟩
  have hR2 := hR
  obtain ⟨r, x, rfl, -, -, hg2, -⟩ := hR2
  have HX : Hid (w2.heap[w.heap.size]? = some (.cells zeroS.toArray 35 (0, 0))) := hid ((hx1.go (hR.choose_spec.choose_spec.2.2.1) hg2).x)
  have FI : Hid (∀ W9, Go1 w.heap.size w2 W9 → Rst p w (insertS s.step) (SR.val r) W9) := hid (fun W9 h9 => stm_store hx1 hR h9)
  clear hx1 hR hg2
  unfold SR.val
  go_wp2_with (guard_target =~ wpList _ _ _ (Oper.mk _ (Op.store 35 _ _) _ _ _ _ :: _) _ _; refine st_row (ty := 35) rfl rfl w.heap.size (SR.cs r).toArray rfl rfl 35 (SR.cs {}).toArray HX.out (sr_info r) (sr_old {} r) (sr_one r) ?_; intro W9 hW9 gW9 zW9; apply wpList_nil; rename_i hKK; refine hKK _ _ (wp_ret ?_); (try simp only [Exit.inBlock, Exit.then]); (try change Rg.once _ _ _ _ _ _); (try rw [Rg.once_ret]); (try rw [Exit.noGoto_ret]); change bodyPost _ _ _ _ _ _; refine bodyPost_ret (v := SR.val r) (results_cell_row (g := w.heap.size) rfl _ _ _ _ _ _ (by kernel_rfl) hW9 Try.underlying35 rfl (sr_info _)) rfl ?_; exact ⟨_, rfl, FI.out W9 gW9⟩)
set_option maxHeartbeats 16000000 in
set_option maxRecDepth 100000 in
theorem stm_update (p : Nat) (s : Ps) (w : World) (hS : PS p w s) (h0 : s.is 1 ⟨#[99, 114, 101, 97, 116, 101]⟩ = false) (h1 : s.is 1 ⟨#[100, 114, 111, 112]⟩ = false) (h2 : s.is 1 ⟨#[114, 111, 108, 108, 98, 97, 99, 107]⟩ = false) (h3 : s.is 1 ⟨#[105, 110, 115, 101, 114, 116]⟩ = false) (hy : s.is 1 ⟨#[117, 112, 100, 97, 116, 101]⟩ = true) (hs : s.size ≤ 900000) : Calls Try.prog 14 #[.pointer (some ⟨p, 0, none⟩)] w (Pst p w (updateS s.step)) := by
  have hpw := hS.lt
  have hx : XB p w 35 zeroS s (w.alloc (.cells zeroS.toArray 35)) := ⟨hpw, alloc_at _ _, .of ((Gr.refl w).alloc _), hS.keep ((Gr.refl w).alloc _)⟩
  clear hS
  go_enter Try.func14, Try.ntmps14
  go_wp2_with fail
  refine Rg.wp_scope_once 0 rfl ?_
  go_wp2_with fail
  generalize hw0 : World.alloc w _ = w0
  have hx' : XB p w 35 zeroS s w0 := by rw [← hw0]; exact hx
  clear hw0 hx
  have hx := hx'
  clear hx'
  refine (word_no p ⟨#[99, 114, 101, 97, 116, 101]⟩ s _ hx.ps h0).mono ?_
  rintro e w' ⟨rfl, hw⟩
  rw [hw]
  clear hw w'
  go_wp2_with fail
  refine (word_no p ⟨#[100, 114, 111, 112]⟩ s _ hx.ps h1).mono ?_
  rintro e w' ⟨rfl, hw⟩
  rw [hw]
  clear hw w'
  go_wp2_with fail
  refine (word_no p ⟨#[114, 111, 108, 108, 98, 97, 99, 107]⟩ s _ hx.ps h2).mono ?_
  rintro e w' ⟨rfl, hw⟩
  rw [hw]
  clear hw w'
  go_wp2_with fail
  refine (word_no p ⟨#[105, 110, 115, 101, 114, 116]⟩ s _ hx.ps h3).mono ?_
  rintro e w' ⟨rfl, hw⟩
  rw [hw]
  clear hw w'
  go_wp2_with fail
  refine (word_any p ⟨#[117, 112, 100, 97, 116, 101]⟩ s _ hx.ps).mono ?_
  rintro e w1 ⟨rfl, hps1, hg1⟩
  rw [hy]
  rw [may_y hy] at hps1
  have hx1 := hx.go hps1 hg1
  clear hx hps1 hg1
  go_wp2_with fail
  refine (update_any p s.step _ hx1.ps (Nat.le_trans (size_step s) hs)).mono ?_
  rintro e w2 ⟨u, rfl, hR⟩
  have hR2 := hR
  obtain ⟨r, x, rfl, -, -, hg2, -⟩ := hR2
  have HX : Hid (w2.heap[w.heap.size]? = some (.cells zeroS.toArray 35 (0, 0))) := hid ((hx1.go (hR.choose_spec.choose_spec.2.2.1) hg2).x)
  have FI : Hid (∀ W9, Go1 w.heap.size w2 W9 → Rst p w (updateS s.step) (SR.val r) W9) := hid (fun W9 h9 => stm_store hx1 hR h9)
  clear hx1 hR hg2
  unfold SR.val
  go_wp2_with (guard_target =~ wpList _ _ _ (Oper.mk _ (Op.store 35 _ _) _ _ _ _ :: _) _ _; refine st_row (ty := 35) rfl rfl w.heap.size (SR.cs r).toArray rfl rfl 35 (SR.cs {}).toArray HX.out (sr_info r) (sr_old {} r) (sr_one r) ?_; intro W9 hW9 gW9 zW9; apply wpList_nil; rename_i hKK; refine hKK _ _ (wp_ret ?_); (try simp only [Exit.inBlock, Exit.then]); (try change Rg.once _ _ _ _ _ _); (try rw [Rg.once_ret]); (try rw [Exit.noGoto_ret]); change bodyPost _ _ _ _ _ _; refine bodyPost_ret (v := SR.val r) (results_cell_row (g := w.heap.size) rfl _ _ _ _ _ _ (by kernel_rfl) hW9 Try.underlying35 rfl (sr_info _)) rfl ?_; exact ⟨_, rfl, FI.out W9 gW9⟩)
set_option maxHeartbeats 16000000 in
set_option maxRecDepth 100000 in
theorem stm_explain (p : Nat) (s : Ps) (w : World) (hS : PS p w s) (h0 : s.is 1 ⟨#[99, 114, 101, 97, 116, 101]⟩ = false) (h1 : s.is 1 ⟨#[100, 114, 111, 112]⟩ = false) (h2 : s.is 1 ⟨#[114, 111, 108, 108, 98, 97, 99, 107]⟩ = false) (h3 : s.is 1 ⟨#[105, 110, 115, 101, 114, 116]⟩ = false) (h4 : s.is 1 ⟨#[117, 112, 100, 97, 116, 101]⟩ = false) (h5 : s.is 1 ⟨#[100, 101, 108, 101, 116, 101]⟩ = false) (hy : s.is 1 ⟨#[101, 120, 112, 108, 97, 105, 110]⟩ = true) (hs : s.size ≤ 900000) : Calls Try.prog 14 #[.pointer (some ⟨p, 0, none⟩)] w (Pst p w (queryS s)) := by
  have hpw := hS.lt
  have hx : XB p w 35 zeroS s (w.alloc (.cells zeroS.toArray 35)) := ⟨hpw, alloc_at _ _, .of ((Gr.refl w).alloc _), hS.keep ((Gr.refl w).alloc _)⟩
  clear hS
  go_enter Try.func14, Try.ntmps14
  go_wp2_with fail
  refine Rg.wp_scope_once 0 rfl ?_
  go_wp2_with fail
  generalize hw0 : World.alloc w _ = w0
  have hx' : XB p w 35 zeroS s w0 := by rw [← hw0]; exact hx
  clear hw0 hx
  have hx := hx'
  clear hx'
  refine (word_no p ⟨#[99, 114, 101, 97, 116, 101]⟩ s _ hx.ps h0).mono ?_
  rintro e w' ⟨rfl, hw⟩
  rw [hw]
  clear hw w'
  go_wp2_with fail
  refine (word_no p ⟨#[100, 114, 111, 112]⟩ s _ hx.ps h1).mono ?_
  rintro e w' ⟨rfl, hw⟩
  rw [hw]
  clear hw w'
  go_wp2_with fail
  refine (word_no p ⟨#[114, 111, 108, 108, 98, 97, 99, 107]⟩ s _ hx.ps h2).mono ?_
  rintro e w' ⟨rfl, hw⟩
  rw [hw]
  clear hw w'
  go_wp2_with fail
  refine (word_no p ⟨#[105, 110, 115, 101, 114, 116]⟩ s _ hx.ps h3).mono ?_
  rintro e w' ⟨rfl, hw⟩
  rw [hw]
  clear hw w'
  go_wp2_with fail
  refine (word_no p ⟨#[117, 112, 100, 97, 116, 101]⟩ s _ hx.ps h4).mono ?_
  rintro e w' ⟨rfl, hw⟩
  rw [hw]
  clear hw w'
  go_wp2_with fail
  refine (word_no p ⟨#[100, 101, 108, 101, 116, 101]⟩ s _ hx.ps h5).mono ?_
  rintro e w' ⟨rfl, hw⟩
  rw [hw]
  clear hw w'
  go_wp2_with fail
  refine (is1_any p ⟨#[101, 120, 112, 108, 97, 105, 110]⟩ s _ hx.ps).mono ?_
  rintro e w' ⟨rfl, hw⟩
  rw [hw, hy]
  clear hw w'
  go_wp2_with fail
  refine (query_any p s _ hx.ps hs).mono ?_
  rintro e w2 ⟨u, rfl, hR⟩
  have hR2 := hR
  obtain ⟨r, x, rfl, -, -, hg2, -⟩ := hR2
  have HX : Hid (w2.heap[w.heap.size]? = some (.cells zeroS.toArray 35 (0, 0))) := hid ((hx.go (hR.choose_spec.choose_spec.2.2.1) hg2).x)
  have FI : Hid (∀ W9, Go1 w.heap.size w2 W9 → Rst p w (queryS s) (SR.val r) W9) := hid (fun W9 h9 => stm_store hx hR h9)
  clear hx hR hg2
  unfold SR.val
  go_wp2_with (guard_target =~ wpList _ _ _ (Oper.mk _ (Op.store 35 _ _) _ _ _ _ :: _) _ _; refine st_row (ty := 35) rfl rfl w.heap.size (SR.cs r).toArray rfl rfl 35 (SR.cs {}).toArray HX.out (sr_info r) (sr_old {} r) (sr_one r) ?_; intro W9 hW9 gW9 zW9; apply wpList_nil; rename_i hKK; refine hKK _ _ (wp_ret ?_); (try simp only [Exit.inBlock, Exit.then]); (try change Rg.once _ _ _ _ _ _); (try rw [Rg.once_ret]); (try rw [Exit.noGoto_ret]); change bodyPost _ _ _ _ _ _; refine bodyPost_ret (v := SR.val r) (results_cell_row (g := w.heap.size) rfl _ _ _ _ _ _ (by kernel_rfl) hW9 Try.underlying35 rfl (sr_info _)) rfl ?_; exact ⟨_, rfl, FI.out W9 gW9⟩)
set_option maxHeartbeats 16000000 in
set_option maxRecDepth 100000 in
theorem stm_select (p : Nat) (s : Ps) (w : World) (hS : PS p w s) (h0 : s.is 1 ⟨#[99, 114, 101, 97, 116, 101]⟩ = false) (h1 : s.is 1 ⟨#[100, 114, 111, 112]⟩ = false) (h2 : s.is 1 ⟨#[114, 111, 108, 108, 98, 97, 99, 107]⟩ = false) (h3 : s.is 1 ⟨#[105, 110, 115, 101, 114, 116]⟩ = false) (h4 : s.is 1 ⟨#[117, 112, 100, 97, 116, 101]⟩ = false) (h5 : s.is 1 ⟨#[100, 101, 108, 101, 116, 101]⟩ = false) (h6 : s.is 1 ⟨#[101, 120, 112, 108, 97, 105, 110]⟩ = false) (hy : s.is 1 ⟨#[115, 101, 108, 101, 99, 116]⟩ = true) (hs : s.size ≤ 900000) : Calls Try.prog 14 #[.pointer (some ⟨p, 0, none⟩)] w (Pst p w (queryS s)) := by
  have hpw := hS.lt
  have hx : XB p w 35 zeroS s (w.alloc (.cells zeroS.toArray 35)) := ⟨hpw, alloc_at _ _, .of ((Gr.refl w).alloc _), hS.keep ((Gr.refl w).alloc _)⟩
  clear hS
  go_enter Try.func14, Try.ntmps14
  go_wp2_with fail
  refine Rg.wp_scope_once 0 rfl ?_
  go_wp2_with fail
  generalize hw0 : World.alloc w _ = w0
  have hx' : XB p w 35 zeroS s w0 := by rw [← hw0]; exact hx
  clear hw0 hx
  have hx := hx'
  clear hx'
  refine (word_no p ⟨#[99, 114, 101, 97, 116, 101]⟩ s _ hx.ps h0).mono ?_
  rintro e w' ⟨rfl, hw⟩
  rw [hw]
  clear hw w'
  go_wp2_with fail
  refine (word_no p ⟨#[100, 114, 111, 112]⟩ s _ hx.ps h1).mono ?_
  rintro e w' ⟨rfl, hw⟩
  rw [hw]
  clear hw w'
  go_wp2_with fail
  refine (word_no p ⟨#[114, 111, 108, 108, 98, 97, 99, 107]⟩ s _ hx.ps h2).mono ?_
  rintro e w' ⟨rfl, hw⟩
  rw [hw]
  clear hw w'
  go_wp2_with fail
  refine (word_no p ⟨#[105, 110, 115, 101, 114, 116]⟩ s _ hx.ps h3).mono ?_
  rintro e w' ⟨rfl, hw⟩
  rw [hw]
  clear hw w'
  go_wp2_with fail
  refine (word_no p ⟨#[117, 112, 100, 97, 116, 101]⟩ s _ hx.ps h4).mono ?_
  rintro e w' ⟨rfl, hw⟩
  rw [hw]
  clear hw w'
  go_wp2_with fail
  refine (word_no p ⟨#[100, 101, 108, 101, 116, 101]⟩ s _ hx.ps h5).mono ?_
  rintro e w' ⟨rfl, hw⟩
  rw [hw]
  clear hw w'
  go_wp2_with fail
  refine (is1_any p ⟨#[101, 120, 112, 108, 97, 105, 110]⟩ s _ hx.ps).mono ?_
  rintro e w' ⟨rfl, hw⟩
  rw [hw, h6]
  clear hw w'
  go_wp2_with fail
  refine (is1_any p ⟨#[115, 101, 108, 101, 99, 116]⟩ s _ hx.ps).mono ?_
  rintro e w' ⟨rfl, hw⟩
  rw [hw, hy]
  clear hw w'
  go_wp2_with fail
  refine (query_any p s _ hx.ps hs).mono ?_
  rintro e w2 ⟨u, rfl, hR⟩
  have hR2 := hR
  obtain ⟨r, x, rfl, -, -, hg2, -⟩ := hR2
  have HX : Hid (w2.heap[w.heap.size]? = some (.cells zeroS.toArray 35 (0, 0))) := hid ((hx.go (hR.choose_spec.choose_spec.2.2.1) hg2).x)
  have FI : Hid (∀ W9, Go1 w.heap.size w2 W9 → Rst p w (queryS s) (SR.val r) W9) := hid (fun W9 h9 => stm_store hx hR h9)
  clear hx hR hg2
  unfold SR.val
  go_wp2_with (guard_target =~ wpList _ _ _ (Oper.mk _ (Op.store 35 _ _) _ _ _ _ :: _) _ _; refine st_row (ty := 35) rfl rfl w.heap.size (SR.cs r).toArray rfl rfl 35 (SR.cs {}).toArray HX.out (sr_info r) (sr_old {} r) (sr_one r) ?_; intro W9 hW9 gW9 zW9; apply wpList_nil; rename_i hKK; refine hKK _ _ (wp_ret ?_); (try simp only [Exit.inBlock, Exit.then]); (try change Rg.once _ _ _ _ _ _); (try rw [Rg.once_ret]); (try rw [Exit.noGoto_ret]); change bodyPost _ _ _ _ _ _; refine bodyPost_ret (v := SR.val r) (results_cell_row (g := w.heap.size) rfl _ _ _ _ _ _ (by kernel_rfl) hW9 Try.underlying35 rfl (sr_info _)) rfl ?_; exact ⟨_, rfl, FI.out W9 gW9⟩)
set_option maxHeartbeats 16000000 in
set_option maxRecDepth 100000 in
theorem stm_begin (p : Nat) (s : Ps) (w : World) (hS : PS p w s) (h0 : s.is 1 ⟨#[99, 114, 101, 97, 116, 101]⟩ = false) (h1 : s.is 1 ⟨#[100, 114, 111, 112]⟩ = false) (h2 : s.is 1 ⟨#[114, 111, 108, 108, 98, 97, 99, 107]⟩ = false) (h3 : s.is 1 ⟨#[105, 110, 115, 101, 114, 116]⟩ = false) (h4 : s.is 1 ⟨#[117, 112, 100, 97, 116, 101]⟩ = false) (h5 : s.is 1 ⟨#[100, 101, 108, 101, 116, 101]⟩ = false) (h6 : s.is 1 ⟨#[101, 120, 112, 108, 97, 105, 110]⟩ = false) (h7 : s.is 1 ⟨#[115, 101, 108, 101, 99, 116]⟩ = false) (hy : s.is 1 ⟨#[98, 101, 103, 105, 110]⟩ = true) : Calls Try.prog 14 #[.pointer (some ⟨p, 0, none⟩)] w (Pst p w (({ kind := 9 }, s.step))) := by
  have hpw := hS.lt
  have hx : XB p w 35 zeroS s (w.alloc (.cells zeroS.toArray 35)) := ⟨hpw, alloc_at _ _, .of ((Gr.refl w).alloc _), hS.keep ((Gr.refl w).alloc _)⟩
  clear hS
  go_enter Try.func14, Try.ntmps14
  go_wp2_with fail
  refine Rg.wp_scope_once 0 rfl ?_
  go_wp2_with fail
  generalize hw0 : World.alloc w _ = w0
  have hx' : XB p w 35 zeroS s w0 := by rw [← hw0]; exact hx
  clear hw0 hx
  have hx := hx'
  clear hx'
  refine (word_no p ⟨#[99, 114, 101, 97, 116, 101]⟩ s _ hx.ps h0).mono ?_
  rintro e w' ⟨rfl, hw⟩
  rw [hw]
  clear hw w'
  go_wp2_with fail
  refine (word_no p ⟨#[100, 114, 111, 112]⟩ s _ hx.ps h1).mono ?_
  rintro e w' ⟨rfl, hw⟩
  rw [hw]
  clear hw w'
  go_wp2_with fail
  refine (word_no p ⟨#[114, 111, 108, 108, 98, 97, 99, 107]⟩ s _ hx.ps h2).mono ?_
  rintro e w' ⟨rfl, hw⟩
  rw [hw]
  clear hw w'
  go_wp2_with fail
  refine (word_no p ⟨#[105, 110, 115, 101, 114, 116]⟩ s _ hx.ps h3).mono ?_
  rintro e w' ⟨rfl, hw⟩
  rw [hw]
  clear hw w'
  go_wp2_with fail
  refine (word_no p ⟨#[117, 112, 100, 97, 116, 101]⟩ s _ hx.ps h4).mono ?_
  rintro e w' ⟨rfl, hw⟩
  rw [hw]
  clear hw w'
  go_wp2_with fail
  refine (word_no p ⟨#[100, 101, 108, 101, 116, 101]⟩ s _ hx.ps h5).mono ?_
  rintro e w' ⟨rfl, hw⟩
  rw [hw]
  clear hw w'
  go_wp2_with fail
  refine (is1_any p ⟨#[101, 120, 112, 108, 97, 105, 110]⟩ s _ hx.ps).mono ?_
  rintro e w' ⟨rfl, hw⟩
  rw [hw, h6]
  clear hw w'
  go_wp2_with fail
  refine (is1_any p ⟨#[115, 101, 108, 101, 99, 116]⟩ s _ hx.ps).mono ?_
  rintro e w' ⟨rfl, hw⟩
  rw [hw, h7]
  clear hw w'
  go_wp2_with fail
  refine (word_any p ⟨#[98, 101, 103, 105, 110]⟩ s _ hx.ps).mono ?_
  rintro e w1 ⟨rfl, hps1, hg1⟩
  rw [hy]
  rw [may_y hy] at hps1
  have hx1 := hx.go hps1 hg1
  clear hx hps1 hg1
  have HX := hid hx1.x
  have FI : Hid (∀ W9, Go1 w.heap.size w1 W9 → Rst p w ({ kind := 9 }, s.step) (SR.val { kind := 9 }) W9) := hid (fun W9 h9 => stm_plain hx1 h9 { (StmAt.zero (S := Nw w) (w := W9)) with kind := rfl })
  clear hx1
  go_wp2_with (guard_target =~ wpList _ _ _ (Oper.mk _ (Op.store 35 _ _) _ _ _ _ :: _) _ _; refine st_row (ty := 35) rfl rfl w.heap.size (SR.cs { kind := 9 }).toArray rfl rfl 35 (SR.cs {}).toArray HX.out (sr_info _) (sr_old {} _) (sr_one _) ?_; intro W9 hW9 gW9 zW9; apply wpList_nil; rename_i hKK; refine hKK _ _ (wp_ret ?_); (try simp only [Exit.inBlock, Exit.then]); (try change Rg.once _ _ _ _ _ _); (try rw [Rg.once_ret]); (try rw [Exit.noGoto_ret]); change bodyPost _ _ _ _ _ _; refine bodyPost_ret (v := SR.val { kind := 9 }) (results_cell_row (g := w.heap.size) rfl _ _ _ _ _ _ (by kernel_rfl) hW9 Try.underlying35 rfl (sr_info _)) rfl ?_; exact ⟨_, rfl, FI.out W9 gW9⟩)
set_option maxHeartbeats 16000000 in
set_option maxRecDepth 100000 in
theorem stm_commit (p : Nat) (s : Ps) (w : World) (hS : PS p w s) (h0 : s.is 1 ⟨#[99, 114, 101, 97, 116, 101]⟩ = false) (h1 : s.is 1 ⟨#[100, 114, 111, 112]⟩ = false) (h2 : s.is 1 ⟨#[114, 111, 108, 108, 98, 97, 99, 107]⟩ = false) (h3 : s.is 1 ⟨#[105, 110, 115, 101, 114, 116]⟩ = false) (h4 : s.is 1 ⟨#[117, 112, 100, 97, 116, 101]⟩ = false) (h5 : s.is 1 ⟨#[100, 101, 108, 101, 116, 101]⟩ = false) (h6 : s.is 1 ⟨#[101, 120, 112, 108, 97, 105, 110]⟩ = false) (h7 : s.is 1 ⟨#[115, 101, 108, 101, 99, 116]⟩ = false) (h8 : s.is 1 ⟨#[98, 101, 103, 105, 110]⟩ = false) (hy : s.is 1 ⟨#[99, 111, 109, 109, 105, 116]⟩ = true) : Calls Try.prog 14 #[.pointer (some ⟨p, 0, none⟩)] w (Pst p w (({ kind := 10 }, s.step))) := by
  have hpw := hS.lt
  have hx : XB p w 35 zeroS s (w.alloc (.cells zeroS.toArray 35)) := ⟨hpw, alloc_at _ _, .of ((Gr.refl w).alloc _), hS.keep ((Gr.refl w).alloc _)⟩
  clear hS
  go_enter Try.func14, Try.ntmps14
  go_wp2_with fail
  refine Rg.wp_scope_once 0 rfl ?_
  go_wp2_with fail
  generalize hw0 : World.alloc w _ = w0
  have hx' : XB p w 35 zeroS s w0 := by rw [← hw0]; exact hx
  clear hw0 hx
  have hx := hx'
  clear hx'
  refine (word_no p ⟨#[99, 114, 101, 97, 116, 101]⟩ s _ hx.ps h0).mono ?_
  rintro e w' ⟨rfl, hw⟩
  rw [hw]
  clear hw w'
  go_wp2_with fail
  refine (word_no p ⟨#[100, 114, 111, 112]⟩ s _ hx.ps h1).mono ?_
  rintro e w' ⟨rfl, hw⟩
  rw [hw]
  clear hw w'
  go_wp2_with fail
  refine (word_no p ⟨#[114, 111, 108, 108, 98, 97, 99, 107]⟩ s _ hx.ps h2).mono ?_
  rintro e w' ⟨rfl, hw⟩
  rw [hw]
  clear hw w'
  go_wp2_with fail
  refine (word_no p ⟨#[105, 110, 115, 101, 114, 116]⟩ s _ hx.ps h3).mono ?_
  rintro e w' ⟨rfl, hw⟩
  rw [hw]
  clear hw w'
  go_wp2_with fail
  refine (word_no p ⟨#[117, 112, 100, 97, 116, 101]⟩ s _ hx.ps h4).mono ?_
  rintro e w' ⟨rfl, hw⟩
  rw [hw]
  clear hw w'
  go_wp2_with fail
  refine (word_no p ⟨#[100, 101, 108, 101, 116, 101]⟩ s _ hx.ps h5).mono ?_
  rintro e w' ⟨rfl, hw⟩
  rw [hw]
  clear hw w'
  go_wp2_with fail
  refine (is1_any p ⟨#[101, 120, 112, 108, 97, 105, 110]⟩ s _ hx.ps).mono ?_
  rintro e w' ⟨rfl, hw⟩
  rw [hw, h6]
  clear hw w'
  go_wp2_with fail
  refine (is1_any p ⟨#[115, 101, 108, 101, 99, 116]⟩ s _ hx.ps).mono ?_
  rintro e w' ⟨rfl, hw⟩
  rw [hw, h7]
  clear hw w'
  go_wp2_with fail
  refine (word_no p ⟨#[98, 101, 103, 105, 110]⟩ s _ hx.ps h8).mono ?_
  rintro e w' ⟨rfl, hw⟩
  rw [hw]
  clear hw w'
  go_wp2_with fail
  refine (word_any p ⟨#[99, 111, 109, 109, 105, 116]⟩ s _ hx.ps).mono ?_
  rintro e w1 ⟨rfl, hps1, hg1⟩
  rw [hy]
  rw [may_y hy] at hps1
  have hx1 := hx.go hps1 hg1
  clear hx hps1 hg1
  have HX := hid hx1.x
  have FI : Hid (∀ W9, Go1 w.heap.size w1 W9 → Rst p w ({ kind := 10 }, s.step) (SR.val { kind := 10 }) W9) := hid (fun W9 h9 => stm_plain hx1 h9 { (StmAt.zero (S := Nw w) (w := W9)) with kind := rfl })
  clear hx1
  go_wp2_with (guard_target =~ wpList _ _ _ (Oper.mk _ (Op.store 35 _ _) _ _ _ _ :: _) _ _; refine st_row (ty := 35) rfl rfl w.heap.size (SR.cs { kind := 10 }).toArray rfl rfl 35 (SR.cs {}).toArray HX.out (sr_info _) (sr_old {} _) (sr_one _) ?_; intro W9 hW9 gW9 zW9; apply wpList_nil; rename_i hKK; refine hKK _ _ (wp_ret ?_); (try simp only [Exit.inBlock, Exit.then]); (try change Rg.once _ _ _ _ _ _); (try rw [Rg.once_ret]); (try rw [Exit.noGoto_ret]); change bodyPost _ _ _ _ _ _; refine bodyPost_ret (v := SR.val { kind := 10 }) (results_cell_row (g := w.heap.size) rfl _ _ _ _ _ _ (by kernel_rfl) hW9 Try.underlying35 rfl (sr_info _)) rfl ?_; exact ⟨_, rfl, FI.out W9 gW9⟩)
set_option maxHeartbeats 16000000 in
set_option maxRecDepth 100000 in
theorem stm_savepoint (p : Nat) (s : Ps) (w : World) (hS : PS p w s) (h0 : s.is 1 ⟨#[99, 114, 101, 97, 116, 101]⟩ = false) (h1 : s.is 1 ⟨#[100, 114, 111, 112]⟩ = false) (h2 : s.is 1 ⟨#[114, 111, 108, 108, 98, 97, 99, 107]⟩ = false) (h3 : s.is 1 ⟨#[105, 110, 115, 101, 114, 116]⟩ = false) (h4 : s.is 1 ⟨#[117, 112, 100, 97, 116, 101]⟩ = false) (h5 : s.is 1 ⟨#[100, 101, 108, 101, 116, 101]⟩ = false) (h6 : s.is 1 ⟨#[101, 120, 112, 108, 97, 105, 110]⟩ = false) (h7 : s.is 1 ⟨#[115, 101, 108, 101, 99, 116]⟩ = false) (h8 : s.is 1 ⟨#[98, 101, 103, 105, 110]⟩ = false) (h9 : s.is 1 ⟨#[99, 111, 109, 109, 105, 116]⟩ = false) (hy : s.is 1 ⟨#[115, 97, 118, 101, 112, 111, 105, 110, 116]⟩ = true) : Calls Try.prog 14 #[.pointer (some ⟨p, 0, none⟩)] w (Pst p w (nameK 12 s.step)) := by
  have hpw := hS.lt
  have hx : XB p w 35 zeroS s (w.alloc (.cells zeroS.toArray 35)) := ⟨hpw, alloc_at _ _, .of ((Gr.refl w).alloc _), hS.keep ((Gr.refl w).alloc _)⟩
  clear hS
  go_enter Try.func14, Try.ntmps14
  go_wp2_with fail
  refine Rg.wp_scope_once 0 rfl ?_
  go_wp2_with fail
  generalize hw0 : World.alloc w _ = w0
  have hx' : XB p w 35 zeroS s w0 := by rw [← hw0]; exact hx
  clear hw0 hx
  have hx := hx'
  clear hx'
  refine (word_no p ⟨#[99, 114, 101, 97, 116, 101]⟩ s _ hx.ps h0).mono ?_
  rintro e w' ⟨rfl, hw⟩
  rw [hw]
  clear hw w'
  go_wp2_with fail
  refine (word_no p ⟨#[100, 114, 111, 112]⟩ s _ hx.ps h1).mono ?_
  rintro e w' ⟨rfl, hw⟩
  rw [hw]
  clear hw w'
  go_wp2_with fail
  refine (word_no p ⟨#[114, 111, 108, 108, 98, 97, 99, 107]⟩ s _ hx.ps h2).mono ?_
  rintro e w' ⟨rfl, hw⟩
  rw [hw]
  clear hw w'
  go_wp2_with fail
  refine (word_no p ⟨#[105, 110, 115, 101, 114, 116]⟩ s _ hx.ps h3).mono ?_
  rintro e w' ⟨rfl, hw⟩
  rw [hw]
  clear hw w'
  go_wp2_with fail
  refine (word_no p ⟨#[117, 112, 100, 97, 116, 101]⟩ s _ hx.ps h4).mono ?_
  rintro e w' ⟨rfl, hw⟩
  rw [hw]
  clear hw w'
  go_wp2_with fail
  refine (word_no p ⟨#[100, 101, 108, 101, 116, 101]⟩ s _ hx.ps h5).mono ?_
  rintro e w' ⟨rfl, hw⟩
  rw [hw]
  clear hw w'
  go_wp2_with fail
  refine (is1_any p ⟨#[101, 120, 112, 108, 97, 105, 110]⟩ s _ hx.ps).mono ?_
  rintro e w' ⟨rfl, hw⟩
  rw [hw, h6]
  clear hw w'
  go_wp2_with fail
  refine (is1_any p ⟨#[115, 101, 108, 101, 99, 116]⟩ s _ hx.ps).mono ?_
  rintro e w' ⟨rfl, hw⟩
  rw [hw, h7]
  clear hw w'
  go_wp2_with fail
  refine (word_no p ⟨#[98, 101, 103, 105, 110]⟩ s _ hx.ps h8).mono ?_
  rintro e w' ⟨rfl, hw⟩
  rw [hw]
  clear hw w'
  go_wp2_with fail
  refine (word_no p ⟨#[99, 111, 109, 109, 105, 116]⟩ s _ hx.ps h9).mono ?_
  rintro e w' ⟨rfl, hw⟩
  rw [hw]
  clear hw w'
  go_wp2_with fail
  refine (word_any p ⟨#[115, 97, 118, 101, 112, 111, 105, 110, 116]⟩ s _ hx.ps).mono ?_
  rintro e w1 ⟨rfl, hps1, hg1⟩
  rw [hy]
  rw [may_y hy] at hps1
  have hx1 := hx.go hps1 hg1
  clear hx hps1 hg1
  go_wp2_with fail
  refine (pname_any p s.step _ hx1.ps).mono ?_
  rintro e w2 ⟨rfl, hps2, hg2⟩
  have hx2 := hx1.go hps2 hg2
  have HX := hid hx2.x
  obtain ⟨n, hn⟩ : ∃ n, s.step.name.1 = n := ⟨_, rfl⟩
  have FI : Hid (∀ W9, Go1 w.heap.size w2 W9 → Rst p w (nameK 12 s.step) (SR.val { kind := 12, name := n }) W9) := hid (fun W9 h9 => by unfold nameK; simp only [hn]; exact stm_plain hx2 h9 { (StmAt.zero (S := Nw w) (w := W9)) with kind := rfl, name := rfl })
  clear hx1 hx2 hps2 hg2
  rw [hn]
  go_wp2_with (guard_target =~ wpList _ _ _ (Oper.mk _ (Op.store 35 _ _) _ _ _ _ :: _) _ _; refine st_row (ty := 35) rfl rfl w.heap.size (SR.cs { kind := 12, name := n }).toArray rfl rfl 35 (SR.cs {}).toArray HX.out (sr_info _) (sr_old {} _) (sr_one _) ?_; intro W9 hW9 gW9 zW9; apply wpList_nil; rename_i hKK; refine hKK _ _ (wp_ret ?_); (try simp only [Exit.inBlock, Exit.then]); (try change Rg.once _ _ _ _ _ _); (try rw [Rg.once_ret]); (try rw [Exit.noGoto_ret]); change bodyPost _ _ _ _ _ _; refine bodyPost_ret (v := SR.val { kind := 12, name := n }) (results_cell_row (g := w.heap.size) rfl _ _ _ _ _ _ (by kernel_rfl) hW9 Try.underlying35 rfl (sr_info _)) rfl ?_; exact ⟨_, rfl, FI.out W9 gW9⟩)
set_option maxHeartbeats 16000000 in
set_option maxRecDepth 100000 in
theorem stm_release (p : Nat) (s : Ps) (w : World) (hS : PS p w s) (h0 : s.is 1 ⟨#[99, 114, 101, 97, 116, 101]⟩ = false) (h1 : s.is 1 ⟨#[100, 114, 111, 112]⟩ = false) (h2 : s.is 1 ⟨#[114, 111, 108, 108, 98, 97, 99, 107]⟩ = false) (h3 : s.is 1 ⟨#[105, 110, 115, 101, 114, 116]⟩ = false) (h4 : s.is 1 ⟨#[117, 112, 100, 97, 116, 101]⟩ = false) (h5 : s.is 1 ⟨#[100, 101, 108, 101, 116, 101]⟩ = false) (h6 : s.is 1 ⟨#[101, 120, 112, 108, 97, 105, 110]⟩ = false) (h7 : s.is 1 ⟨#[115, 101, 108, 101, 99, 116]⟩ = false) (h8 : s.is 1 ⟨#[98, 101, 103, 105, 110]⟩ = false) (h9 : s.is 1 ⟨#[99, 111, 109, 109, 105, 116]⟩ = false) (h10 : s.is 1 ⟨#[115, 97, 118, 101, 112, 111, 105, 110, 116]⟩ = false) (hy : s.is 1 ⟨#[114, 101, 108, 101, 97, 115, 101]⟩ = true) : Calls Try.prog 14 #[.pointer (some ⟨p, 0, none⟩)] w (Pst p w (nameK 14 s.step)) := by
  have hpw := hS.lt
  have hx : XB p w 35 zeroS s (w.alloc (.cells zeroS.toArray 35)) := ⟨hpw, alloc_at _ _, .of ((Gr.refl w).alloc _), hS.keep ((Gr.refl w).alloc _)⟩
  clear hS
  go_enter Try.func14, Try.ntmps14
  go_wp2_with fail
  refine Rg.wp_scope_once 0 rfl ?_
  go_wp2_with fail
  generalize hw0 : World.alloc w _ = w0
  have hx' : XB p w 35 zeroS s w0 := by rw [← hw0]; exact hx
  clear hw0 hx
  have hx := hx'
  clear hx'
  refine (word_no p ⟨#[99, 114, 101, 97, 116, 101]⟩ s _ hx.ps h0).mono ?_
  rintro e w' ⟨rfl, hw⟩
  rw [hw]
  clear hw w'
  go_wp2_with fail
  refine (word_no p ⟨#[100, 114, 111, 112]⟩ s _ hx.ps h1).mono ?_
  rintro e w' ⟨rfl, hw⟩
  rw [hw]
  clear hw w'
  go_wp2_with fail
  refine (word_no p ⟨#[114, 111, 108, 108, 98, 97, 99, 107]⟩ s _ hx.ps h2).mono ?_
  rintro e w' ⟨rfl, hw⟩
  rw [hw]
  clear hw w'
  go_wp2_with fail
  refine (word_no p ⟨#[105, 110, 115, 101, 114, 116]⟩ s _ hx.ps h3).mono ?_
  rintro e w' ⟨rfl, hw⟩
  rw [hw]
  clear hw w'
  go_wp2_with fail
  refine (word_no p ⟨#[117, 112, 100, 97, 116, 101]⟩ s _ hx.ps h4).mono ?_
  rintro e w' ⟨rfl, hw⟩
  rw [hw]
  clear hw w'
  go_wp2_with fail
  refine (word_no p ⟨#[100, 101, 108, 101, 116, 101]⟩ s _ hx.ps h5).mono ?_
  rintro e w' ⟨rfl, hw⟩
  rw [hw]
  clear hw w'
  go_wp2_with fail
  refine (is1_any p ⟨#[101, 120, 112, 108, 97, 105, 110]⟩ s _ hx.ps).mono ?_
  rintro e w' ⟨rfl, hw⟩
  rw [hw, h6]
  clear hw w'
  go_wp2_with fail
  refine (is1_any p ⟨#[115, 101, 108, 101, 99, 116]⟩ s _ hx.ps).mono ?_
  rintro e w' ⟨rfl, hw⟩
  rw [hw, h7]
  clear hw w'
  go_wp2_with fail
  refine (word_no p ⟨#[98, 101, 103, 105, 110]⟩ s _ hx.ps h8).mono ?_
  rintro e w' ⟨rfl, hw⟩
  rw [hw]
  clear hw w'
  go_wp2_with fail
  refine (word_no p ⟨#[99, 111, 109, 109, 105, 116]⟩ s _ hx.ps h9).mono ?_
  rintro e w' ⟨rfl, hw⟩
  rw [hw]
  clear hw w'
  go_wp2_with fail
  refine (word_no p ⟨#[115, 97, 118, 101, 112, 111, 105, 110, 116]⟩ s _ hx.ps h10).mono ?_
  rintro e w' ⟨rfl, hw⟩
  rw [hw]
  clear hw w'
  go_wp2_with fail
  refine (word_any p ⟨#[114, 101, 108, 101, 97, 115, 101]⟩ s _ hx.ps).mono ?_
  rintro e w1 ⟨rfl, hps1, hg1⟩
  rw [hy]
  rw [may_y hy] at hps1
  have hx1 := hx.go hps1 hg1
  clear hx hps1 hg1
  go_wp2_with fail
  refine (pname_any p s.step _ hx1.ps).mono ?_
  rintro e w2 ⟨rfl, hps2, hg2⟩
  have hx2 := hx1.go hps2 hg2
  have HX := hid hx2.x
  obtain ⟨n, hn⟩ : ∃ n, s.step.name.1 = n := ⟨_, rfl⟩
  have FI : Hid (∀ W9, Go1 w.heap.size w2 W9 → Rst p w (nameK 14 s.step) (SR.val { kind := 14, name := n }) W9) := hid (fun W9 h9 => by unfold nameK; simp only [hn]; exact stm_plain hx2 h9 { (StmAt.zero (S := Nw w) (w := W9)) with kind := rfl, name := rfl })
  clear hx1 hx2 hps2 hg2
  rw [hn]
  go_wp2_with (guard_target =~ wpList _ _ _ (Oper.mk _ (Op.store 35 _ _) _ _ _ _ :: _) _ _; refine st_row (ty := 35) rfl rfl w.heap.size (SR.cs { kind := 14, name := n }).toArray rfl rfl 35 (SR.cs {}).toArray HX.out (sr_info _) (sr_old {} _) (sr_one _) ?_; intro W9 hW9 gW9 zW9; apply wpList_nil; rename_i hKK; refine hKK _ _ (wp_ret ?_); (try simp only [Exit.inBlock, Exit.then]); (try change Rg.once _ _ _ _ _ _); (try rw [Rg.once_ret]); (try rw [Exit.noGoto_ret]); change bodyPost _ _ _ _ _ _; refine bodyPost_ret (v := SR.val { kind := 14, name := n }) (results_cell_row (g := w.heap.size) rfl _ _ _ _ _ _ (by kernel_rfl) hW9 Try.underlying35 rfl (sr_info _)) rfl ?_; exact ⟨_, rfl, FI.out W9 gW9⟩)
set_option maxHeartbeats 16000000 in
set_option maxRecDepth 100000 in
theorem stm_delete (p : Nat) (s : Ps) (w : World) (hS : PS p w s) (h0 : s.is 1 ⟨#[99, 114, 101, 97, 116, 101]⟩ = false) (h1 : s.is 1 ⟨#[100, 114, 111, 112]⟩ = false) (h2 : s.is 1 ⟨#[114, 111, 108, 108, 98, 97, 99, 107]⟩ = false) (h3 : s.is 1 ⟨#[105, 110, 115, 101, 114, 116]⟩ = false) (h4 : s.is 1 ⟨#[117, 112, 100, 97, 116, 101]⟩ = false) (hy : s.is 1 ⟨#[100, 101, 108, 101, 116, 101]⟩ = true) (hs : s.size ≤ 900000) : Calls Try.prog 14 #[.pointer (some ⟨p, 0, none⟩)] w (Pst p w (deleteS s.step)) := by
  have hpw := hS.lt
  have hx : XB p w 35 zeroS s (w.alloc (.cells zeroS.toArray 35)) := ⟨hpw, alloc_at _ _, .of ((Gr.refl w).alloc _), hS.keep ((Gr.refl w).alloc _)⟩
  clear hS
  go_enter Try.func14, Try.ntmps14
  go_wp2_with fail
  refine Rg.wp_scope_once 0 rfl ?_
  go_wp2_with fail
  generalize hw0 : World.alloc w _ = w0
  have hx' : XB p w 35 zeroS s w0 := by rw [← hw0]; exact hx
  clear hw0 hx
  have hx := hx'
  clear hx'
  refine (word_no p ⟨#[99, 114, 101, 97, 116, 101]⟩ s _ hx.ps h0).mono ?_
  rintro e w' ⟨rfl, hw⟩
  rw [hw]
  clear hw w'
  go_wp2_with fail
  refine (word_no p ⟨#[100, 114, 111, 112]⟩ s _ hx.ps h1).mono ?_
  rintro e w' ⟨rfl, hw⟩
  rw [hw]
  clear hw w'
  go_wp2_with fail
  refine (word_no p ⟨#[114, 111, 108, 108, 98, 97, 99, 107]⟩ s _ hx.ps h2).mono ?_
  rintro e w' ⟨rfl, hw⟩
  rw [hw]
  clear hw w'
  go_wp2_with fail
  refine (word_no p ⟨#[105, 110, 115, 101, 114, 116]⟩ s _ hx.ps h3).mono ?_
  rintro e w' ⟨rfl, hw⟩
  rw [hw]
  clear hw w'
  go_wp2_with fail
  refine (word_no p ⟨#[117, 112, 100, 97, 116, 101]⟩ s _ hx.ps h4).mono ?_
  rintro e w' ⟨rfl, hw⟩
  rw [hw]
  clear hw w'
  go_wp2_with fail
  refine (word_any p ⟨#[100, 101, 108, 101, 116, 101]⟩ s _ hx.ps).mono ?_
  rintro e w1 ⟨rfl, hps1, hg1⟩
  rw [hy]
  rw [may_y hy] at hps1
  have hx1 := hx.go hps1 hg1
  clear hx hps1 hg1
  go_wp2_with fail
  have hA1 := (Gr.refl w1).alloc (.cells #[.string ⟨#[102, 114, 111, 109]⟩] 9)
  refine (words_one p _ ⟨#[102, 114, 111, 109]⟩ s.step _ (hx1.ps.keep hA1) (by rw [Rg.blk_cells (alloc_at _ _)]; rfl)).mono ?_
  rintro e w2 ⟨rfl, hps2, hg2⟩
  have hx2 := hx1.go hps2 ((Go1.of hA1).trans hg2)
  obtain ⟨s2, hs2⟩ : ∃ s2, s.step.need 1 ⟨#[102, 114, 111, 109]⟩ = s2 := ⟨_, rfl⟩
  rw [hs2] at hx2
  have z2 : s2.size ≤ 900000 := by rw [← hs2]; exact Nat.le_trans (size_need _ _ _) (Nat.le_trans (size_step s) hs)
  clear hx1 hA1 hps2 hg2
  go_wp2_with fail
  refine (pname_any p s2 _ hx2.ps).mono ?_
  rintro e w3 ⟨rfl, hps3, hg3⟩
  have hx3 := hx2.go hps3 hg3
  obtain ⟨n, hn⟩ : ∃ n, s2.name.1 = n := ⟨_, rfl⟩
  obtain ⟨s3, hs3⟩ : ∃ s3, s2.name.2 = s3 := ⟨_, rfl⟩
  rw [hs3] at hx3
  rw [hn]
  have z3 : s3.size ≤ 1000000 := by rw [← hs3]; exact Nat.le_trans (size_name _) (by omega)
  obtain ⟨C, hC⟩ : ∃ C, clauseS ⟨#[119, 104, 101, 114, 101]⟩ s3 = C := ⟨_, rfl⟩
  have hQ : deleteS s.step = ({ kind := 7, table := n, wher := C.1 }, C.2) := by unfold deleteS; simp only [hs2, hn, hs3, hC]
  have HX := hid hx3.x
  have H4 : Hid (∀ W9, W9.heap[w.heap.size]? = some (.cells (SR.cs { kind := 7, table := n }).toArray 35 (0, 0)) → Go1 w.heap.size w3 W9 → XB p w 35 (SR.cs { kind := 7, table := n }) s3 W9) := hid (fun W9 a b => ⟨hx3.hp, a, hx3.g.own b (Nat.le_refl _), hx3.ps.go b hx3.hp⟩)
  clear hx2 hx3 hps3 hg3 hs2 hn hs3
  go_wp2_with (guard_target =~ wpList _ _ _ (Oper.mk _ (Op.store 35 _ _) _ _ _ _ :: _) _ _; refine st_row (ty := 35) rfl rfl w.heap.size (SR.cs { kind := 7, table := n }).toArray rfl rfl 35 (SR.cs {}).toArray HX.out (sr_info _) (sr_old {} _) (sr_one _) ?_; intro W4 hW4 gW4 zW4; have hx4 := hid (H4.out W4 hW4 gW4); clear hW4 gW4 zW4 H4 HX)
  have hx5 := hx4.out
  clear hx4
  refine (clause_any p ⟨#[119, 104, 101, 114, 101]⟩ s3 _ hx5.ps z3).mono ?_
  rintro e w5 ⟨u, rfl, rw, x, rfl, hxw, hps5, hg5, hgd⟩
  rw [hC] at hps5 hgd
  have hx6 := hx5.go hps5 hg5
  have hl5 := (Array.getElem?_eq_some_iff.1 hx5.x).1
  have FI : Hid (∀ W9, Go1 w.heap.size w5 W9 → Rst p w (deleteS s.step) (SR.val { kind := 7, table := n, wher := rw }) W9) := hid (fun W9 h9 => by
    rw [hQ]
    refine ⟨{ kind := 7, table := n, wher := rw }, { kind := 7, table := n, wher := x }, rfl, { (StmAt.zero (S := Nw w) (w := W9)) with kind := rfl, table := rfl, wher := ?_ }, hx6.ps.go h9 hx6.hp, hx6.g.own h9 (Nat.le_refl _), fun hh => by rw [hgd hh]⟩
    exact (hxw.of h9.size (fun b hb hl => h9.get hl (by have : W4.heap.size ≤ b := hb; omega))).mono (fun b _ hb => by have : W4.heap.size ≤ b := hb; show w.heap.size ≤ b; omega))
  have HX := hid hx6.x
  clear hxw hps5 hg5 hgd hx6 hQ hC hx5 hl5
  unfold XR.val
  go_upto_region 12 with (guard_target =~ wpList _ _ _ (Oper.mk _ (Op.store 32 _ _) _ _ _ _ :: _) _ _; refine st_part (ty := 32) rfl rfl w.heap.size 13 (xF rw).toArray rfl rfl 35 _ HX.out (by kernel_rfl) (by rw [SR.len]; show 13 + 12 ≤ 41; decide) (by kernel_rfl) ?_; intro W8 hW8 gW8; rw [show (xF rw).toArray.toList = xF rw from rfl, put_where] at hW8; have HG8 := hid gW8; have HX8 := hid hW8; clear hW8 gW8 HX)
  have HX := HX8
  have FI2 : Hid (∀ W9, Go1 w.heap.size W8 W9 → Rst p w (deleteS s.step) (SR.val { kind := 7, table := n, wher := rw }) W9) := hid (fun W9 h9 => FI.out W9 (HG8.out.trans h9))
  clear FI HG8 HX8
  have FI := FI2
  go_wp2_with (first | (guard_target =~ wpList _ _ _ (Oper.mk _ (Op.load 35 _) _ _ _ _ :: _) _ _; refine wpList_load_row rfl 35 _ rfl w.heap.size rfl 35 (SR.cs { kind := 7, table := n, wher := rw }).toArray (0, 0) _ HX.out Try.underlying35 rfl (sr_info _) ?_) | (guard_target =~ wpList _ _ _ (Oper.mk _ (Op.store 35 _ _) _ _ _ _ :: _) _ _; refine st_row (ty := 35) rfl rfl w.heap.size (SR.cs { kind := 7, table := n, wher := rw }).toArray rfl rfl 35 _ HX.out (sr_info _) (sr_old _ _) (sr_one _) ?_; intro W9 hW9 gW9 zW9; apply wpList_nil; rename_i hKK; refine hKK _ _ (wp_ret ?_); (try simp only [Exit.inBlock, Exit.then]); (try change Rg.once _ _ _ _ _ _); (try rw [Rg.once_ret]); (try rw [Exit.noGoto_ret]); change bodyPost _ _ _ _ _ _; refine bodyPost_ret (v := SR.val { kind := 7, table := n, wher := rw }) (results_cell_row (g := w.heap.size) rfl _ _ _ _ _ _ (by kernel_rfl) hW9 Try.underlying35 rfl (sr_info _)) rfl ?_; exact ⟨_, rfl, FI.out W9 gW9⟩))
set_option maxHeartbeats 16000000 in
set_option maxRecDepth 100000 in
theorem stm_none (p : Nat) (s : Ps) (w : World) (hS : PS p w s) (h0 : s.is 1 ⟨#[99, 114, 101, 97, 116, 101]⟩ = false) (h1 : s.is 1 ⟨#[100, 114, 111, 112]⟩ = false) (h2 : s.is 1 ⟨#[114, 111, 108, 108, 98, 97, 99, 107]⟩ = false) (h3 : s.is 1 ⟨#[105, 110, 115, 101, 114, 116]⟩ = false) (h4 : s.is 1 ⟨#[117, 112, 100, 97, 116, 101]⟩ = false) (h5 : s.is 1 ⟨#[100, 101, 108, 101, 116, 101]⟩ = false) (h6 : s.is 1 ⟨#[101, 120, 112, 108, 97, 105, 110]⟩ = false) (h7 : s.is 1 ⟨#[115, 101, 108, 101, 99, 116]⟩ = false) (h8 : s.is 1 ⟨#[98, 101, 103, 105, 110]⟩ = false) (h9 : s.is 1 ⟨#[99, 111, 109, 109, 105, 116]⟩ = false) (h10 : s.is 1 ⟨#[115, 97, 118, 101, 112, 111, 105, 110, 116]⟩ = false) (h11 : s.is 1 ⟨#[114, 101, 108, 101, 97, 115, 101]⟩ = false)  : Calls Try.prog 14 #[.pointer (some ⟨p, 0, none⟩)] w (Pst p w (({}, s.fail 180))) := by
  have hpw := hS.lt
  have hx : XB p w 35 zeroS s (w.alloc (.cells zeroS.toArray 35)) := ⟨hpw, alloc_at _ _, .of ((Gr.refl w).alloc _), hS.keep ((Gr.refl w).alloc _)⟩
  clear hS
  go_enter Try.func14, Try.ntmps14
  go_wp2_with fail
  refine Rg.wp_scope_once 0 rfl ?_
  go_wp2_with fail
  generalize hw0 : World.alloc w _ = w0
  have hx' : XB p w 35 zeroS s w0 := by rw [← hw0]; exact hx
  clear hw0 hx
  have hx := hx'
  clear hx'
  refine (word_no p ⟨#[99, 114, 101, 97, 116, 101]⟩ s _ hx.ps h0).mono ?_
  rintro e w' ⟨rfl, hw⟩
  rw [hw]
  clear hw w'
  go_wp2_with fail
  refine (word_no p ⟨#[100, 114, 111, 112]⟩ s _ hx.ps h1).mono ?_
  rintro e w' ⟨rfl, hw⟩
  rw [hw]
  clear hw w'
  go_wp2_with fail
  refine (word_no p ⟨#[114, 111, 108, 108, 98, 97, 99, 107]⟩ s _ hx.ps h2).mono ?_
  rintro e w' ⟨rfl, hw⟩
  rw [hw]
  clear hw w'
  go_wp2_with fail
  refine (word_no p ⟨#[105, 110, 115, 101, 114, 116]⟩ s _ hx.ps h3).mono ?_
  rintro e w' ⟨rfl, hw⟩
  rw [hw]
  clear hw w'
  go_wp2_with fail
  refine (word_no p ⟨#[117, 112, 100, 97, 116, 101]⟩ s _ hx.ps h4).mono ?_
  rintro e w' ⟨rfl, hw⟩
  rw [hw]
  clear hw w'
  go_wp2_with fail
  refine (word_no p ⟨#[100, 101, 108, 101, 116, 101]⟩ s _ hx.ps h5).mono ?_
  rintro e w' ⟨rfl, hw⟩
  rw [hw]
  clear hw w'
  go_wp2_with fail
  refine (is1_any p ⟨#[101, 120, 112, 108, 97, 105, 110]⟩ s _ hx.ps).mono ?_
  rintro e w' ⟨rfl, hw⟩
  rw [hw, h6]
  clear hw w'
  go_wp2_with fail
  refine (is1_any p ⟨#[115, 101, 108, 101, 99, 116]⟩ s _ hx.ps).mono ?_
  rintro e w' ⟨rfl, hw⟩
  rw [hw, h7]
  clear hw w'
  go_wp2_with fail
  refine (word_no p ⟨#[98, 101, 103, 105, 110]⟩ s _ hx.ps h8).mono ?_
  rintro e w' ⟨rfl, hw⟩
  rw [hw]
  clear hw w'
  go_wp2_with fail
  refine (word_no p ⟨#[99, 111, 109, 109, 105, 116]⟩ s _ hx.ps h9).mono ?_
  rintro e w' ⟨rfl, hw⟩
  rw [hw]
  clear hw w'
  go_wp2_with fail
  refine (word_no p ⟨#[115, 97, 118, 101, 112, 111, 105, 110, 116]⟩ s _ hx.ps h10).mono ?_
  rintro e w' ⟨rfl, hw⟩
  rw [hw]
  clear hw w'
  go_wp2_with fail
  refine (word_no p ⟨#[114, 101, 108, 101, 97, 115, 101]⟩ s _ hx.ps h11).mono ?_
  rintro e w' ⟨rfl, hw⟩
  rw [hw]
  clear hw w'
  go_wp2_with fail
  refine (wrong_any p s _ hx.ps).mono ?_
  rintro e w1 ⟨rfl, hps1, hg1⟩
  have hx1 := hx.go hps1 hg1
  have HX := hid hx1.x
  have FI : Hid (∀ W9, Go1 w.heap.size w1 W9 → Rst p w ({}, s.fail 180) (SR.val {}) W9) := hid (fun W9 h9 => stm_plain hx1 h9 StmAt.zero)
  clear hx1 hx hps1 hg1
  go_wp2_with (first | (guard_target =~ wpList _ _ _ (Oper.mk _ (Op.load 35 _) _ _ _ _ :: _) _ _; refine wpList_load_row rfl 35 _ rfl w.heap.size rfl 35 (SR.cs {}).toArray (0, 0) _ HX.out Try.underlying35 rfl (sr_info _) ?_) | (guard_target =~ wpList _ _ _ (Oper.mk _ (Op.store 35 _ _) _ _ _ _ :: _) _ _; refine st_row (ty := 35) rfl rfl w.heap.size (SR.cs {}).toArray rfl rfl 35 _ HX.out (sr_info _) (sr_old _ _) (sr_one _) ?_; intro W9 hW9 gW9 zW9; apply wpList_nil; rename_i hKK; refine hKK _ _ (wp_ret ?_); (try simp only [Exit.inBlock, Exit.then]); (try change Rg.once _ _ _ _ _ _); (try rw [Rg.once_ret]); (try rw [Exit.noGoto_ret]); change bodyPost _ _ _ _ _ _; refine bodyPost_ret (v := SR.val {}) (results_cell_row (g := w.heap.size) rfl _ _ _ _ _ _ (by kernel_rfl) hW9 Try.underlying35 rfl (sr_info _)) rfl ?_; exact ⟨_, rfl, FI.out W9 gW9⟩))
end Go.Proofs.Ytaogpifcfmjcbaa
end
section
namespace Go.Proofs.Ytaogpifcfmjcbaa
open Go.RowKit
set_option linter.unusedSimpArgs false
set_option linter.unusedVariables false
attribute [local go_sem] Rg.leads_value Rg.leads_skip Rg.leads_enter Rg.brings_value Rg.brings_skip Rg.brings_enter Rg.bringsG_value Rg.bringsG_enter Rg.once_normal Rg.once_exit Rg.once_ret Rg.once_panic Rg.once_goto Rg.bringsS_value Rg.bringsS_skip Rg.bringsS_enter Rg.still_value Rg.still_skip Rg.still_enter
set_option maxHeartbeats 16000000 in
set_option maxRecDepth 100000 in
theorem stm_rollback_to (p : Nat) (s : Ps) (w : World) (hS : PS p w s) (h0 : s.is 1 ⟨#[99, 114, 101, 97, 116, 101]⟩ = false) (h1 : s.is 1 ⟨#[100, 114, 111, 112]⟩ = false) (hy : s.is 1 ⟨#[114, 111, 108, 108, 98, 97, 99, 107]⟩ = true) (hz : s.step.is 1 ⟨#[116, 111]⟩ = true) : Calls Try.prog 14 #[.pointer (some ⟨p, 0, none⟩)] w (Pst p w (backS s.step)) := by
  have hpw := hS.lt
  have hx : XB p w 35 zeroS s (w.alloc (.cells zeroS.toArray 35)) := ⟨hpw, alloc_at _ _, .of ((Gr.refl w).alloc _), hS.keep ((Gr.refl w).alloc _)⟩
  clear hS
  go_enter Try.func14, Try.ntmps14
  go_wp2_with fail
  refine Rg.wp_scope_once 2 rfl ?_
  go_wp2_with fail
  generalize hw0 : World.alloc w _ = w0
  have hx' : XB p w 35 zeroS s w0 := by rw [← hw0]; exact hx
  clear hw0 hx
  have hx := hx'
  clear hx'
  refine (word_no p ⟨#[99, 114, 101, 97, 116, 101]⟩ s _ hx.ps h0).mono ?_
  rintro e w' ⟨rfl, hw⟩
  rw [hw]
  clear hw w'
  go_wp2_with fail
  refine (word_no p ⟨#[100, 114, 111, 112]⟩ s _ hx.ps h1).mono ?_
  rintro e w' ⟨rfl, hw⟩
  rw [hw]
  clear hw w'
  go_wp2_with fail
  refine (word_any p ⟨#[114, 111, 108, 108, 98, 97, 99, 107]⟩ s _ hx.ps).mono ?_
  rintro e w1 ⟨rfl, hps1, hg1⟩
  rw [hy]
  rw [may_y hy] at hps1
  have hx1 := hx.go hps1 hg1
  clear hx hps1 hg1
  go_wp2_with fail
  go_step3
  (try simp only [Exit.then])
  (try change Rg.once _ _ _ _ _ _)
  rw [Rg.once_goto]
  go_wp2_with fail
  refine (word_any p ⟨#[116, 111]⟩ s.step _ hx1.ps).mono ?_
  rintro e w2 ⟨rfl, hps2, hg2⟩
  rw [hz]
  rw [may_y hz] at hps2
  have hx2 := hx1.go hps2 hg2
  clear hx1 hps2 hg2
  go_wp2_with fail
  refine (pname_any p s.step.step _ hx2.ps).mono ?_
  rintro e w3 ⟨rfl, hps3, hg3⟩
  have hx3 := hx2.go hps3 hg3
  clear hx2 hps3 hg3
  obtain ⟨n, hn⟩ : ∃ a, s.step.step.name.1 = a := ⟨_, rfl⟩
  obtain ⟨s3, hs3⟩ : ∃ a, s.step.step.name.2 = a := ⟨_, rfl⟩
  rw [hs3] at hx3
  rw [hn]
  have HX := hid hx3.x
  have FI : Hid (∀ W9, Go1 w.heap.size w3 W9 → Rst p w (backS s.step) (SR.val { kind := 13, name := n }) W9) := hid (fun W9 h9 => by unfold backS; rw [hz]; show Rst p w (nameK 13 s.step.step) _ _; unfold nameK; simp only [hn, hs3]; exact stm_plain hx3 h9 { (StmAt.zero (S := Nw w) (w := W9)) with kind := rfl, name := rfl })
  clear hx3
  go_wp2_with (guard_target =~ wpList _ _ _ (Oper.mk _ (Op.store 35 _ _) _ _ _ _ :: _) _ _; refine st_row (ty := 35) rfl rfl w.heap.size (SR.cs { kind := 13, name := n }).toArray rfl rfl 35 (SR.cs {}).toArray HX.out (sr_info _) (sr_old {} _) (sr_one _) ?_; intro W9 hW9 gW9 zW9; apply wpList_nil; rename_i hKK; refine hKK _ _ (wp_ret ?_); (try simp only [Exit.inBlock, Exit.then]); (try change Rg.once _ _ _ _ _ _); (try rw [Rg.once_ret]); (try rw [Exit.noGoto_ret]); change bodyPost _ _ _ _ _ _; refine bodyPost_ret (v := SR.val { kind := 13, name := n }) (results_cell_row (g := w.heap.size) rfl _ _ _ _ _ _ (by kernel_rfl) hW9 Try.underlying35 rfl (sr_info _)) rfl ?_; exact ⟨_, rfl, FI.out W9 gW9⟩)
set_option maxHeartbeats 16000000 in
set_option maxRecDepth 100000 in
theorem stm_rollback (p : Nat) (s : Ps) (w : World) (hS : PS p w s) (h0 : s.is 1 ⟨#[99, 114, 101, 97, 116, 101]⟩ = false) (h1 : s.is 1 ⟨#[100, 114, 111, 112]⟩ = false) (hy : s.is 1 ⟨#[114, 111, 108, 108, 98, 97, 99, 107]⟩ = true) (hz : s.step.is 1 ⟨#[116, 111]⟩ = false) : Calls Try.prog 14 #[.pointer (some ⟨p, 0, none⟩)] w (Pst p w (backS s.step)) := by
  have hpw := hS.lt
  have hx : XB p w 35 zeroS s (w.alloc (.cells zeroS.toArray 35)) := ⟨hpw, alloc_at _ _, .of ((Gr.refl w).alloc _), hS.keep ((Gr.refl w).alloc _)⟩
  clear hS
  go_enter Try.func14, Try.ntmps14
  go_wp2_with fail
  refine Rg.wp_scope_once 2 rfl ?_
  go_wp2_with fail
  generalize hw0 : World.alloc w _ = w0
  have hx' : XB p w 35 zeroS s w0 := by rw [← hw0]; exact hx
  clear hw0 hx
  have hx := hx'
  clear hx'
  refine (word_no p ⟨#[99, 114, 101, 97, 116, 101]⟩ s _ hx.ps h0).mono ?_
  rintro e w' ⟨rfl, hw⟩
  rw [hw]
  clear hw w'
  go_wp2_with fail
  refine (word_no p ⟨#[100, 114, 111, 112]⟩ s _ hx.ps h1).mono ?_
  rintro e w' ⟨rfl, hw⟩
  rw [hw]
  clear hw w'
  go_wp2_with fail
  refine (word_any p ⟨#[114, 111, 108, 108, 98, 97, 99, 107]⟩ s _ hx.ps).mono ?_
  rintro e w1 ⟨rfl, hps1, hg1⟩
  rw [hy]
  rw [may_y hy] at hps1
  have hx1 := hx.go hps1 hg1
  clear hx hps1 hg1
  go_wp2_with fail
  go_step3
  (try simp only [Exit.then])
  (try change Rg.once _ _ _ _ _ _)
  rw [Rg.once_goto]
  go_wp2_with fail
  refine (word_any p ⟨#[116, 111]⟩ s.step _ hx1.ps).mono ?_
  rintro e w2 ⟨rfl, hps2, hg2⟩
  rw [hz]
  rw [may_n hz] at hps2
  have hx2 := hx1.go hps2 hg2
  clear hx1 hps2 hg2
  have HX := hid hx2.x
  have FI : Hid (∀ W9, Go1 w.heap.size w2 W9 → Rst p w (backS s.step) (SR.val { kind := 11 }) W9) := hid (fun W9 h9 => by unfold backS; rw [hz]; show Rst p w ({ kind := 11 }, s.step) _ _; exact stm_plain hx2 h9 { (StmAt.zero (S := Nw w) (w := W9)) with kind := rfl })
  clear hx2
  go_wp2_with (guard_target =~ wpList _ _ _ (Oper.mk _ (Op.store 35 _ _) _ _ _ _ :: _) _ _; refine st_row (ty := 35) rfl rfl w.heap.size (SR.cs { kind := 11 }).toArray rfl rfl 35 (SR.cs {}).toArray HX.out (sr_info _) (sr_old {} _) (sr_one _) ?_; intro W9 hW9 gW9 zW9; apply wpList_nil; rename_i hKK; refine hKK _ _ (wp_ret ?_); (try simp only [Exit.inBlock, Exit.then]); (try change Rg.once _ _ _ _ _ _); (try rw [Rg.once_ret]); (try rw [Exit.noGoto_ret]); change bodyPost _ _ _ _ _ _; refine bodyPost_ret (v := SR.val { kind := 11 }) (results_cell_row (g := w.heap.size) rfl _ _ _ _ _ _ (by kernel_rfl) hW9 Try.underlying35 rfl (sr_info _)) rfl ?_; exact ⟨_, rfl, FI.out W9 gW9⟩)
set_option maxHeartbeats 16000000 in
set_option maxRecDepth 100000 in
theorem stm_drop_table (p : Nat) (s : Ps) (w : World) (hS : PS p w s) (h0 : s.is 1 ⟨#[99, 114, 101, 97, 116, 101]⟩ = false) (hy : s.is 1 ⟨#[100, 114, 111, 112]⟩ = true) (hz : s.step.is 1 ⟨#[116, 97, 98, 108, 101]⟩ = true) : Calls Try.prog 14 #[.pointer (some ⟨p, 0, none⟩)] w (Pst p w (dropS s.step)) := by
  have hpw := hS.lt
  have hx : XB p w 35 zeroS s (w.alloc (.cells zeroS.toArray 35)) := ⟨hpw, alloc_at _ _, .of ((Gr.refl w).alloc _), hS.keep ((Gr.refl w).alloc _)⟩
  clear hS
  go_enter Try.func14, Try.ntmps14
  go_wp2_with fail
  refine Rg.wp_scope_once 1 rfl ?_
  go_wp2_with fail
  generalize hw0 : World.alloc w _ = w0
  have hx' : XB p w 35 zeroS s w0 := by rw [← hw0]; exact hx
  clear hw0 hx
  have hx := hx'
  clear hx'
  refine (word_no p ⟨#[99, 114, 101, 97, 116, 101]⟩ s _ hx.ps h0).mono ?_
  rintro e w' ⟨rfl, hw⟩
  rw [hw]
  clear hw w'
  go_wp2_with fail
  refine (word_any p ⟨#[100, 114, 111, 112]⟩ s _ hx.ps).mono ?_
  rintro e w1 ⟨rfl, hps1, hg1⟩
  rw [hy]
  rw [may_y hy] at hps1
  have hx1 := hx.go hps1 hg1
  clear hx hps1 hg1
  go_wp2_with fail
  go_step3
  (try simp only [Exit.then])
  (try change Rg.once _ _ _ _ _ _)
  rw [Rg.once_goto]
  go_wp2_with fail
  refine (word_any p ⟨#[116, 97, 98, 108, 101]⟩ s.step _ hx1.ps).mono ?_
  rintro e w2 ⟨rfl, hps2, hg2⟩
  rw [hz]
  rw [may_y hz] at hps2
  have hx2 := hx1.go hps2 hg2
  clear hx1 hps2 hg2
  go_wp2_with fail
  refine (pname_any p s.step.step _ hx2.ps).mono ?_
  rintro e w3 ⟨rfl, hps3, hg3⟩
  have hx3 := hx2.go hps3 hg3
  clear hx2 hps3 hg3
  obtain ⟨n, hn⟩ : ∃ a, s.step.step.name.1 = a := ⟨_, rfl⟩
  obtain ⟨s3, hs3⟩ : ∃ a, s.step.step.name.2 = a := ⟨_, rfl⟩
  rw [hs3] at hx3
  rw [hn]
  have HX := hid hx3.x
  have FI : Hid (∀ W9, Go1 w.heap.size w3 W9 → Rst p w (dropS s.step) (SR.val { kind := 2, table := n }) W9) := hid (fun W9 h9 => by unfold dropS; rw [hz]; simp only [if_true, hn, hs3]; exact stm_plain hx3 h9 { (StmAt.zero (S := Nw w) (w := W9)) with kind := rfl, table := rfl })
  clear hx3
  go_wp2_with (guard_target =~ wpList _ _ _ (Oper.mk _ (Op.store 35 _ _) _ _ _ _ :: _) _ _; refine st_row (ty := 35) rfl rfl w.heap.size (SR.cs { kind := 2, table := n }).toArray rfl rfl 35 (SR.cs {}).toArray HX.out (sr_info _) (sr_old {} _) (sr_one _) ?_; intro W9 hW9 gW9 zW9; apply wpList_nil; rename_i hKK; refine hKK _ _ (wp_ret ?_); (try simp only [Exit.inBlock, Exit.then]); (try change Rg.once _ _ _ _ _ _); (try rw [Rg.once_ret]); (try rw [Exit.noGoto_ret]); change bodyPost _ _ _ _ _ _; refine bodyPost_ret (v := SR.val { kind := 2, table := n }) (results_cell_row (g := w.heap.size) rfl _ _ _ _ _ _ (by kernel_rfl) hW9 Try.underlying35 rfl (sr_info _)) rfl ?_; exact ⟨_, rfl, FI.out W9 gW9⟩)
set_option maxHeartbeats 16000000 in
set_option maxRecDepth 100000 in
theorem stm_drop_index (p : Nat) (s : Ps) (w : World) (hS : PS p w s) (h0 : s.is 1 ⟨#[99, 114, 101, 97, 116, 101]⟩ = false) (hy : s.is 1 ⟨#[100, 114, 111, 112]⟩ = true) (hz : s.step.is 1 ⟨#[116, 97, 98, 108, 101]⟩ = false) : Calls Try.prog 14 #[.pointer (some ⟨p, 0, none⟩)] w (Pst p w (dropS s.step)) := by
  have hpw := hS.lt
  have hx : XB p w 35 zeroS s (w.alloc (.cells zeroS.toArray 35)) := ⟨hpw, alloc_at _ _, .of ((Gr.refl w).alloc _), hS.keep ((Gr.refl w).alloc _)⟩
  clear hS
  go_enter Try.func14, Try.ntmps14
  go_wp2_with fail
  refine Rg.wp_scope_once 1 rfl ?_
  go_wp2_with fail
  generalize hw0 : World.alloc w _ = w0
  have hx' : XB p w 35 zeroS s w0 := by rw [← hw0]; exact hx
  clear hw0 hx
  have hx := hx'
  clear hx'
  refine (word_no p ⟨#[99, 114, 101, 97, 116, 101]⟩ s _ hx.ps h0).mono ?_
  rintro e w' ⟨rfl, hw⟩
  rw [hw]
  clear hw w'
  go_wp2_with fail
  refine (word_any p ⟨#[100, 114, 111, 112]⟩ s _ hx.ps).mono ?_
  rintro e w1 ⟨rfl, hps1, hg1⟩
  rw [hy]
  rw [may_y hy] at hps1
  have hx1 := hx.go hps1 hg1
  clear hx hps1 hg1
  go_wp2_with fail
  go_step3
  (try simp only [Exit.then])
  (try change Rg.once _ _ _ _ _ _)
  rw [Rg.once_goto]
  go_wp2_with fail
  refine (word_any p ⟨#[116, 97, 98, 108, 101]⟩ s.step _ hx1.ps).mono ?_
  rintro e w2 ⟨rfl, hps2, hg2⟩
  rw [hz]
  rw [may_n hz] at hps2
  have hx2 := hx1.go hps2 hg2
  clear hx1 hps2 hg2
  go_wp2_with fail
  have hA3 := (Gr.refl w2).alloc (.cells #[.string ⟨#[105, 110, 100, 101, 120]⟩] 9)
  refine (words_one p _ ⟨#[105, 110, 100, 101, 120]⟩ s.step _ (hx2.ps.keep hA3) (by rw [Rg.blk_cells (alloc_at' _ _ _ rfl)]; rfl)).mono ?_
  rintro e w3 ⟨rfl, hps3, hg3⟩
  have hx3 := hx2.go hps3 ((Go1.of hA3).trans hg3)
  clear hx2 hps3 hg3 hA3
  obtain ⟨s3, hs3⟩ : ∃ a, s.step.need 1 ⟨#[105, 110, 100, 101, 120]⟩ = a := ⟨_, rfl⟩
  rw [hs3] at hx3
  go_wp2_with fail
  refine (pname_any p s3 _ hx3.ps).mono ?_
  rintro e w4 ⟨rfl, hps4, hg4⟩
  have hx4 := hx3.go hps4 hg4
  clear hx3 hps4 hg4
  obtain ⟨n, hn⟩ : ∃ a, s3.name.1 = a := ⟨_, rfl⟩
  obtain ⟨s4, hs4⟩ : ∃ a, s3.name.2 = a := ⟨_, rfl⟩
  rw [hs4] at hx4
  rw [hn]
  have HX := hid hx4.x
  have FI : Hid (∀ W9, Go1 w.heap.size w4 W9 → Rst p w (dropS s.step) (SR.val { kind := 4, name := n }) W9) := hid (fun W9 h9 => by unfold dropS; rw [hz]; show Rst p w (nameK 4 (s.step.need 1 ⟨#[105, 110, 100, 101, 120]⟩)) _ _; unfold nameK; simp only [hs3, hn, hs4]; exact stm_plain hx4 h9 { (StmAt.zero (S := Nw w) (w := W9)) with kind := rfl, name := rfl })
  clear hx4
  go_wp2_with (guard_target =~ wpList _ _ _ (Oper.mk _ (Op.store 35 _ _) _ _ _ _ :: _) _ _; refine st_row (ty := 35) rfl rfl w.heap.size (SR.cs { kind := 4, name := n }).toArray rfl rfl 35 (SR.cs {}).toArray HX.out (sr_info _) (sr_old {} _) (sr_one _) ?_; intro W9 hW9 gW9 zW9; apply wpList_nil; rename_i hKK; refine hKK _ _ (wp_ret ?_); (try simp only [Exit.inBlock, Exit.then]); (try change Rg.once _ _ _ _ _ _); (try rw [Rg.once_ret]); (try rw [Exit.noGoto_ret]); change bodyPost _ _ _ _ _ _; refine bodyPost_ret (v := SR.val { kind := 4, name := n }) (results_cell_row (g := w.heap.size) rfl _ _ _ _ _ _ (by kernel_rfl) hW9 Try.underlying35 rfl (sr_info _)) rfl ?_; exact ⟨_, rfl, FI.out W9 gW9⟩)
set_option maxHeartbeats 16000000 in
set_option maxRecDepth 100000 in
theorem stm_create_table (p : Nat) (s : Ps) (w : World) (hS : PS p w s)  (hy : s.is 1 ⟨#[99, 114, 101, 97, 116, 101]⟩ = true) (hz : s.step.is 1 ⟨#[116, 97, 98, 108, 101]⟩ = true) (hs : s.size ≤ 900000) : Calls Try.prog 14 #[.pointer (some ⟨p, 0, none⟩)] w (Pst p w (createS s.step)) := by
  have hpw := hS.lt
  have hx : XB p w 35 zeroS s (w.alloc (.cells zeroS.toArray 35)) := ⟨hpw, alloc_at _ _, .of ((Gr.refl w).alloc _), hS.keep ((Gr.refl w).alloc _)⟩
  clear hS
  go_enter Try.func14, Try.ntmps14
  go_wp2_with fail
  refine Rg.wp_scope_once 0 rfl ?_
  go_wp2_with fail
  generalize hw0 : World.alloc w _ = w0
  have hx' : XB p w 35 zeroS s w0 := by rw [← hw0]; exact hx
  clear hw0 hx
  have hx := hx'
  clear hx'
  refine (word_any p ⟨#[99, 114, 101, 97, 116, 101]⟩ s _ hx.ps).mono ?_
  rintro e w1 ⟨rfl, hps1, hg1⟩
  rw [hy]
  rw [may_y hy] at hps1
  have hx1 := hx.go hps1 hg1
  clear hx hps1 hg1
  go_wp2_with fail
  go_step3
  (try simp only [Exit.then])
  (try change Rg.once _ _ _ _ _ _)
  rw [Rg.once_goto]
  go_wp2_with fail
  refine (word_any p ⟨#[116, 97, 98, 108, 101]⟩ s.step _ hx1.ps).mono ?_
  rintro e w2 ⟨rfl, hps2, hg2⟩
  rw [hz]
  rw [may_y hz] at hps2
  have hx2 := hx1.go hps2 hg2
  clear hx1 hps2 hg2
  go_wp2_with fail
  refine (table_any p s.step.step _ hx2.ps (Nat.le_trans (size_step _) (Nat.le_trans (size_step s) hs))).mono ?_
  rintro e w3 ⟨u, rfl, hR⟩
  have hR2 := hR
  obtain ⟨r, x, rfl, -, -, hg3, -⟩ := hR2
  have HX : Hid (w3.heap[w.heap.size]? = some (.cells zeroS.toArray 35 (0, 0))) := hid ((hx2.go (hR.choose_spec.choose_spec.2.2.1) hg3).x)
  have FI : Hid (∀ W9, Go1 w.heap.size w3 W9 → Rst p w (createS s.step) (SR.val r) W9) := hid (fun W9 h9 => by unfold createS; rw [hz]; exact stm_store hx2 hR h9)
  clear hx2 hR hg3
  unfold SR.val
  go_wp2_with (guard_target =~ wpList _ _ _ (Oper.mk _ (Op.store 35 _ _) _ _ _ _ :: _) _ _; refine st_row (ty := 35) rfl rfl w.heap.size (SR.cs r).toArray rfl rfl 35 (SR.cs {}).toArray HX.out (sr_info r) (sr_old {} r) (sr_one r) ?_; intro W9 hW9 gW9 zW9; apply wpList_nil; rename_i hKK; refine hKK _ _ (wp_ret ?_); (try simp only [Exit.inBlock, Exit.then]); (try change Rg.once _ _ _ _ _ _); (try rw [Rg.once_ret]); (try rw [Exit.noGoto_ret]); change bodyPost _ _ _ _ _ _; refine bodyPost_ret (v := SR.val r) (results_cell_row (g := w.heap.size) rfl _ _ _ _ _ _ (by kernel_rfl) hW9 Try.underlying35 rfl (sr_info _)) rfl ?_; exact ⟨_, rfl, FI.out W9 gW9⟩)
set_option maxHeartbeats 16000000 in
set_option maxRecDepth 100000 in
theorem stm_create_index (p : Nat) (s : Ps) (w : World) (hS : PS p w s)  (hy : s.is 1 ⟨#[99, 114, 101, 97, 116, 101]⟩ = true) (hz : s.step.is 1 ⟨#[116, 97, 98, 108, 101]⟩ = false) : Calls Try.prog 14 #[.pointer (some ⟨p, 0, none⟩)] w (Pst p w (createS s.step)) := by
  have hpw := hS.lt
  have hx : XB p w 35 zeroS s (w.alloc (.cells zeroS.toArray 35)) := ⟨hpw, alloc_at _ _, .of ((Gr.refl w).alloc _), hS.keep ((Gr.refl w).alloc _)⟩
  clear hS
  go_enter Try.func14, Try.ntmps14
  go_wp2_with fail
  refine Rg.wp_scope_once 0 rfl ?_
  go_wp2_with fail
  generalize hw0 : World.alloc w _ = w0
  have hx' : XB p w 35 zeroS s w0 := by rw [← hw0]; exact hx
  clear hw0 hx
  have hx := hx'
  clear hx'
  refine (word_any p ⟨#[99, 114, 101, 97, 116, 101]⟩ s _ hx.ps).mono ?_
  rintro e w1 ⟨rfl, hps1, hg1⟩
  rw [hy]
  rw [may_y hy] at hps1
  have hx1 := hx.go hps1 hg1
  clear hx hps1 hg1
  go_wp2_with fail
  go_step3
  (try simp only [Exit.then])
  (try change Rg.once _ _ _ _ _ _)
  rw [Rg.once_goto]
  go_wp2_with fail
  refine (word_any p ⟨#[116, 97, 98, 108, 101]⟩ s.step _ hx1.ps).mono ?_
  rintro e w2 ⟨rfl, hps2, hg2⟩
  rw [hz]
  rw [may_n hz] at hps2
  have hx2 := hx1.go hps2 hg2
  clear hx1 hps2 hg2
  go_wp2_with fail
  refine (word_any p ⟨#[117, 110, 105, 113, 117, 101]⟩ s.step _ hx2.ps).mono ?_
  rintro e w3 ⟨rfl, hps3, hg3⟩
  have hx3 := hx2.go hps3 hg3
  clear hx2 hps3 hg3
  obtain ⟨ub, hub⟩ : ∃ b, s.step.is 1 ⟨#[117, 110, 105, 113, 117, 101]⟩ = b := ⟨_, rfl⟩
  obtain ⟨s3, hs3⟩ : ∃ b, (s.step.may 1 ⟨#[117, 110, 105, 113, 117, 101]⟩).2 = b := ⟨_, rfl⟩
  have hU : s.step.word ⟨#[117, 110, 105, 113, 117, 101]⟩ = (ub, s3) := by rw [← hub, ← hs3]; unfold Ps.word Ps.may; split <;> simp_all
  rw [hs3] at hx3
  rw [hub]
  have HX := hid hx3.x
  have H4 : Hid (∀ W9, W9.heap[w.heap.size]? = some (.cells (SR.cs { kind := 3, unique := ub }).toArray 35 (0, 0)) → Go1 w.heap.size w3 W9 → XB p w 35 (SR.cs { kind := 3, unique := ub }) s3 W9) := hid (fun W9 a b => ⟨hx3.hp, a, hx3.g.own b (Nat.le_refl _), hx3.ps.go b hx3.hp⟩)
  clear hx3 hub hs3
  go_wp2_with (guard_target =~ wpList _ _ _ (Oper.mk _ (Op.store 35 _ _) _ _ _ _ :: _) _ _; refine st_row (ty := 35) rfl rfl w.heap.size (SR.cs { kind := 3, unique := ub }).toArray rfl rfl 35 (SR.cs {}).toArray HX.out (sr_info _) (sr_old {} _) (sr_one _) ?_; intro W4 hW4 gW4 zW4; have hx4 := hid (H4.out W4 hW4 gW4); clear hW4 gW4 zW4 H4 HX)
  have hx5 := hx4.out
  clear hx4
  have hA5 := (Gr.refl W4).alloc (.cells #[.string ⟨#[105, 110, 100, 101, 120]⟩] 9)
  refine (words_one p _ ⟨#[105, 110, 100, 101, 120]⟩ s3 _ (hx5.ps.keep hA5) (by rw [Rg.blk_cells (alloc_at' _ _ _ rfl)]; rfl)).mono ?_
  rintro e w5 ⟨rfl, hps5, hg5⟩
  have hx6 := hx5.go hps5 ((Go1.of hA5).trans hg5)
  clear hx5 hps5 hg5 hA5
  obtain ⟨s5, hs5⟩ : ∃ a, s3.need 1 ⟨#[105, 110, 100, 101, 120]⟩ = a := ⟨_, rfl⟩
  rw [hs5] at hx6
  go_wp2_with fail
  refine (pname_any p s5 _ hx6.ps).mono ?_
  rintro e w6 ⟨rfl, hps6, hg6⟩
  have hx7 := hx6.go hps6 hg6
  clear hx6 hps6 hg6
  obtain ⟨n, hn⟩ : ∃ a, s5.name.1 = a := ⟨_, rfl⟩
  obtain ⟨s6, hs6⟩ : ∃ a, s5.name.2 = a := ⟨_, rfl⟩
  rw [hs6] at hx7
  rw [hn]
  have kk : w6.cell? ⟨w.heap.size, 2, none⟩ = some (.string ⟨#[]⟩) := hx7.cell 2
  have kf := Rg.blk_free hx7.x
  have hx8 : XB p w 35 (SR.cs { kind := 3, unique := ub, name := n }) s6 (w6.setCell ⟨w.heap.size, 2, none⟩ (.string n)) := hx7.set 2 (.string n)
  clear hx7
  go_wp2_with fail
  clear kk kf
  change Calls _ _ _ ((World.setCell w6 _ _).alloc _) _
  have hz7 : w6.heap.size = (World.setCell w6 ⟨w.heap.size, 2, none⟩ (.string n)).heap.size := by simp
  generalize World.setCell w6 _ _ = w7 at *
  have HZ7 := hid hz7
  clear hz7
  have hA7 := (Gr.refl w7).alloc (.cells #[.string ⟨#[111, 110]⟩] 9)
  refine (words_one p _ ⟨#[111, 110]⟩ s6 _ (hx8.ps.keep hA7) (by rw [Rg.blk_cells (alloc_at' _ _ _ HZ7.out)]; rfl)).mono ?_
  rintro e w8 ⟨rfl, hps7, hg7⟩
  have hx9 := hx8.go hps7 ((Go1.of hA7).trans hg7)
  clear hx8 hps7 hg7 hA7
  obtain ⟨s8, hs8⟩ : ∃ a, s6.need 1 ⟨#[111, 110]⟩ = a := ⟨_, rfl⟩
  rw [hs8] at hx9
  go_wp2_with fail
  refine (pname_any p s8 _ hx9.ps).mono ?_
  rintro e w9 ⟨rfl, hps8, hg8⟩
  have hxa := hx9.go hps8 hg8
  clear hx9 hps8 hg8
  obtain ⟨t, ht⟩ : ∃ a, s8.name.1 = a := ⟨_, rfl⟩
  obtain ⟨s9, hs9⟩ : ∃ a, s8.name.2 = a := ⟨_, rfl⟩
  rw [hs9] at hxa
  rw [ht]
  have kk : w9.cell? ⟨w.heap.size, 1, none⟩ = some (.string ⟨#[]⟩) := hxa.cell 1
  have kf := Rg.blk_free hxa.x
  have hxb : XB p w 35 (SR.cs { kind := 3, unique := ub, name := n, table := t }) s9 (w9.setCell ⟨w.heap.size, 1, none⟩ (.string t)) := hxa.set 1 (.string t)
  clear hxa
  go_wp2_with fail
  clear kk kf
  generalize World.setCell w9 _ _ = wa at *
  refine (must_any p ⟨#[40]⟩ s9 _ hxb.ps).mono ?_
  rintro e wb ⟨rfl, hpsb, hgb⟩
  have hxc := hxb.go hpsb hgb
  clear hxb hpsb hgb
  obtain ⟨sb, hsb⟩ : ∃ b, s9.need 4 ⟨#[40]⟩ = b := ⟨_, rfl⟩
  rw [hsb] at hxc
  go_wp2_with fail
  refine (pname_any p sb _ hxc.ps).mono ?_
  rintro e wc ⟨rfl, hpsc, hgc⟩
  have hxd := hxc.go hpsc hgc
  clear hxc hpsc hgc
  obtain ⟨c, hc⟩ : ∃ a, sb.name.1 = a := ⟨_, rfl⟩
  obtain ⟨sc, hsc⟩ : ∃ a, sb.name.2 = a := ⟨_, rfl⟩
  rw [hsc] at hxd
  rw [hc]
  have kk : wc.cell? ⟨w.heap.size, 3, none⟩ = some (.string ⟨#[]⟩) := hxd.cell 3
  have kf := Rg.blk_free hxd.x
  have hxe : XB p w 35 (SR.cs { kind := 3, unique := ub, name := n, table := t, column := c }) sc (wc.setCell ⟨w.heap.size, 3, none⟩ (.string c)) := hxd.set 3 (.string c)
  clear hxd
  go_wp2_with fail
  clear kk kf
  generalize World.setCell wc _ _ = wd at *
  refine (must_any p ⟨#[41]⟩ sc _ hxe.ps).mono ?_
  rintro e we ⟨rfl, hpse, hge⟩
  have hxf := hxe.go hpse hge
  clear hxe hpse hge
  have hQ : createS s.step = ({ kind := 3, unique := ub, name := n, table := t, column := c }, sc.need 4 ⟨#[41]⟩) := by unfold createS; rw [hz]; show indexS s.step = _; unfold indexS; simp only [hU, hs5, hn, hs6, hs8, ht, hs9, hsb, hc, hsc]
  have HX := hid hxf.x
  have FI : Hid (∀ W9, Go1 w.heap.size we W9 → Rst p w (createS s.step) (SR.val { kind := 3, unique := ub, name := n, table := t, column := c }) W9) := hid (fun W9 h9 => by rw [hQ]; exact stm_plain hxf h9 { (StmAt.zero (S := Nw w) (w := W9)) with kind := rfl, unique := rfl, name := rfl, table := rfl, column := rfl })
  clear hxf hQ
  go_wp2_with (first | (guard_target =~ wpList _ _ _ (Oper.mk _ (Op.load 35 _) _ _ _ _ :: _) _ _; refine wpList_load_row rfl 35 _ rfl w.heap.size rfl 35 (SR.cs { kind := 3, unique := ub, name := n, table := t, column := c }).toArray (0, 0) _ HX.out Try.underlying35 rfl (sr_info _) ?_) | (guard_target =~ wpList _ _ _ (Oper.mk _ (Op.store 35 _ _) _ _ _ _ :: _) _ _; refine st_row (ty := 35) rfl rfl w.heap.size (SR.cs { kind := 3, unique := ub, name := n, table := t, column := c }).toArray rfl rfl 35 _ HX.out (sr_info _) (sr_old _ _) (sr_one _) ?_; intro W9 hW9 gW9 zW9; apply wpList_nil; rename_i hKK; refine hKK _ _ (wp_ret ?_); (try simp only [Exit.inBlock, Exit.then]); (try change Rg.once _ _ _ _ _ _); (try rw [Rg.once_ret]); (try rw [Exit.noGoto_ret]); change bodyPost _ _ _ _ _ _; refine bodyPost_ret (v := SR.val { kind := 3, unique := ub, name := n, table := t, column := c }) (results_cell_row (g := w.heap.size) rfl _ _ _ _ _ _ (by kernel_rfl) hW9 Try.underlying35 rfl (sr_info _)) rfl ?_; exact ⟨_, rfl, FI.out W9 gW9⟩))
theorem statement_any (p : Nat) (s : Ps) (w : World) (hS : PS p w s) (hs : s.size ≤ 900000) : Calls Try.prog 14 #[.pointer (some ⟨p, 0, none⟩)] w (Pst p w (stmS s)) := by
  cases h0 : s.is 1 ⟨#[99, 114, 101, 97, 116, 101]⟩ with
  | true =>
    have e : stmS s = (createS s.step) := by unfold stmS; simp only [h0, if_true, Bool.false_eq_true, if_false]
    rw [e]
    cases hz : s.step.is 1 ⟨#[116, 97, 98, 108, 101]⟩ with
    | true => exact stm_create_table p s w hS h0 hz hs
    | false => exact stm_create_index p s w hS h0 hz
  | false =>
  cases h1 : s.is 1 ⟨#[100, 114, 111, 112]⟩ with
  | true =>
    have e : stmS s = (dropS s.step) := by unfold stmS; simp only [h0, h1, if_true, Bool.false_eq_true, if_false]
    rw [e]
    cases hz : s.step.is 1 ⟨#[116, 97, 98, 108, 101]⟩ with
    | true => exact stm_drop_table p s w hS h0 h1 hz
    | false => exact stm_drop_index p s w hS h0 h1 hz
  | false =>
  cases h2 : s.is 1 ⟨#[114, 111, 108, 108, 98, 97, 99, 107]⟩ with
  | true =>
    have e : stmS s = (backS s.step) := by unfold stmS; simp only [h0, h1, h2, if_true, Bool.false_eq_true, if_false]
    rw [e]
    cases hz : s.step.is 1 ⟨#[116, 111]⟩ with
    | true => exact stm_rollback_to p s w hS h0 h1 h2 hz
    | false => exact stm_rollback p s w hS h0 h1 h2 hz
  | false =>
  cases h3 : s.is 1 ⟨#[105, 110, 115, 101, 114, 116]⟩ with
  | true =>
    have e : stmS s = (insertS s.step) := by unfold stmS; simp only [h0, h1, h2, h3, if_true, Bool.false_eq_true, if_false]
    rw [e]
    exact stm_insert p s w hS h0 h1 h2 h3 hs
  | false =>
  cases h4 : s.is 1 ⟨#[117, 112, 100, 97, 116, 101]⟩ with
  | true =>
    have e : stmS s = (updateS s.step) := by unfold stmS; simp only [h0, h1, h2, h3, h4, if_true, Bool.false_eq_true, if_false]
    rw [e]
    exact stm_update p s w hS h0 h1 h2 h3 h4 hs
  | false =>
  cases h5 : s.is 1 ⟨#[100, 101, 108, 101, 116, 101]⟩ with
  | true =>
    have e : stmS s = (deleteS s.step) := by unfold stmS; simp only [h0, h1, h2, h3, h4, h5, if_true, Bool.false_eq_true, if_false]
    rw [e]
    exact stm_delete p s w hS h0 h1 h2 h3 h4 h5 hs
  | false =>
  cases h6 : s.is 1 ⟨#[101, 120, 112, 108, 97, 105, 110]⟩ with
  | true =>
    have e : stmS s = (queryS s) := by unfold stmS; simp only [h0, h1, h2, h3, h4, h5, h6, if_true, Bool.false_eq_true, if_false]
    rw [e]
    exact stm_explain p s w hS h0 h1 h2 h3 h4 h5 h6 hs
  | false =>
  cases h7 : s.is 1 ⟨#[115, 101, 108, 101, 99, 116]⟩ with
  | true =>
    have e : stmS s = (queryS s) := by unfold stmS; simp only [h0, h1, h2, h3, h4, h5, h6, h7, if_true, Bool.false_eq_true, if_false]
    rw [e]
    exact stm_select p s w hS h0 h1 h2 h3 h4 h5 h6 h7 hs
  | false =>
  cases h8 : s.is 1 ⟨#[98, 101, 103, 105, 110]⟩ with
  | true =>
    have e : stmS s = ({ kind := 9 }, s.step) := by unfold stmS; simp only [h0, h1, h2, h3, h4, h5, h6, h7, h8, if_true, Bool.false_eq_true, if_false]
    rw [e]
    exact stm_begin p s w hS h0 h1 h2 h3 h4 h5 h6 h7 h8
  | false =>
  cases h9 : s.is 1 ⟨#[99, 111, 109, 109, 105, 116]⟩ with
  | true =>
    have e : stmS s = ({ kind := 10 }, s.step) := by unfold stmS; simp only [h0, h1, h2, h3, h4, h5, h6, h7, h8, h9, if_true, Bool.false_eq_true, if_false]
    rw [e]
    exact stm_commit p s w hS h0 h1 h2 h3 h4 h5 h6 h7 h8 h9
  | false =>
  cases h10 : s.is 1 ⟨#[115, 97, 118, 101, 112, 111, 105, 110, 116]⟩ with
  | true =>
    have e : stmS s = (nameK 12 s.step) := by unfold stmS; simp only [h0, h1, h2, h3, h4, h5, h6, h7, h8, h9, h10, if_true, Bool.false_eq_true, if_false]
    rw [e]
    exact stm_savepoint p s w hS h0 h1 h2 h3 h4 h5 h6 h7 h8 h9 h10
  | false =>
  cases h11 : s.is 1 ⟨#[114, 101, 108, 101, 97, 115, 101]⟩ with
  | true =>
    have e : stmS s = (nameK 14 s.step) := by unfold stmS; simp only [h0, h1, h2, h3, h4, h5, h6, h7, h8, h9, h10, h11, if_true, Bool.false_eq_true, if_false]
    rw [e]
    exact stm_release p s w hS h0 h1 h2 h3 h4 h5 h6 h7 h8 h9 h10 h11
  | false =>
  have e : stmS s = ({}, s.fail 180) := by unfold stmS; simp only [h0, h1, h2, h3, h4, h5, h6, h7, h8, h9, h10, h11, Bool.false_eq_true, if_false]
  rw [e]
  exact stm_none p s w hS h0 h1 h2 h3 h4 h5 h6 h7 h8 h9 h10 h11
end Go.Proofs.Ytaogpifcfmjcbaa
end
section
namespace Go.Proofs.Ytaogpifcfmjcbaa
set_option linter.unusedVariables false
open Lx
theorem quote_len : ∀ (l : List UInt8) (x : List UInt8 × Nat), quoteL l = some x → x.1.length ≤ l.length
  | [], x, h => by simp [quoteL] at h
  | c :: r, x, h => by
    unfold quoteL at h
    split at h
    · cases r with
      | nil => simp at h; subst h; simp
      | cons d r' =>
        simp only at h
        split at h
        · cases hq : quoteL r' with
          | none => rw [hq] at h; simp at h
          | some y =>
            rw [hq] at h; simp at h; subst h
            have := quote_len r' y hq
            simp; omega
        · simp at h; subst h; simp
    · cases hq : quoteL r with
      | none => rw [hq] at h; simp at h
      | some y =>
        rw [hq] at h; simp at h; subst h
        have := quote_len r y hq
        simp; omega
theorem one_len (r : List UInt8) (t : Tk) (n : Nat) (h : oneTok r = some (t, n)) : t.text.length ≤ r.length ∧ t.kind ≠ 5 := by
  cases r with
  | nil => simp [oneTok] at h
  | cons c r =>
    change (if letterB c then wordL (c :: r) else if digitB c then numberL (c :: r) else if c.toNat = 39 then textL r else signL (c :: r)) = some (t, n) at h
    split at h
    · unfold wordL at h
      simp only at h
      split at h
      · simp at h
        obtain ⟨rfl, rfl⟩ := h
        refine ⟨?_, by simp⟩
        simp; omega
      · cases h
    · split at h
      · unfold numberL at h
        simp only at h
        split at h
        · simp at h
          obtain ⟨rfl, rfl⟩ := h
          exact ⟨by simp, by simp⟩
        · cases h
      · split at h
        · unfold textL at h
          cases hq : quoteL r with
          | none => rw [hq] at h; simp at h
          | some x =>
            rw [hq] at h; simp at h
            obtain ⟨rfl, rfl⟩ := h
            have := quote_len r x hq
            exact ⟨by simp; omega, by simp⟩
        · cases r with
          | nil =>
            change (if oneSign c then some (⟨4, [c], 0⟩, 1) else none) = some (t, n) at h
            split at h
            · simp at h; obtain ⟨rfl, rfl⟩ := h; exact ⟨by simp, by simp⟩
            · cases h
          | cons d r =>
            change (if twoSign c d then some (⟨4, [c, d], 0⟩, 2) else if oneSign c then some (⟨4, [c], 0⟩, 1) else none) = some (t, n) at h
            split at h
            · simp at h; obtain ⟨rfl, rfl⟩ := h; exact ⟨by simp, by simp⟩
            · split at h
              · simp at h; obtain ⟨rfl, rfl⟩ := h; exact ⟨by simp, by simp⟩
              · cases h
theorem lexN_ok (s : List UInt8) (hs : s.length ≤ 4096) : ∀ (f pos : Nat) (acc l : List Tok), (∀ t ∈ acc, t.tk.text.length ≤ 4096) → lexN f s pos acc = .good l → TokOk l
  | 0, pos, acc, l, ha, h => by simp [lexN] at h
  | f + 1, pos, acc, l, ha, h => by
    unfold lexN at h
    simp only at h
    split at h
    · simp at h
      subst h
      refine ⟨⟨acc, _, rfl, rfl⟩, fun t ht => ?_⟩
      rcases List.mem_append.1 ht with h1 | h1
      · exact ha t h1
      · simp at h1; subst h1; simp
    · split at h
      · exact lexN_ok s hs f _ acc l ha h
      · split at h
        · cases h
        · rename_i t n ho
          refine lexN_ok s hs f _ _ l (fun x hx => ?_) h
          rcases List.mem_append.1 hx with h1 | h1
          · exact ha x h1
          · simp at h1
            subst h1
            have := (one_len _ _ _ ho).1
            simp at this
            show t.text.length ≤ 4096
            omega
theorem lexAll_ok (s : List UInt8) (hs : s.length ≤ 4096) (l : List Tok) (h : lexAll s = .good l) : TokOk l := lexN_ok s hs _ _ _ _ (fun t ht => by simp at ht) h
end Go.Proofs.Ytaogpifcfmjcbaa
end
section
namespace Go.Proofs.Ytaogpifcfmjcbaa
open Go.RowKit
set_option linter.unusedSimpArgs false
set_option linter.unusedVariables false
def readS (s : ByteArray) : Ps := if 4096 < s.size then .bad 2 0 else match Lx.lexAll s.data.toList with
  | .good l => .ok l 0
  | .bad p => .bad 180 p
def BeginP (s : ByteArray) (w : World) (e : Ending) (w' : World) : Prop := Gr w w' ∧ match readS s with
  | .ok l d => d = 0 ∧ TokOk l ∧ l.length ≤ 4097 ∧ ∃ p, w.heap.size ≤ p ∧ e = .returned (.tuple #[.pointer (some ⟨p, 0, none⟩), .int .i64 0, .int .i64 0]) ∧ PS p w' (.ok l 0)
  | .bad x a => x ≠ 0 ∧ e = .returned (.tuple #[.pointer none, .int .i64 x, .int .i64 (a : Int)])
theorem row_of {α : Type} {f : α → List Value} {n : Nat} (hE : Enc f n) {w : World} {g : Nat} {l : List α} (h : ∀ j u, (cellsF f l)[j]? = some u → w.cell? ⟨g, j, none⟩ = some u) : RowF f n w g 0 l := by
  intro k hk j u hu
  have hj : j < n := by rw [← hE.len l[k]]; exact (List.getElem?_eq_some_iff.1 hu).1
  rw [Nat.zero_add]
  exact h _ _ (by rw [hE.cells_get l k hk j hj]; exact hu)
theorem lexN_len (s : List UInt8) : ∀ (f pos : Nat) (acc l : List Lx.Tok), Lx.lexN f s pos acc = .good l → l.length ≤ acc.length + f
  | 0, pos, acc, l, h => by simp [Lx.lexN] at h
  | f + 1, pos, acc, l, h => by
    unfold Lx.lexN at h
    simp only at h
    split at h
    · simp at h
      subst h
      simp
    · split at h
      · have := lexN_len s f _ acc l h; omega
      · split at h
        · cases h
        · have := lexN_len s f _ _ l h
          simp at this
          omega
set_option maxHeartbeats 4000000 in
set_option maxRecDepth 100000 in
theorem begin_long (s : ByteArray) (w : World) (hs : 4096 < s.size) (hm : s.size ≤ maxLen) : Calls Try.prog 13 #[.string s] w (BeginP s w) := by
  have hr : readS s = .bad 2 0 := by unfold readS; rw [if_pos hs]
  have FI : Hid (∀ w', Gr w w' → BeginP s w (.returned (.tuple #[.pointer none, .int .i64 2, .int .i64 0])) w') := hid (fun w' h => ⟨h, by rw [hr]; exact ⟨by decide, rfl⟩⟩)
  generalize BeginP s w = Q at *
  go_enter Try.func13, Try.ntmps13
  go_wp2_with fail
  refine (words_long s w hs hm).mono ?_
  rintro e w1 ⟨rfl, hg⟩
  have HQ := hid (FI.out w1 hg)
  clear hg FI hr hs hm
  go_wp2
  first
  | exact HQ.out
  | (go_ret3; exact HQ.out)
set_option maxHeartbeats 4000000 in
set_option maxRecDepth 100000 in
theorem begin_bad (s : ByteArray) (w : World) (hs : s.size ≤ 4096) (a : Nat) (ha : Lx.lexAll s.data.toList = .bad a) : Calls Try.prog 13 #[.string s] w (BeginP s w) := by
  have hr : readS s = .bad 180 a := by unfold readS; rw [if_neg (by omega), ha]
  have FI : Hid (∀ w', Gr w w' → BeginP s w (.returned (.tuple #[.pointer none, .int .i64 180, .int .i64 (a : Int)])) w') := hid (fun w' h => ⟨h, by rw [hr]; exact ⟨by decide, rfl⟩⟩)
  generalize BeginP s w = Q at *
  have HW := words_any s w hs
  unfold WordsPost at HW
  rw [ha] at HW
  clear ha hr
  go_enter Try.func13, Try.ntmps13
  go_wp2_with fail
  refine HW.mono ?_
  rintro e w1 ⟨hg, rfl⟩
  have HQ := hid (FI.out w1 hg)
  clear hg FI hs HW
  go_wp2
  first
  | exact HQ.out
  | (go_ret3; exact HQ.out)
set_option maxHeartbeats 4000000 in
set_option maxRecDepth 100000 in
theorem begin_good (s : ByteArray) (w : World) (hs : s.size ≤ 4096) (l : List Lx.Tok) (hl : Lx.lexAll s.data.toList = .good l) (m : Int) (hm : w.cell? ⟨0, 0, none⟩ = some (.int .i64 m)) : Calls Try.prog 13 #[.string s] w (BeginP s w) := by
  have hr : readS s = .ok l 0 := by unfold readS; rw [if_neg (by omega), hl]
  have hok := lexAll_ok s.data.toList (by simpa using hs) l hl
  have hlen := lexN_len _ _ _ _ _ hl
  have h0 := lt_of_cell hm
  have FI : Hid (∀ w1 g, Gr w w1 → w.heap.size ≤ g → (∀ j u, (toksCells l)[j]? = some u → w1.cell? ⟨g, j, none⟩ = some u) → BeginP s w (.returned (.tuple #[.pointer (some ⟨w1.heap.size, 0, none⟩), .int .i64 0, .int .i64 0])) (w1.alloc (.cells #[.slice (some ⟨g, 0, none⟩) l.length l.length, .int .i64 0, .int .i64 0, .int .i64 0] 60))) := hid (fun w1 g hg hgb hc => by
    have hA := (Gr.refl w1).alloc (.cells #[.slice (some ⟨g, 0, none⟩) l.length l.length, .int .i64 0, .int .i64 0, .int .i64 0] 60)
    refine ⟨hg.trans hA, ?_⟩
    rw [hr]
    have hpos := hok.pos
    have hgl : g < w1.heap.size := by
      obtain ⟨u, hu⟩ : ∃ u, (toksCells l)[0]? = some u := by
        cases l with
        | nil => simp at hpos
        | cons t r => exact ⟨_, rfl⟩
      exact lt_of_cell (hc 0 u hu)
    have hz := hg.size
    refine ⟨rfl, hok, by simp at hlen; omega, w1.heap.size, hz, rfl, by omega, ⟨⟨some ⟨g, 0, none⟩, l.length, Rg.heap_new _ _, Nat.le_refl _, .inr ⟨g, 0, rfl, by simp; omega, (row_of tE hc).keep hA⟩, fun b off q e => by cases e; exact hgl⟩, hok, ⟨m, (hg.trans hA).keep hm⟩, by omega⟩⟩)
  generalize BeginP s w = Q at *
  have HW := words_any s w hs
  unfold WordsPost at HW
  rw [hl] at HW
  clear hl hr hok hlen
  go_enter Try.func13, Try.ntmps13
  go_wp2_with fail
  refine HW.mono ?_
  rintro e w1 ⟨hg, g, hgb, rfl, hc⟩
  have HQ := hid (FI.out w1 g hg hgb hc)
  clear hg FI hs HW hc
  go_wp2
  first
  | exact HQ.out
  | (go_ret3; exact HQ.out)
theorem begin_any (s : ByteArray) (w : World) (hsz : s.size ≤ maxLen) (m : Int) (hm : w.cell? ⟨0, 0, none⟩ = some (.int .i64 m)) : Calls Try.prog 13 #[.string s] w (BeginP s w) := by
  by_cases hs : 4096 < s.size
  · exact begin_long s w hs hsz
  · cases hl : Lx.lexAll s.data.toList with
    | good l => exact begin_good s w (by omega) l hl m hm
    | bad a => exact begin_bad s w (by omega) a hl
end Go.Proofs.Ytaogpifcfmjcbaa
end
section
namespace Go.Proofs.Ytaogpifcfmjcbaa
open Go.RowKit
set_option linter.unusedSimpArgs false
set_option linter.unusedVariables false
attribute [local go_sem] Rg.leads_value Rg.leads_skip Rg.leads_enter Rg.brings_value Rg.brings_skip Rg.brings_enter Rg.bringsG_value Rg.bringsG_enter Rg.once_normal Rg.once_exit Rg.once_ret Rg.once_panic Rg.once_goto Rg.bringsS_value Rg.bringsS_skip Rg.bringsS_enter Rg.still_value Rg.still_skip Rg.still_enter
def Ps.over (s : Ps) : Ps := if s.headK = 5 ∨ s.good = false then s else s.fail 180
def exprT (t : ByteArray) : Ex × Ps := let q := exprS (readS t); (q.1, q.2.over)
def noX : Value := .agg zeroX
def ExprP (t : ByteArray) (w : World) (e : Ending) (w' : World) : Prop := Gr w w' ∧ match (exprT t).2 with
  | .ok _ _ => ∃ r, e = .returned (.tuple #[XR.val r, .int .i64 0, .int .i64 0]) ∧ Ex.At (Nw w) w' (exprT t).1 r
  | .bad x a => x ≠ 0 ∧ e = .returned (.tuple #[noX, .int .i64 x, .int .i64 (a : Int)])
set_option maxHeartbeats 4000000 in
set_option maxRecDepth 100000 in
theorem pexpr_bad (t : ByteArray) (w : World) (x : Int) (a : Nat) (hr : readS t = .bad x a) (HB : Calls Try.prog 13 #[.string t] (w.alloc (.cells zeroX 32)) (BeginP t (w.alloc (.cells zeroX 32)))) : Calls Try.prog 10 #[.string t] w (ExprP t w) := by
  have e2 : (exprT t).2 = .bad x a := by
    unfold exprT
    rw [hr]
    simp only
    rw [kb_exprS]
    rfl
  have HX : x ≠ 0 → Hid (∀ w', Gr w w' → ExprP t w (.returned (.tuple #[noX, .int .i64 x, .int .i64 (a : Int)])) w') := fun hx => hid (fun w' h => ⟨h, by rw [e2]; exact ⟨hx, rfl⟩⟩)
  generalize ExprP t w = Q at *
  unfold BeginP at HB
  rw [hr] at HB
  clear e2 hr
  go_enter Try.func10, Try.ntmps10
  go_wp2_with fail
  refine HB.mono ?_
  rintro e w1 ⟨hg, hx, rfl⟩
  have h01 : w1.heap[w.heap.size]? = some (.cells zeroX 32 (0, 0)) := by rw [hg.block _ (by simp)]; exact alloc_at _ _
  have H01 := hid h01
  have q1 : (x != 0) = true := by simpa using hx
  have hlt : w.heap.size < w1.heap.size := (Array.getElem?_eq_some_iff.1 h01).1
  have HF : Hid (∀ W5, Go1 w.heap.size w1 W5 → Q (.returned (.tuple #[noX, .int .i64 x, .int .i64 (a : Int)])) W5) := hid (fun W5 h5 => (HX hx).out W5 ((((Gr.refl w).alloc _).trans hg).grown h5 (fun g e => by cases e; exact Nat.le_refl _)))
  clear hg HX HB h01
  go_wp2_with (guard_target =~ wpList _ _ _ (Oper.mk _ (Op.store 32 _ _) _ _ _ _ :: _) _ _; refine st_row (ty := 32) rfl rfl w.heap.size _ rfl rfl 32 _ (H01.out) (by kernel_rfl) rfl (by kernel_rfl) ?_; intro W5 hW5 gW5 zW5)
  (try change bodyPost _ _ _ _ _ _)
  have hT := Rg.blk_cells hW5
  refine bodyPost_ret (v := .tuple #[noX, .int .i64 x, .int .i64 (a : Int)]) (by simp [results, Try.results10, go_sem, noX, hT]; try rfl) rfl (HF.out W5 gW5)
theorem tok_head {p : Nat} {w : World} {l : List Lx.Tok} {d e a : Int} (h : PR p w l d e a) : ∃ b off n c tk, 1 ≤ n ∧ n ≤ c ∧ b < w.heap.size ∧ w.cell? ⟨p, 0, none⟩ = some (.slice (some ⟨b, off, none⟩) n c) ∧ w.cell? ⟨p, 2, none⟩ = some (.int .i64 e) ∧ w.cell? ⟨p, 3, none⟩ = some (.int .i64 a) ∧ w.cell? ⟨b, off, none⟩ = some (.int .i64 (tk : Nat)) ∧ ∀ t r, l = t :: r → t.tk.kind = tk := by
  obtain ⟨oa, cap, hh, hc, hat, hne⟩ := h.ex
  have hpos := h.tok.pos
  obtain ⟨b, off, hoa, hb, c0, c1, c2, c3⟩ := t_get hat 0 hpos
  simp only [Nat.zero_mul, Nat.add_zero] at c0
  subst hoa
  refine ⟨b, off, l.length, cap, _, hpos, hc, hb, by rw [Rg.blk_cells hh]; rfl, by rw [Rg.blk_cells hh]; rfl, by rw [Rg.blk_cells hh]; rfl, c0, fun t r e => by subst e; rfl⟩
set_option maxHeartbeats 4000000 in
set_option maxRecDepth 100000 in
theorem pexpr_good (t : ByteArray) (w : World) (l0 : List Lx.Tok) (hr : readS t = .ok l0 0) (hl0 : l0.length ≤ 4097) (l : List Lx.Tok) (d : Nat) (hq : (exprS (readS t)).2 = .ok l d) (h5 : (Ps.ok l d).headK = 5)
    (HB : Calls Try.prog 13 #[.string t] (w.alloc (.cells zeroX 32)) (BeginP t (w.alloc (.cells zeroX 32)))) : Calls Try.prog 10 #[.string t] w (ExprP t w) := by
  have e2 : exprT t = ((exprS (readS t)).1, .ok l d) := by
    unfold exprT
    simp only
    rw [hq]
    unfold Ps.over
    rw [if_pos (.inl h5)]
  have HX : Hid (∀ w' r, Gr w w' → Ex.At (Nw w) w' (exprS (readS t)).1 r → ExprP t w (.returned (.tuple #[XR.val r, .int .i64 0, .int .i64 0])) w') := hid (fun w' r h hx => ⟨h, by rw [e2]; exact ⟨r, rfl, hx⟩⟩)
  generalize ExprP t w = Q at *
  rw [hr] at hq
  have HOR := hid (fun p w' (h : PS p w' (.ok l0 0)) => expr_any p 1000000 (Nat.le_refl _) _ w' h (by show l0.length ≤ _; omega))
  unfold BeginP at HB
  rw [hr] at HB HX
  obtain ⟨q, hq0⟩ : ∃ q, exprS (.ok l0 0) = q := ⟨_, rfl⟩
  rw [hq0] at hq HX HOR
  rw [show q = (q.1, q.2) from rfl, hq] at HOR
  generalize q.1 = x0 at *
  clear e2 hr hq hq0
  go_enter Try.func10, Try.ntmps10
  go_wp2_with fail
  refine HB.mono ?_
  rintro e w1 ⟨hg, _, _, _, p, hpw, rfl, hps⟩
  have hz1 := hps.lt
  simp only [World.size_alloc] at hpw
  go_wp2_with fail
  refine (HOR.out p w1 hps).mono ?_
  rintro e w2 ⟨u, rfl, r, x, rfl, hx, hps2, hg2, hgd⟩
  have hxx : x = x0 := hgd rfl
  subst hxx
  have hz2 := hg2.size
  have hA := (Gr.refl w2).alloc (.cells r.cells 32)
  have hps3 := hps2.keep hA
  obtain ⟨b, off, n, c, tk, hn1, hnc, hbl, p0, p2, p3, b0, htk⟩ := tok_head hps3.2
  have htk5 : tk = 5 := by
    cases l with
    | nil => exact hps3.2.nil.elim
    | cons t0 r0 => rw [← htk t0 r0 rfl]; exact h5
  have q5 : ((tk : Int) != 5) = false := by rw [htk5]; rfl
  have g2 : (0 : Int) < (n : Int) := by omega
  have hp3 : p < w2.heap.size := hps2.lt
  have h02 : w2.heap[w.heap.size]? = some (.cells zeroX 32 (0, 0)) := by
    rw [hg2.get (by omega) (by omega), hg.block _ (by simp)]; exact alloc_at _ _
  have hx3 : Ex.At (fun b => w1.heap.size ≤ b ∧ b < w2.heap.size) (w2.alloc (.cells r.cells 32)) x r := (hx.mono (fun b hl hs => ⟨hs, hl⟩)).of hA.size (fun b _ hl => hA.block b hl)
  have hgw : Gr w (w2.alloc (.cells r.cells 32)) := (Go1.up (((Gr.refl w).alloc _).trans hg) hg2 (by omega)).trans hA
  have HCL := hid (fun S w' (h : Ex.At S w' x r) => clipped_any (Ex.sz x) x (Nat.le_refl _) r S w' h)
  have FI : Hid (∀ w4 W5, Cl (fun b => w1.heap.size ≤ b ∧ b < w2.heap.size) (w2.alloc (.cells r.cells 32)) w4 → Go1 w.heap.size w4 W5 → Q (.returned (.tuple #[XR.val { r with cap := r.n }, .int .i64 0, .int .i64 0])) W5) := hid (fun w4 W5 h4 h5 => by
    have g4 : Gr w w4 := h4.gr hgw (fun b hb => by have := hb.1; omega)
    refine HX.out W5 _ (g4.grown h5 (fun g e => by cases e; exact Nat.le_refl _)) ?_
    have h1 := hx3.cl h4 (r' := { r with cap := r.n }) ⟨rfl, rfl, rfl, Nat.le_refl _⟩
    exact (h1.of h5.size (fun b hb hl => h5.get hl (by have := hb.1; omega))).mono (fun b _ hb => by have := hb.1; show w.heap.size ≤ b; omega))
  have H04 : Hid (∀ w4, Cl (fun b => w1.heap.size ≤ b ∧ b < w2.heap.size) (w2.alloc (.cells r.cells 32)) w4 → w4.heap[w.heap.size]? = some (.cells zeroX 32 (0, 0))) := hid (fun w4 h4 => by
    rw [h4.block _ (by simp; omega) (fun h => by have := h.1; omega), hA.block _ (by omega)]; exact h02)
  have HX3 := hid hx3
  clear hx hps hps2 hps3 hg2 hgd hg hA hgw HX HOR HB h02 hx3 htk htk5 h5
  unfold XR.val
  go_wp2_with fail
  refine (HCL.out _ _ HX3.out).mono ?_
  rintro e w4 ⟨rfl, h4⟩
  have h04 := hid (H04.out w4 h4)
  have HF := hid (fun W5 h5 => FI.out w4 W5 h4 h5)
  clear h4 FI H04 HX3 HCL
  unfold XR.val
  go_wp2_with (guard_target =~ wpList _ _ _ (Oper.mk _ (Op.store 32 _ _) _ _ _ _ :: _) _ _; refine st_row (ty := 32) rfl rfl w.heap.size _ rfl rfl 32 _ (h04.out) (by kernel_rfl) rfl (by kernel_rfl) ?_; intro W5 hW5 gW5 zW5)
  (try change bodyPost _ _ _ _ _ _)
  have hT := Rg.blk_cells hW5
  refine bodyPost_ret (v := .tuple #[XR.val { r with cap := r.n }, .int .i64 0, .int .i64 0]) (by simp [results, Try.results10, go_sem, XR.val, hT]; try rfl) rfl (HF.out W5 gW5)
def ErS (R0 : Nat) (w5 : World) (s : Nat) (v : Nat → Value) (W : World) : Prop := if s = 0 then Gr w5 W else Go1 R0 w5 W ∧ W.heap[R0]? = some (.cells zeroX 32 (0, 0))
theorem ErS.s0 {R0 : Nat} {w5 W : World} {v : Nat → Value} (h : Gr w5 W) : ErS R0 w5 0 v W := by unfold ErS; rw [if_pos rfl]; exact h
theorem ErS.g0 {R0 : Nat} {w5 W : World} {v : Nat → Value} (h : ErS R0 w5 0 v W) : Gr w5 W := by unfold ErS at h; rw [if_pos rfl] at h; exact h
theorem ErS.s1 {R0 : Nat} {w5 W : World} {v : Nat → Value} (h : Go1 R0 w5 W) (hz : W.heap[R0]? = some (.cells zeroX 32 (0, 0))) : ErS R0 w5 1 v W := by unfold ErS; rw [if_neg (by decide)]; exact ⟨h, hz⟩
theorem ErS.g1 {R0 : Nat} {w5 W : World} {v : Nat → Value} (h : ErS R0 w5 1 v W) : Go1 R0 w5 W ∧ W.heap[R0]? = some (.cells zeroX 32 (0, 0)) := by unfold ErS at h; rw [if_neg (by decide)] at h; exact h
theorem ErS.go {R0 s : Nat} {w5 W : World} {v : Nat → Value} (h : ErS R0 w5 s v W) : Go1 R0 w5 W := by
  unfold ErS at h
  split at h
  · exact .of h
  · exact h.1
set_option maxHeartbeats 4000000 in
set_option maxRecDepth 100000 in
theorem pexpr_err (t : ByteArray) (w : World) (l0 : List Lx.Tok) (hr : readS t = .ok l0 0) (hl0 : l0.length ≤ 4097) (x : Int) (a : Nat) (hq : (exprT t).2 = .bad x a)
    (HB : Calls Try.prog 13 #[.string t] (w.alloc (.cells zeroX 32)) (BeginP t (w.alloc (.cells zeroX 32)))) : Calls Try.prog 10 #[.string t] w (ExprP t w) := by
  have HX0 : Hid (x ≠ 0 → ∀ w', Gr w w' → ExprP t w (.returned (.tuple #[noX, .int .i64 x, .int .i64 (a : Int)])) w') := hid (fun hx0 w' h => ⟨h, by rw [hq]; exact ⟨hx0, rfl⟩⟩)
  generalize ExprP t w = Q at *
  have hq2 : (exprS (.ok l0 0)).2.over = .bad x a := by rw [← hr]; exact hq
  have HOR := hid (fun p w' (h : PS p w' (.ok l0 0)) => expr_any p 1000000 (Nat.le_refl _) _ w' h (by show l0.length ≤ _; omega))
  unfold BeginP at HB
  rw [hr] at HB
  generalize exprS (.ok l0 0) = q at *
  clear hr hq
  go_enter Try.func10, Try.ntmps10
  go_wp2_with fail
  refine HB.mono ?_
  rintro e w1 ⟨hg, _, _, _, p, hpw, rfl, hps⟩
  have hz1 := hps.lt
  simp only [World.size_alloc] at hpw
  go_wp2_with fail
  refine (HOR.out p w1 hps).mono ?_
  rintro e w2 ⟨u, rfl, r, y, rfl, hy, hps2, hg2, hgd⟩
  have hx0 : x ≠ 0 := by
    have hq3 := hq2
    unfold Ps.over at hq3
    cases h : q.2 with
    | bad e a =>
      rw [h] at hq3 hps2
      rw [if_pos (.inr rfl)] at hq3
      cases hq3
      exact hps2.1
    | ok l' d' =>
      rw [h] at hq3
      split at hq3
      · cases hq3
      · cases l' <;> (cases hq3; decide)
  have q1 : (x != 0) = true := by simpa using hx0
  have HX := hid (HX0.out hx0)
  clear HX0
  have hz2 := hg2.size
  have hA := (Gr.refl w2).alloc (.cells r.cells 32)
  have hps3 := hps2.keep hA
  have hp3 : p < w2.heap.size := hps2.lt
  have h02 : w2.heap[w.heap.size]? = some (.cells zeroX 32 (0, 0)) := by
    rw [hg2.get (by omega) (by omega), hg.block _ (by simp)]; exact alloc_at _ _
  have hgw : Gr w (w2.alloc (.cells r.cells 32)) := (Go1.up (((Gr.refl w).alloc _).trans hg) hg2 (by omega)).trans hA
  obtain ⟨l, d, e0, a0, hpr⟩ : ∃ l d e a, PR p (w2.alloc (.cells r.cells 32)) l d e a := by
    cases h : q.2 with
    | ok l d => rw [h] at hps3; exact ⟨l, _, _, _, hps3.2⟩
    | bad e a => rw [h] at hps3; obtain ⟨_, l, d, h3⟩ := hps3; exact ⟨l, d, _, _, h3⟩
  obtain ⟨b, off, n, c, tk, hn1, hnc, hbl, p0, p2, p3, b0, htk⟩ := tok_head hpr
  have g2 : (0 : Int) < (n : Int) := by omega
  unfold XR.val
  by_cases hk : tk = 5
  · skip
    have q5 : ((tk : Int) != 5) = false := by rw [hk]; rfl
    have hbad : q.2 = .bad x a := by
      rw [← hq2]
      unfold Ps.over
      cases h : q.2 with
      | bad e a => rw [if_pos (.inr rfl)]
      | ok l' d' =>
        rw [if_pos]
        refine .inl ?_
        rw [h] at hps3
        cases l' with
        | nil => exact hps3.2.nil.elim
        | cons t0 r0 =>
          obtain ⟨b9, off9, n9, c9, tk9, _, _, _, p9, _, _, b90, htk9⟩ := tok_head hps3.2
          rw [p0] at p9
          cases p9
          rw [b0] at b90
          have : tk9 = tk := by have := Option.some.inj b90; cases this; rfl
          show t0.tk.kind = 5
          rw [htk9 t0 r0 rfl, this, hk]
    rw [hbad] at hps3
    obtain ⟨_, l', d', hpr'⟩ := hps3
    obtain ⟨b', off', n', c', tk', hn1', hnc', hbl', p0', p2', p3', b0', htk'⟩ := tok_head hpr'
    have hb0 := b0
    have hp0 := p0
    have h05 : (w2.alloc (.cells r.cells 32)).heap[w.heap.size]? = some (.cells zeroX 32 (0, 0)) := by
      rw [hA.block _ (by omega)]; exact h02
    have hE0 : w2.heap.size < (w2.alloc (.cells r.cells 32)).heap.size := by simp
    have H05 := hid h05
    have HG5 := hid hgw
    have c5 := Rg.blk_cells h05
    have f5 := Rg.blk_free h05
    obtain ⟨w5, hw5⟩ : ∃ w5, w2.alloc (.cells r.cells 32) = w5 := ⟨_, rfl⟩
    have HW := hid hw5
    rw [hw5] at H05 HG5
    clear hpr hpr' hps hps2 hg hg2 hy hgd hA hgw HOR HB h02 htk htk' p2 p3 h05 hw5 p0' b0' hb0 hp0 c5 f5
    have c5 : True := trivial
    have f5 : True := trivial
    go_wp2_with fail
    rw [HW.out]
    rw [HW.out] at p2' p3'
    have HP2 := hid p2'
    have HP3 := hid p3'
    clear p2' p3' c5 f5
    refine Rg.region_chain 11 [9] [] (ErS w.heap.size w5) [some (.agg #[.int .i64 0, .int .i64 0, .int .i64 0, .string ⟨#[]⟩, .bool false, .string ⟨#[]⟩, .string ⟨#[]⟩, .int .i64 0, .int .i64 0, .bool false, .bool false, .slice none 0 0]), some (.pointer (some ⟨p, 0, none⟩)), some (.pointer (some ⟨p, 0, none⟩)), some (.pointer (some ⟨p, 2, none⟩)), some (.int .i64 x), some (.pointer (some ⟨p, 0, none⟩)), some (.pointer (some ⟨p, 0, none⟩)), some (.pointer (some ⟨p, 3, none⟩)), some (.int .i64 (a : Int)), some undef, some (.int .i64 x)]
      (fun v => ErS.s0 ((Gr.refl _).drew)) (by kernel_rfl) (by kernel_rfl) (by kernel_rfl) (by kernel_rfl) (fun _ _ d _ _ h => by cases d <;> exact h) ?_
    intro OPS _ v
    simp only [List.take_succ_cons, List.take_zero, Rg.wpC, Rg.wpS, Option.getD_some, Option.getD_none, Act.put, List.setIfInBounds_toArray, List.set_cons_zero, List.set_cons_succ, show List.contains [9] 0 = false from rfl, show List.contains [9] 1 = false from rfl, show List.contains [9] 2 = false from rfl, show List.contains [9] 3 = false from rfl, show List.contains [9] 4 = false from rfl, show List.contains [9] 5 = false from rfl, show List.contains [9] 6 = false from rfl, show List.contains [9] 7 = false from rfl, show List.contains [9] 8 = false from rfl, show List.contains [9] 9 = true from rfl, show List.contains [9] 10 = false from rfl, Bool.false_eq_true, if_false, if_true, Nat.reduceAdd]
    have hpl : p < w5.heap.size := lt_of_cell HP2.out
    have cP : ∀ s v W, ErS w.heap.size w5 s v W → W.cell? ⟨p, 2, none⟩ = some (.int .i64 x) ∧ W.cell? ⟨p, 3, none⟩ = some (.int .i64 (a : Int)) := fun s v W h => by
      have hg := h.go
      exact ⟨by rw [hg.cell hpl (by omega)]; exact HP2.out, by rw [hg.cell hpl (by omega)]; exact HP3.out⟩
    refine ⟨?_, ?_, ?_, ?_, ?_, ?_, ?_, ?_, ?_, ?_, ?_, ?_⟩
    iterate 9
      · refine sc_still (by rfl) (by rfl) (fun s' W _ hS => ?_)
        obtain ⟨cp2, cp3⟩ := cP _ _ _ hS
        go_simp
    · refine sc_call (by rfl) (by rfl) (fun W hS => ?_)
      have hg := hS.g0
      have hz : W.heap[w.heap.size]? = some (.cells #[.int .i64 0, .int .i64 0, .int .i64 0, .string ⟨#[]⟩, .bool false, .string ⟨#[]⟩, .string ⟨#[]⟩, .int .i64 0, .int .i64 0, .bool false, .bool false, .slice none 0 0] 32 (0, 0)) := (hg.block _ (Array.getElem?_eq_some_iff.1 H05.out).1).trans H05.out
      have HS12 := hid (fun b0 b1 b2 b3 b4 b5 b6 b7 b8 b9 b10 b11 => Go1.set12 w.heap.size W b0 b1 b2 b3 b4 b5 b6 b7 b8 b9 b10 b11)
      have HT12 := hid (fun b0 b1 b2 b3 b4 b5 b6 b7 b8 b9 b10 b11 => set12 hz b0 b1 b2 b3 b4 b5 b6 b7 b8 b9 b10 b11)
      have cz := Rg.blk_cells hz
      have fz := Rg.blk_free hz
      have HG := hid hg
      clear hz hS hg cP
      go_simp
      exact ErS.s1 ((Go1.of HG.out).trans (HS12.out _ _ _ _ _ _ _ _ _ _ _ _)) (HT12.out _ _ _ _ _ _ _ _ _ _ _ _)
    · refine sc_still (by rfl) (by rfl) (fun s' W _ hS => ?_)
      go_simp
    · intro W hS
      obtain ⟨h5, hz5⟩ := hS.g1
      simp only [List.drop_succ_cons, List.drop_zero]
      have HF := hid (HX.out W (HG5.out.grown h5 (fun g e => by cases e; exact Nat.le_refl _)))
      have hT := Rg.blk_cells hz5
      clear hS h5 hz5 cP
      go_wp2
      (try change bodyPost _ _ _ _ _ _)
      refine bodyPost_ret (v := .tuple #[noX, .int .i64 x, .int .i64 (a : Int)]) (by simp [results, Try.results10, go_sem, noX, hT]; try rfl) rfl HF.out
  · have q5 : ((tk : Int) != 5) = true := by simp; omega
    have hover : q.2.fail 180 = .bad x a := by
      rw [← hq2]
      unfold Ps.over
      cases h : q.2 with
      | bad e a => rw [if_pos (.inr rfl)]; rfl
      | ok l' d' =>
        rw [if_neg]
        rintro (h5 | h5)
        · rw [h] at hps3
          cases l' with
          | nil => exact hps3.2.nil
          | cons t0 r0 =>
            obtain ⟨b9, off9, n9, c9, tk9, _, _, _, p9, _, _, b90, htk9⟩ := tok_head hps3.2
            rw [p0] at p9
            cases p9
            rw [b0] at b90
            have e9 : tk9 = tk := by have := Option.some.inj b90; cases this; rfl
            have h5' : t0.tk.kind = 5 := h5
            rw [htk9 t0 r0 rfl, e9] at h5'
            exact hk h5'
        · cases h5
    go_wp2_with fail
    refine (wrong_any p q.2 _ hps3).mono ?_
    rintro e w5 ⟨rfl, hps5, hg5⟩
    rw [hover] at hps5
    obtain ⟨_, l', d', hpr'⟩ := hps5
    obtain ⟨b', off', n', c', tk', hn1', hnc', hbl', p0', p2', p3', b0', htk'⟩ := tok_head hpr'
    have h05 : w5.heap[w.heap.size]? = some (.cells zeroX 32 (0, 0)) := by
      rw [hg5.get (by simp; omega) (by omega), hA.block _ (by omega)]; exact h02
    have hg05 : Gr w w5 := Go1.up hgw hg5 (by omega)
    have c5 := Rg.blk_cells h05
    have f5 := Rg.blk_free h05
    simp only [zeroX] at c5
    have H05 := hid h05
    have HG5 := hid hg05
    clear hpr hpr' hps hps2 hps3 hg hg2 hg5 hy hgd hA hgw HOR HB h02 htk htk' p0 p2 p3 b0 h05 hg05
    go_wp2_with fail
    have HP2 := hid p2'
    have HP3 := hid p3'
    clear p2' p3' c5 f5
    refine Rg.region_chain 11 [9] [] (ErS w.heap.size w5) [some (.agg #[.int .i64 0, .int .i64 0, .int .i64 0, .string ⟨#[]⟩, .bool false, .string ⟨#[]⟩, .string ⟨#[]⟩, .int .i64 0, .int .i64 0, .bool false, .bool false, .slice none 0 0]), some (.pointer (some ⟨p, 0, none⟩)), some (.pointer (some ⟨p, 0, none⟩)), some (.pointer (some ⟨p, 2, none⟩)), some (.int .i64 x), some (.pointer (some ⟨p, 0, none⟩)), some (.pointer (some ⟨p, 0, none⟩)), some (.pointer (some ⟨p, 3, none⟩)), some (.int .i64 (a : Int)), some undef, some (.int .i64 x)]
      (fun v => ErS.s0 ((Gr.refl _).drew)) (by kernel_rfl) (by kernel_rfl) (by kernel_rfl) (by kernel_rfl) (fun _ _ d _ _ h => by cases d <;> exact h) ?_
    intro OPS _ v
    simp only [List.take_succ_cons, List.take_zero, Rg.wpC, Rg.wpS, Option.getD_some, Option.getD_none, Act.put, List.setIfInBounds_toArray, List.set_cons_zero, List.set_cons_succ, show List.contains [9] 0 = false from rfl, show List.contains [9] 1 = false from rfl, show List.contains [9] 2 = false from rfl, show List.contains [9] 3 = false from rfl, show List.contains [9] 4 = false from rfl, show List.contains [9] 5 = false from rfl, show List.contains [9] 6 = false from rfl, show List.contains [9] 7 = false from rfl, show List.contains [9] 8 = false from rfl, show List.contains [9] 9 = true from rfl, show List.contains [9] 10 = false from rfl, Bool.false_eq_true, if_false, if_true, Nat.reduceAdd]
    have hpl : p < w5.heap.size := lt_of_cell HP2.out
    have cP : ∀ s v W, ErS w.heap.size w5 s v W → W.cell? ⟨p, 2, none⟩ = some (.int .i64 x) ∧ W.cell? ⟨p, 3, none⟩ = some (.int .i64 (a : Int)) := fun s v W h => by
      have hg := h.go
      exact ⟨by rw [hg.cell hpl (by omega)]; exact HP2.out, by rw [hg.cell hpl (by omega)]; exact HP3.out⟩
    refine ⟨?_, ?_, ?_, ?_, ?_, ?_, ?_, ?_, ?_, ?_, ?_, ?_⟩
    iterate 9
      · refine sc_still (by rfl) (by rfl) (fun s' W _ hS => ?_)
        obtain ⟨cp2, cp3⟩ := cP _ _ _ hS
        go_simp
    · refine sc_call (by rfl) (by rfl) (fun W hS => ?_)
      have hg := hS.g0
      have hz : W.heap[w.heap.size]? = some (.cells #[.int .i64 0, .int .i64 0, .int .i64 0, .string ⟨#[]⟩, .bool false, .string ⟨#[]⟩, .string ⟨#[]⟩, .int .i64 0, .int .i64 0, .bool false, .bool false, .slice none 0 0] 32 (0, 0)) := (hg.block _ (Array.getElem?_eq_some_iff.1 H05.out).1).trans H05.out
      have HS12 := hid (fun b0 b1 b2 b3 b4 b5 b6 b7 b8 b9 b10 b11 => Go1.set12 w.heap.size W b0 b1 b2 b3 b4 b5 b6 b7 b8 b9 b10 b11)
      have HT12 := hid (fun b0 b1 b2 b3 b4 b5 b6 b7 b8 b9 b10 b11 => set12 hz b0 b1 b2 b3 b4 b5 b6 b7 b8 b9 b10 b11)
      have cz := Rg.blk_cells hz
      have fz := Rg.blk_free hz
      have HG := hid hg
      clear hz hS hg cP
      go_simp
      exact ErS.s1 ((Go1.of HG.out).trans (HS12.out _ _ _ _ _ _ _ _ _ _ _ _)) (HT12.out _ _ _ _ _ _ _ _ _ _ _ _)
    · refine sc_still (by rfl) (by rfl) (fun s' W _ hS => ?_)
      go_simp
    · intro W hS
      obtain ⟨h5, hz5⟩ := hS.g1
      simp only [List.drop_succ_cons, List.drop_zero]
      have HF := hid (HX.out W (HG5.out.grown h5 (fun g e => by cases e; exact Nat.le_refl _)))
      have hT := Rg.blk_cells hz5
      clear hS h5 hz5 cP
      go_wp2
      (try change bodyPost _ _ _ _ _ _)
      refine bodyPost_ret (v := .tuple #[noX, .int .i64 x, .int .i64 (a : Int)]) (by simp [results, Try.results10, go_sem, noX, hT]; try rfl) rfl HF.out
theorem pexpr_any (t : ByteArray) (w : World) (hsz : t.size ≤ maxLen) (m : Int) (hm : w.cell? ⟨0, 0, none⟩ = some (.int .i64 m)) : Calls Try.prog 10 #[.string t] w (ExprP t w) := by
  have HB := begin_any t (w.alloc (.cells zeroX 32)) hsz m (((Gr.refl w).alloc _).keep hm)
  cases hr : readS t with
  | bad x a => exact pexpr_bad t w x a hr HB
  | ok l0 d0 =>
    have hd : d0 = 0 ∧ l0.length ≤ 4097 := by
      unfold readS at hr
      split at hr
      · cases hr
      · split at hr
        · rename_i hl
          cases hr
          have := lexN_len _ _ _ _ _ hl
          refine ⟨rfl, ?_⟩
          simp at this
          omega
        · cases hr
    obtain ⟨rfl, hl0⟩ := hd
    cases hq : (exprT t).2 with
    | bad x a =>
      exact pexpr_err t w l0 hr hl0 x a hq HB
    | ok l d =>
      have hq' : (exprS (readS t)).2.over = .ok l d := hq
      have h5 : (exprS (readS t)).2 = .ok l d ∧ (Ps.ok l d).headK = 5 := by
        unfold Ps.over at hq'
        split at hq'
        · rename_i h
          refine ⟨hq', ?_⟩
          rw [hq'] at h
          rcases h with h | h
          · exact h
          · cases h
        · cases hs : (exprS (readS t)).2 with
          | ok l' d' => rw [hs] at hq'; cases l' <;> cases hq'
          | bad e a => rw [hs] at hq'; cases hq'
      exact pexpr_good t w l0 hr hl0 l d h5.1 h5.2 HB
end Go.Proofs.Ytaogpifcfmjcbaa
end

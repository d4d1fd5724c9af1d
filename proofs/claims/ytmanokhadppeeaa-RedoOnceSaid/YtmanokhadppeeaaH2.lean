/- redo: history, the walk. -/
import Derived.Test.YtmanokhadppeeaaH1
import Derived.Test.YtmanokhadppeeaaPs
import Derived.Test.YtmanokhadppeeaaW4
import Derived.Deep.CutBlock
import Derived.Test.YtmanokhadppeeaaH3
namespace Go.Proofs.Ytmanokhadppeeaa
open Go.RowKit
set_option linter.unusedSimpArgs false
set_option linter.unusedVariables false
attribute [local go_sem] Rg.leads_value Rg.leads_skip Rg.leads_enter Rg.brings_value Rg.brings_skip Rg.brings_enter Rg.bringsG_value Rg.bringsG_enter
attribute [local go_sem] Rg.bringsU_value Rg.bringsU_skip Rg.bringsGU_value Rg.bringsGU_skip
def HRel (w : World) (steps : List Sp) (R : Hs) (s3 s7 : Value) (wr : World) : Prop := ∃ (k : Nat) (zs : List Az) (h : Hs), s7 = .int .i64 (k : Int) ∧ k ≤ steps.length ∧ k ≤ 60 ∧ HM w s3 zs h h.log.length wr ∧ h.log.length ≤ k ∧ histF k h ((steps.take 60).drop k) = R
def HistP (w : World) (R : Hs) (e : Ending) (w' : World) : Prop := ∃ v zs, e = .returned v ∧ zs.map Az.c = R.log ∧ zs.length ≤ 60 ∧ w'.ownsRow w.heap.size 34 12 v zs.length (cellsF zF zs) ∧ (∀ z ∈ zs, BOk w' z.ob z.c.bs ∧ BOk w' z.oa z.c.es) ∧ Gr w w'
theorem n_info : (Try.prog.info? 34).map (fun i => (i.zero, i.size, i.bytes)) = some (some (.agg #[.int .i64 0, .int .i64 0, .int .i64 0, .int .i64 0, .int .i64 0, .int .i64 0, .int .i64 0, .slice none 0 0, .slice none 0 0, .slice none 0 0, .slice none 0 0, .int .i64 0]), 12, 160) := by kernel_rfl
theorem recR_lsn (k : Nat) (h : Hs) (x : Sp) : (recR k h x).1.lsn = 10 * ((h.log.length : Int) + 1) := by
  unfold recR
  dsimp only
  split
  · rfl
  · split
    · rfl
    · split
      · split <;> rfl
      · rfl
/-- behind an update's record -/
def H12 (base : Nat) (wc : World) (rB : Nat) (T : Nat) (la : Int) (k : Nat) (pp qq : Int) (wx : World) : Prop := ∃ g0 g1, wx.ownsRow base 32 11 (vG rB) 1 [.int .i64 2, .int .i64 (T : Int), .int .i64 la, .int .i64 0, .int .i64 pp, .int .i64 qq, .slice (some ⟨g0, 0, none⟩) 1 1, .slice (some ⟨g1, 0, none⟩) 1 1, .slice none 0 0, .slice none 0 0, .int .i64 0] ∧ BOk wx (some ⟨g0, 0, none⟩) [(k : Int)] ∧ BOk wx (some ⟨g1, 0, none⟩) [(k : Int) + 1] ∧ Gz (vG rB) wc wx
theorem su_det {U : World → World → Prop} {P : Program} {ops : Array Oper} {W : World} {F : List Nat} {Ds : List (Nat × List Nat)} {Gs : List (Nat × (Value → World → Prop))} {fr : Nat → Bool} {v : Nat → Value} {c : Value} {i : Nat} {o : Oper} {a : Act}
    (hF : F.contains i = false) (hw : Region.wanted o (yielded ops a.tmps) = true) (h : ∀ w, U W w → Rg.facts Gs v w (Rg.Dat Ds i) → Rg.BringsU U P w c ((execOp a.eval o).run P w)) : Rg.StepU U P ops W F Ds Gs fr v (some c) i o a := by
  unfold Rg.StepU
  simp only [hF, Bool.false_eq_true, if_false]
  exact Or.inl ⟨hw, h⟩
theorem su_free {U : World → World → Prop} {P : Program} {ops : Array Oper} {W : World} {F : List Nat} {Ds : List (Nat × List Nat)} {Gs : List (Nat × (Value → World → Prop))} {fr : Nat → Bool} {v : Nat → Value} {i : Nat} {o : Oper} {a : Act}
    (hF : F.contains i = false) (hw : Region.wanted o (yielded ops a.tmps) = true) (h : ∀ w, U W w → Rg.facts Gs v w (Rg.Dat Ds i) → Rg.BringsGU U P w (Rg.Gat Gs i) (fr i) ((execOp a.eval o).run P w)) : Rg.StepU U P ops W F Ds Gs fr v none i o a := ⟨hF, hw, h⟩
/-- behind the switch -/
def HCut (w : World) (v3 : Value) (zs : List Az) (h : Hs) (rB : Nat) (k : Nat) (x : Sp) (wx : World) : Prop := ∃ z : Az, z.c = (recR k h x).1 ∧ HM w v3 zs ⟨h.log, h.last, (recR k h x).2.1, (recR k h x).2.2⟩ (h.log.length + 1) wx ∧ wx.ownsRow w.heap.size 32 11 (.slice (some ⟨rB, 0, none⟩) 1 1) 1 (rF z.ln) ∧ BOk wx z.ob z.c.bs ∧ BOk wx z.oa z.c.es
set_option maxHeartbeats 4000000 in
set_option maxRecDepth 100000 in
theorem hist_any (os : Option Addr) (cs : Nat) (steps : List Sp) (w : World) (hl : steps.length ≤ 9223372036854775807) (hS : StAt w os steps) :
    Calls Try.prog 7 #[.slice os steps.length cs] w (HistP w (histF 0 h0 (steps.take 60))) := by
  obtain ⟨R, hR⟩ : ∃ R, histF 0 h0 (steps.take 60) = R := ⟨_, rfl⟩
  rw [hR]
  have HR : Hid (histF 0 h0 ((steps.take 60).drop 0) = R) := hid hR
  have HS := hid hS
  clear hR hS
  go_enter Try.func7, Try.ntmps7
  go_upto_region 5 with (fail)
  have H0 := HM.init w
  obtain ⟨W, hW⟩ : ∃ W, W = (((w.alloc (.cells #[.int .i64 0, .int .i64 0, .int .i64 0, .int .i64 0, .int .i64 0] 56)).alloc (.cells #[.bool false, .bool false, .bool false, .bool false, .bool false] 57)).alloc (.cells #[.slice none 0 0, .slice none 0 0, .slice none 0 0, .slice none 0 0, .slice none 0 0] 58)) := ⟨_, rfl⟩
  rw [← hW] at H0 ⊢
  clear hW
  have S0 : Hid (HRel w steps R (.slice none 0 0) (.int .i64 0) W) := hid ⟨0, [], h0, rfl, Nat.zero_le _, by omega, H0, Nat.le_refl _, HR.out⟩
  clear H0 HR
  go_wp2_with fail
  go_loopw [3, 7] (fun s3 s7 wr => HRel w steps R s3 s7 wr) (fun _ s7 _ => steps.length - (intOf s7).toNat)
  case atStart => exact S0.out
  case round =>
    clear S0
    obtain ⟨k, zs, h, rfl, hk, hk60, hM, hlk, hR⟩ := hrel
    have HMM := hid hM
    have HR := hid hR
    clear hM hR
    have hend : Hid ((k = steps.length ∨ k = 60) → h = R) := hid (fun he => by
      have hd : (steps.take 60).drop k = [] := List.drop_eq_nil_of_le (by rw [List.length_take]; omega)
      have := HR.out
      rw [hd] at this
      exact this)
    have hfin : Hid ((k = steps.length ∨ k = 60) → ∀ w', Gr wr w' → HistP w R (.returned u3) w') := hid (fun he w' hg => by
      have hM := HMM.out.gr hg
      have hlen : zs.length = h.log.length := by rw [← hM.log, List.length_map]
      rw [← hend.out he]
      exact ⟨u3, zs, rfl, hM.log, by omega, hM.row, hM.ok, hM.up⟩)
    by_cases hlt : k < steps.length
    · have g1 : decide ((steps.length : Int) ≤ (k : Int)) = false := by rw [decide_eq_false_iff_not]; omega
      have g2 : (k : Int) < (steps.length : Int) := by omega
      have g3 : (0 : Int) ≤ (k : Int) := by omega
      by_cases h60 : k < 60
      · have g4 : decide ((60 : Int) ≤ (k : Int)) = false := by rw [decide_eq_false_iff_not]; omega
        have g5 : decide ((k : Int) < 60) = true := by rw [decide_eq_true_iff]; omega
        clear hend hfin
        obtain ⟨b, off, rfl, c0, c1, c2, c3⟩ := st_get (HS.out.keep HMM.out.up) k hlt
        have hbb := lt_of_cell c0
        have hst : Hid (histF (k + 1) (stepH k h steps[k]) ((steps.take 60).drop (k + 1)) = R) := hid (by
          have hh : k < (steps.take 60).length := by rw [List.length_take]; omega
          rw [← HR.out, List.drop_eq_getElem_cons hh, List.getElem_take]
          rfl)
        clear HR
        generalize steps[k] = x at *
        go_upto_region 9 with (fail)
        obtain ⟨W1, hW1⟩ : ∃ W1, W1 = wr.alloc (.cells #[.int .i64 x.kind, .int .i64 x.txn, .int .i64 x.page, .int .i64 x.off] 60) := ⟨_, rfl⟩
        have s0 : W1.cell? ⟨wr.heap.size, 0, none⟩ = some (.int .i64 x.kind) := by rw [hW1]; go_simp
        have s1 : W1.cell? ⟨wr.heap.size, 1, none⟩ = some (.int .i64 x.txn) := by rw [hW1]; go_simp
        have s2 : W1.cell? ⟨wr.heap.size, 2, none⟩ = some (.int .i64 x.page) := by rw [hW1]; go_simp
        have s3 : W1.cell? ⟨wr.heap.size, 3, none⟩ = some (.int .i64 x.off) := by rw [hW1]; go_simp
        have TS : Ty 60 W1 wr.heap.size := by rw [hW1]; exact Ty.new _ _ _
        have gW1 : Gr wr W1 := by rw [hW1]; exact (Gr.refl _).alloc _
        rw [← hW1]
        have HMM := hid (HMM.out.gr gW1)
        clear hW1 c0 c1 c2 c3 hbb gW1
        generalize wr.heap.size = sB at *
        have zsz := lt_of_cell s0
        obtain ⟨T, hT⟩ : ∃ T, tOf x.txn = T := ⟨_, rfl⟩
        have HT := hid hT
        have hTb : 1 ≤ T ∧ T ≤ 4 := by rw [← hT]; exact tOf_bd _
        have hTe : Hid (pOf x.txn + 1 = T) := hid hT
        clear hT
        go_cut [9] from 28 to 31 (fun s9 wx => s9 = .int .i64 (T : Int) ∧ wx = W1)
        case first =>
          have ht := and_t x.txn
          have hp := hTe.out
          generalize pOf x.txn = p at *
          go_wp2
          go_meet
          exact ⟨by go_num, rfl⟩
        case rest =>
          obtain ⟨rfl, hw⟩ := hcut
          subst hw
          obtain ⟨o3, c3, e3, hat3, hn3⟩ := own_at0 zE HMM.out.row
          subst e3
          have hN : zs.length = h.log.length := by rw [← HMM.out.log, List.length_map]
          obtain ⟨cl, fl⟩ := HMM.out.lastAt T (by omega)
          obtain ⟨cd, fd⟩ := HMM.out.doneAt T (by omega)
          have zl := lt_of_cell cl
          have zd := lt_of_cell cd
          obtain ⟨la, hla⟩ : ∃ q, h.last T = q := ⟨_, rfl⟩
          obtain ⟨db, hdb⟩ : ∃ q, h.done T = q := ⟨_, rfl⟩
          rw [hla] at cl
          rw [hdb] at cd
          have HLA := hid hla
          have HDB := hid hdb
          have HNN := hid hN
          have hN60 : zs.length < 60 := by omega
          clear hla hdb hN hat3 hn3
          have i1 : (0 : Int) ≤ (T : Int) := by omega
          have i2 : (T : Int) < 5 := by omega
          go_upto_block 2 with (fail)
          obtain ⟨W2, hW2⟩ : ∃ W2, W2 = wc.alloc (.cells #[.int .i64 0, .int .i64 (T : Int), .int .i64 la, .int .i64 0, .int .i64 0, .int .i64 0, .slice none 0 0, .slice none 0 0, .slice none 0 0, .slice none 0 0, .int .i64 0] 32) := ⟨_, rfl⟩
          have gW2 : Gr wc W2 := by rw [hW2]; exact (Gr.refl _).alloc _
          have hwb := HMM.out.up.size
          have RW : Hid (W2.ownsRow w.heap.size 32 11 (.slice (some ⟨wc.heap.size, 0, none⟩) 1 1) 1 [.int .i64 0, .int .i64 (T : Int), .int .i64 la, .int .i64 0, .int .i64 0, .int .i64 0, .slice none 0 0, .slice none 0 0, .slice none 0 0, .slice none 0 0, .int .i64 0]) := hid (by
            rw [hW2]
            exact World.ownsRow_lit (base := w.heap.size) (e := 32) (size := 11) wc _ 1 hwb (by decide) rfl)
          rw [← hW2]
          have HMM := hid (HMM.out.gr gW2)
          have s0 := gW2.keep s0
          have s1 := gW2.keep s1
          have s2 := gW2.keep s2
          have s3 := gW2.keep s3
          have cl := gW2.keep cl
          have cd := gW2.keep cd
          have fl := gW2.keepF zl fl
          have fd := gW2.keepF zd fd
          have zl := lt_of_cell cl
          have zd := lt_of_cell cd
          have zsz := lt_of_cell s0
          have TS := TS.gr gW2
          clear hW2 gW2 hwb
          generalize wc.heap.size = rB at *
          have nr1 : ¬ sB = rB := fun e => TS.ne RW.out (by decide) (by rw [e]; rfl)
          have nr2 : ¬ w.heap.size = rB := fun e => by
            rcases own_apart HMM.out.last RW.out (by decide) with h | h
            · cases h
            · exact h (by rw [e]; rfl)
          have nr3 : ¬ w.heap.size + 1 = rB := fun e => by
            rcases own_apart HMM.out.done RW.out (by decide) with h | h
            · cases h
            · exact h (by rw [e]; rfl)
          have nr4 : ¬ w.heap.size + 1 + 1 = rB := fun e => by
            obtain ⟨vs, h1, -⟩ := HMM.out.todo
            rcases own_apart h1 RW.out (by decide) with h | h
            · cases h
            · exact h (by rw [e]; rfl)
          have nr5 : ¬ rB = sB := fun e => nr1 e.symm
          have nr6 : ¬ rB = w.heap.size := fun e => nr2 e.symm
          have nr7 : ¬ rB = w.heap.size + 1 := fun e => nr3 e.symm
          have nr8 : ¬ rB = w.heap.size + 1 + 1 := fun e => nr4 e.symm
          have r0 : W2.cell? ⟨rB, 0, none⟩ = some (.int .i64 0) := by rw [RW.out.cellAt 0 (by omega)]; rfl
          have f0 := RW.out.frozenAt 0
          have zr := lt_of_cell r0
          cases db
          rotate_left
          · have FI : Hid (HRel w steps R (.slice o3 zs.length c3) (.int .i64 ((k : Int) + 1)) W2) := hid ⟨k + 1, zs, h, by go_num, by omega, by omega, HMM.out, by omega, by
              rw [← hst.out]
              unfold stepH
              rw [HT.out, HDB.out, if_pos rfl]⟩
            clear hst HMM RW
            go_wp2
            exact ⟨FI.out, by simp [intOf]; omega⟩
          · go_cut [12] from 41 to 134 (fun s12 wx => HCut w (.slice o3 zs.length c3) zs h rB k x wx)
            case first =>
              by_cases hla : la = 0
              · have gl : (la == 0) = true := by simpa using hla
                have HREC : Hid (recR k h x = (⟨10 * ((h.log.length : Int) + 1), 1, (T : Int), la, 0, 0, 0, [], []⟩, h.done, h.todo)) := hid (by
                  unfold recR
                  dsimp only
                  rw [HT.out, HLA.out, if_pos hla])
                obtain ⟨S1, G1⟩ := RW.out.stored 0 (.int .i64 1)
                have G1 : Gz (.slice (some ⟨rB, 0, none⟩) 1 1) W2 _ := G1
                have FI : Hid (HCut w (.slice o3 zs.length c3) zs h rB k x (W2.setCell ⟨rB, 0, none⟩ (.int .i64 1))) := hid (by
                  unfold HCut
                  rw [HREC.out]
                  exact ⟨⟨_, none, 0, none, 0⟩, rfl, (HMM.out.gz G1 RW.out (Nat.le_refl _) (by decide)).nbUp (by omega), S1, ⟨.inl rfl, fun _ _ _ e => by cases e⟩, ⟨.inl rfl, fun _ _ _ e => by cases e⟩⟩)
                clear HREC HMM RW S1 G1 hst hla
                go_wp2
                go_meet
                exact FI.out
              · have gl : (la == 0) = false := by simpa using hla
                by_cases h2 : x.kind = 2
                · have g2 : (x.kind == 2) = true := by simpa using h2
                  have HREC : Hid (recR k h x = (⟨10 * ((h.log.length : Int) + 1), 4, (T : Int), la, 0, 0, 0, [], []⟩, up5 h.done T true, h.todo)) := hid (by
                    unfold recR
                    dsimp only
                    rw [HT.out, HLA.out, if_neg hla, if_pos h2])
                  obtain ⟨S1, G1⟩ := RW.out.stored 0 (.int .i64 4)
                  have G1 : Gz (.slice (some ⟨rB, 0, none⟩) 1 1) W2 _ := G1
                  have M1 := HMM.out.gz G1 RW.out (Nat.le_refl _) (by decide)
                  have M2 := M1.setDone T (by omega) true
                  have S2 := S1.kept (M1.done.stored T (.bool true)).2 (own_apart S1 M1.done (by decide))
                  have FI : Hid (HCut w (.slice o3 zs.length c3) zs h rB k x ((W2.setCell ⟨rB, 0, none⟩ (.int .i64 4)).setCell ⟨w.heap.size + 1, T, none⟩ (.bool true))) := hid (by
                    unfold HCut
                    rw [HREC.out]
                    exact ⟨⟨_, none, 0, none, 0⟩, rfl, M2.nbUp (by simp), S2, ⟨.inl rfl, fun _ _ _ e => by cases e⟩, ⟨.inl rfl, fun _ _ _ e => by cases e⟩⟩)
                  clear HREC HMM RW S1 G1 M1 M2 S2 hst hla h2
                  go_wp2
                  go_meet
                  exact FI.out
                · have g2 : (x.kind == 2) = false := by simpa using h2
                  obtain ⟨tv, ct, ft, htv⟩ := HMM.out.todoAt T (by omega)
                  obtain ⟨ot, ctc, rfl, hat, hcap, hbas⟩ := own_at iE htv
                  have zt := lt_of_cell ct
                  have hTL : Hid (∀ v ∈ h.todo T, 0 ≤ v ∧ v < (h.log.length : Int)) := hid (HMM.out.inb T)
                  obtain ⟨td, htd⟩ : ∃ q, h.todo T = q := ⟨_, rfl⟩
                  have htl := HMM.out.tlen T
                  rw [htd] at ct htv hat hTL hcap htl
                  have HTD := hid htd
                  have HTV := hid htv
                  have HAT := hid hat
                  clear htd htv hat
                  by_cases h3 : x.kind = 3 ∧ 0 < td.length
                  · obtain ⟨h3a, h3b⟩ := h3
                    have e3 : (x.kind == 3) = true := by simpa using h3a
                    have e4 : decide ((0 : Int) < (td.length : Int)) = true := by rw [decide_eq_true_iff]; omega
                    obtain ⟨g3, cap3, e3', hg3b, hg3l, hcap3⟩ := own_form HTV.out h3b
                    cases e3'
                    have hcapm : ctc ≤ 9223372036854775807 := by
                      rcases HTV.out.2 with ⟨h, _⟩ | ⟨_, _, _, h, _, _, _, h2, _⟩
                      · cases h
                      · cases h; exact h2
                    obtain ⟨m, hm⟩ : ∃ m, td.length = m + 1 := ⟨td.length - 1, by omega⟩
                    have hmlt : m < td.length := by omega
                    obtain ⟨j, hj⟩ : ∃ j : Nat, td[m] = (j : Int) := ⟨td[m].toNat, by have := (hTL.out _ (List.getElem_mem hmlt)).1; omega⟩
                    have hjl : j < zs.length := by
                      have := (hTL.out _ (List.getElem_mem hmlt)).2
                      rw [hj, ← HNN.out] at this
                      omega
                    have ck : W2.cell? ⟨g3, m, none⟩ = some (.int .i64 (j : Int)) := by
                      rw [HTV.out.cellAt m (by omega)]
                      have := iE.cells_get td m hmlt 0 (by omega)
                      simp only [Nat.mul_one, Nat.add_zero] at this
                      rw [this, hj]; rfl
                    have hl63 : td.length < 100 := by omega
                    have hlast : Hid (td.getLastD 0 = (j : Int)) := hid (by
                      rw [← hj]
                      have hne : td ≠ [] := by intro e; rw [e] at hmlt; simp at hmlt
                      rw [List.getLastD_eq_getLast?, List.getLast?_eq_getElem?, hm]
                      simp [hmlt])
                    obtain ⟨y, hy⟩ : ∃ y, zs[j] = y := ⟨_, rfl⟩
                    have HY := hid hy
                    have hlogj : Hid (h.log[j]? = some y.c) := hid (by rw [← HMM.out.log, List.getElem?_map, List.getElem?_eq_getElem hjl, hy]; rfl)
                    have HREC : Hid (recR k h x = (⟨10 * ((h.log.length : Int) + 1), 3, (T : Int), la, y.c.prev, y.c.page, y.c.off, [], y.c.bs⟩, h.done, up5 h.todo T td.dropLast)) := hid (by
                      unfold recR
                      dsimp only
                      rw [HT.out, HLA.out, if_neg hla, if_neg h2, HTD.out, if_pos ⟨h3a, h3b⟩, hlast.out, Int.toNat_natCast, hlogj.out])
                    have HBY := hid (HMM.out.ok y (by rw [← hy]; exact List.getElem_mem hjl))
                    have HLN := HMM.out.lines
                    obtain ⟨b4, o4, rfl, y0, y1, y2, y3, y4, y5, y6, y7, y8, y9, y10, y11⟩ := n_get HLN j (by simpa using hjl)
                    simp only [List.getElem_map, hy] at y0 y1 y2 y3 y4 y5 y6 y7 y8 y9 y10 y11
                    have z4 := lt_of_cell y0
                    have zk := lt_of_cell ck
                    have i3 : (0 : Int) ≤ (m : Int) := by omega
                    have i4 : (m : Int) < (m : Int) + 1 := by omega
                    have i5 : IntKind.i64.wrap (m : Int) = (m : Int) := i64w (by omega) (by omega)
                    have i6 : (0 : Int) ≤ (j : Int) := by omega
                    have i7 : (j : Int) < (zs.length : Int) := by omega
                    have i8 : decide ((zs.length : Int) ≤ (j : Int)) = false := by rw [decide_eq_false_iff_not]; omega
                    have HGY : Hid (∀ g', (Value.slice (some ⟨rB, 0, none⟩) 1 1).ownBlock = some g' → True) := hid (fun _ _ => trivial)
                    rw [hm] at ct e4
                    clear h3a h3b hj hlast hlogj HLN hTL hy HY
                    go_upto_region 21 with (fail)
                    refine Rg.region_text 10 (Below.drew (Below.refl _ _)) (by kernel_rfl) (by kernel_rfl) (fun _ _ d _ _ h => by cases d <;> exact h) ?_
                    simp only [List.append_eq, List.cons_append, List.nil_append, List.take_succ_cons, List.take_zero, List.drop_succ_cons, List.drop_zero]
                    repeat (first
                        | (refine Rg.wpDets_skip (by rfl) ?_; simp only [Act.put, List.setIfInBounds_toArray, List.set_cons_zero, List.set_cons_succ])
                        | (refine Rg.wpDets_step ?_ (by rfl) (fun w hS => ?_) ?_
                           rotate_left
                           · have hc := Gr.cells hS
                             have hf := Gr.frees hS
                             go_simp
                             first
                             | (refine ⟨?_, Below.refl _ _⟩; with_reducible rfl)
                           simp only [Act.put, List.setIfInBounds_toArray, List.set_cons_zero, List.set_cons_succ]))
                    refine Rg.wpDets_nil ?_
                    refine Rg.wpFlts_nil ?_
                    refine Rg.wpLays_nil ?_
                    intro w1 hK
                    have hg : Gr _ w1 := hK.up
                    have hc := Gr.cells hg
                    have hf := Gr.frees hg
                    have hz := Gr.size hg
                    try simp only [World.size_alloc, World.size_setCell, World.size_drew] at hz
                    try have : 0 < w1.heap.size := by omega
                    try have : w.heap.size < w1.heap.size := by omega
                    try have : w.heap.size + 1 < w1.heap.size := by omega
                    try have : w.heap.size + 1 + 1 < w1.heap.size := by omega
                    try have : w.heap.size + 1 + 1 + 1 < w1.heap.size := by omega
                    have RW := hid (own_keep RW.out hg)
                    have HMM := hid (HMM.out.gr hg)
                    have HTV := hid (own_keep HTV.out hg)
                    have HBY := hid (And.intro (HBY.out.1.gr hg) (HBY.out.2.gr hg))
                    have ct := hg.keep ct
                    have y0 := hg.keep y0
                    have y1 := hg.keep y1
                    have y2 := hg.keep y2
                    have y3 := hg.keep y3
                    have y4 := hg.keep y4
                    have y5 := hg.keep y5
                    have y6 := hg.keep y6
                    have y7 := hg.keep y7
                    have y8 := hg.keep y8
                    have y9 := hg.keep y9
                    have y10 := hg.keep y10
                    have y11 := hg.keep y11
                    have r0 := hg.keep r0
                    have zr := lt_of_cell r0
                    have z4 := lt_of_cell y0
                    have zt := lt_of_cell ct
                    clear hg ck cl fl cd fd ft s0 s1 s2 s3 TS zl zd zsz zk f0 HAT
                    go_upto_region 23 with (fail)
                    obtain ⟨W4, hW4⟩ : ∃ W4, W4 = w1.alloc (.cells #[.int .i64 y.ln.kind, .int .i64 y.ln.txn, .int .i64 y.ln.prev, .int .i64 y.ln.next, .int .i64 y.ln.page, .int .i64 y.ln.off, .slice y.ln.ob y.ln.bs.length y.ln.cb, .slice y.ln.oa y.ln.es.length y.ln.ca, .slice y.ln.ot y.ln.ts.length y.ln.ct, .slice y.ln.od y.ln.ds.length y.ln.cd, .int .i64 y.ln.cnt] 32) := ⟨_, rfl⟩
                    have hg4 : Gr w1 W4 := by rw [hW4]; exact (Gr.refl _).alloc _
                    have v2 : W4.cell? ⟨w1.heap.size, 2, none⟩ = some (.int .i64 y.c.prev) := by rw [hW4, Rg.blk_cells (heap_alloc_new _ _) 2]; rfl
                    have v4 : W4.cell? ⟨w1.heap.size, 4, none⟩ = some (.int .i64 y.c.page) := by rw [hW4, Rg.blk_cells (heap_alloc_new _ _) 4]; rfl
                    have v5 : W4.cell? ⟨w1.heap.size, 5, none⟩ = some (.int .i64 y.c.off) := by rw [hW4, Rg.blk_cells (heap_alloc_new _ _) 5]; rfl
                    have v6 : W4.cell? ⟨w1.heap.size, 6, none⟩ = some (.slice y.ob y.c.bs.length y.cb) := by rw [hW4, Rg.blk_cells (heap_alloc_new _ _) 6]; rfl
                    rw [← hW4]
                    have nu : ¬ w1.heap.size = rB := by omega
                    have nu2 : ¬ rB = w1.heap.size := by omega
                    have RW := hid (own_keep RW.out hg4)
                    have HMM := hid (HMM.out.gr hg4)
                    have HTV := hid (own_keep HTV.out hg4)
                    have HBY := hid (And.intro (HBY.out.1.gr hg4) (HBY.out.2.gr hg4))
                    have ct := hg4.keep ct
                    have zt := lt_of_cell ct
                    have zu := lt_of_cell v2
                    have hzr := hg4.size
                    clear hW4 hg4 y0 y1 y2 y3 y4 y5 y6 y7 y8 y9 y10 y11 z4 r0
                    generalize w1.heap.size = uB at *
                    go_cut [12] from 111 to 123 (fun s12 wx => wx.ownsRow w.heap.size 32 11 (vG rB) 1 [.int .i64 3, .int .i64 (T : Int), .int .i64 la, .int .i64 y.c.prev, .int .i64 y.c.page, .int .i64 y.c.off, .slice none 0 0, .slice y.ob y.c.bs.length y.cb, .slice none 0 0, .slice none 0 0, .int .i64 0] ∧ Gz (vG rB) W4 wx)
                    case first =>
                      refine Rg.region_rel2 (U := MvU w.heap.size 32 11 rB (FinC (.int .i64 3) (.int .i64 y.c.page) (.int .i64 y.c.off) (.slice y.ob y.c.bs.length y.cb))) (W := W4) 17 [] [] [(9, CellG w.heap.size 32 11 rB (FinC (.int .i64 3) (.int .i64 y.c.page) (.int .i64 y.c.off) (.slice y.ob y.c.bs.length y.cb)) 0), (11, CellG w.heap.size 32 11 rB (FinC (.int .i64 3) (.int .i64 y.c.page) (.int .i64 y.c.off) (.slice y.ob y.c.bs.length y.cb)) 4), (13, CellG w.heap.size 32 11 rB (FinC (.int .i64 3) (.int .i64 y.c.page) (.int .i64 y.c.off) (.slice y.ob y.c.bs.length y.cb)) 5), (15, CellG w.heap.size 32 11 rB (FinC (.int .i64 3) (.int .i64 y.c.page) (.int .i64 y.c.off) (.slice y.ob y.c.bs.length y.cb)) 7)] (fun _ => false) [9, 11, 13, 15] [some ?_, some ?_, some ?_, some ?_, some ?_, some ?_, some ?_, some ?_, some ?_, none, some ?_, none, some ?_, none, some ?_, none, some ?_]
                        (MvU.of_gr (Below.drew (Below.refl _ _)) ⟨_, RW.out⟩) MvU.refl (MvU.trans (finC_ok _ _ _ _ _ _)) MvU.size (by kernel_rfl) (by kernel_rfl) ⟨rfl, rfl, rfl, rfl, trivial⟩ cr_keep (fun _ _ d _ _ h => by cases d <;> exact h) ?_
                      rotate_left 13
                      intro OPS hOPS vq
                      clear hOPS
                      simp only [List.take_succ_cons, List.take_zero, Rg.wpU, Option.getD_some, Option.getD_none, Act.put, List.setIfInBounds_toArray, List.set_cons_zero, List.set_cons_succ]
                      refine ⟨?_, ?_, ?_, ?_, ?_, ?_, ?_, ?_, ?_, ?_, ?_, ?_, ?_, ?_, ?_, ?_, ?_, ?_⟩
                      · refine su_det (by rfl) (by rfl) (fun w' hS hF => ?_)
                        have v2 := hS.cell v2 nu
                        have v4 := hS.cell v4 nu
                        have v5 := hS.cell v5 nu
                        have v6 := hS.cell v6 nu
                        go_simp
                        first
                          | exact MvU.refl _
                          | (refine ⟨?_, MvU.refl _⟩; with_reducible rfl)
                      · refine su_det (by rfl) (by rfl) (fun w' hS hF => ?_)
                        have v2 := hS.cell v2 nu
                        have v4 := hS.cell v4 nu
                        have v5 := hS.cell v5 nu
                        have v6 := hS.cell v6 nu
                        go_simp
                        first
                          | exact MvU.refl _
                          | (refine ⟨?_, MvU.refl _⟩; with_reducible rfl)
                      · refine su_det (by rfl) (by rfl) (fun w' hS hF => ?_)
                        have v2 := hS.cell v2 nu
                        have v4 := hS.cell v4 nu
                        have v5 := hS.cell v5 nu
                        have v6 := hS.cell v6 nu
                        go_simp
                        first
                          | exact MvU.refl _
                          | (refine ⟨?_, MvU.refl _⟩; with_reducible rfl)
                      · refine su_det (by rfl) (by rfl) (fun w' hS hF => ?_)
                        have v2 := hS.cell v2 nu
                        have v4 := hS.cell v4 nu
                        have v5 := hS.cell v5 nu
                        have v6 := hS.cell v6 nu
                        go_simp
                        first
                          | exact MvU.refl _
                          | (refine ⟨?_, MvU.refl _⟩; with_reducible rfl)
                      · refine su_det (by rfl) (by rfl) (fun w' hS hF => ?_)
                        have v2 := hS.cell v2 nu
                        have v4 := hS.cell v4 nu
                        have v5 := hS.cell v5 nu
                        have v6 := hS.cell v6 nu
                        go_simp
                        first
                          | exact MvU.refl _
                          | (refine ⟨?_, MvU.refl _⟩; with_reducible rfl)
                      · refine su_det (by rfl) (by rfl) (fun w' hS hF => ?_)
                        have v2 := hS.cell v2 nu
                        have v4 := hS.cell v4 nu
                        have v5 := hS.cell v5 nu
                        have v6 := hS.cell v6 nu
                        go_simp
                        first
                          | exact MvU.refl _
                          | (refine ⟨?_, MvU.refl _⟩; with_reducible rfl)
                      · refine su_det (by rfl) (by rfl) (fun w' hS hF => ?_)
                        have v2 := hS.cell v2 nu
                        have v4 := hS.cell v4 nu
                        have v5 := hS.cell v5 nu
                        have v6 := hS.cell v6 nu
                        go_simp
                        first
                          | exact MvU.refl _
                          | (refine ⟨?_, MvU.refl _⟩; with_reducible rfl)
                      · refine su_det (by rfl) (by rfl) (fun w' hS hF => ?_)
                        have v2 := hS.cell v2 nu
                        have v4 := hS.cell v4 nu
                        have v5 := hS.cell v5 nu
                        have v6 := hS.cell v6 nu
                        go_simp
                        first
                          | exact MvU.refl _
                          | (refine ⟨?_, MvU.refl _⟩; with_reducible rfl)
                      · refine su_det (by rfl) (by rfl) (fun w' hS hF => ?_)
                        have v2 := hS.cell v2 nu
                        have v4 := hS.cell v4 nu
                        have v5 := hS.cell v5 nu
                        have v6 := hS.cell v6 nu
                        go_simp
                        first
                          | exact MvU.refl _
                          | (refine ⟨?_, MvU.refl _⟩; with_reducible rfl)
                      · refine su_free (by rfl) (by rfl) (fun w' hS hF => ?_)
                        obtain ⟨ys, hy⟩ := hS.own ⟨_, RW.out⟩
                        obtain ⟨uo, hcu⟩ := Option.isSome_iff_exists.1 (own_room hy 0 (by omega)).1
                        have hfz := hy.frozenAt 0
                        go_simp
                        exact ⟨CellG.store (u' := undef) ⟨ys, hy⟩ (by omega) rfl, MvU.store ⟨ys, hy⟩ (by omega) rfl⟩
                      · refine su_det (by rfl) (by rfl) (fun w' hS hF => ?_)
                        have v2 := hS.cell v2 nu
                        have v4 := hS.cell v4 nu
                        have v5 := hS.cell v5 nu
                        have v6 := hS.cell v6 nu
                        go_simp
                        first
                          | exact MvU.refl _
                          | (refine ⟨?_, MvU.refl _⟩; with_reducible rfl)
                      · refine su_free (by rfl) (by rfl) (fun w' hS hF => ?_)
                        obtain ⟨ys, hy⟩ := hS.own ⟨_, RW.out⟩
                        obtain ⟨uo, hcu⟩ := Option.isSome_iff_exists.1 (own_room hy 4 (by omega)).1
                        have hfz := hy.frozenAt 4
                        go_simp
                        exact ⟨CellG.store (u' := undef) ⟨ys, hy⟩ (by omega) rfl, MvU.store ⟨ys, hy⟩ (by omega) rfl⟩
                      · refine su_det (by rfl) (by rfl) (fun w' hS hF => ?_)
                        have v2 := hS.cell v2 nu
                        have v4 := hS.cell v4 nu
                        have v5 := hS.cell v5 nu
                        have v6 := hS.cell v6 nu
                        go_simp
                        first
                          | exact MvU.refl _
                          | (refine ⟨?_, MvU.refl _⟩; with_reducible rfl)
                      · refine su_free (by rfl) (by rfl) (fun w' hS hF => ?_)
                        obtain ⟨ys, hy⟩ := hS.own ⟨_, RW.out⟩
                        obtain ⟨uo, hcu⟩ := Option.isSome_iff_exists.1 (own_room hy 5 (by omega)).1
                        have hfz := hy.frozenAt 5
                        go_simp
                        exact ⟨CellG.store (u' := undef) ⟨ys, hy⟩ (by omega) rfl, MvU.store ⟨ys, hy⟩ (by omega) rfl⟩
                      · refine su_det (by rfl) (by rfl) (fun w' hS hF => ?_)
                        have v2 := hS.cell v2 nu
                        have v4 := hS.cell v4 nu
                        have v5 := hS.cell v5 nu
                        have v6 := hS.cell v6 nu
                        go_simp
                        first
                          | exact MvU.refl _
                          | (refine ⟨?_, MvU.refl _⟩; with_reducible rfl)
                      · refine su_free (by rfl) (by rfl) (fun w' hS hF => ?_)
                        obtain ⟨ys, hy⟩ := hS.own ⟨_, RW.out⟩
                        obtain ⟨uo, hcu⟩ := Option.isSome_iff_exists.1 (own_room hy 7 (by omega)).1
                        have hfz := hy.frozenAt 7
                        go_simp
                        exact ⟨CellG.store (u' := undef) ⟨ys, hy⟩ (by omega) rfl, MvU.store ⟨ys, hy⟩ (by omega) rfl⟩
                      · refine su_det (by rfl) (by rfl) (fun w' hS hF => ?_)
                        have v2 := hS.cell v2 nu
                        have v4 := hS.cell v4 nu
                        have v5 := hS.cell v5 nu
                        have v6 := hS.cell v6 nu
                        go_simp
                        first
                          | exact MvU.refl _
                          | (refine ⟨?_, MvU.refl _⟩; with_reducible rfl)
                      intro w3 hK
                      have hup : MvU w.heap.size 32 11 rB (FinC (.int .i64 3) (.int .i64 y.c.page) (.int .i64 y.c.off) (.slice y.ob y.c.bs.length y.cb)) W4 w3 := hK.up
                      have q0 : CellG w.heap.size 32 11 rB (FinC (.int .i64 3) (.int .i64 y.c.page) (.int .i64 y.c.off) (.slice y.ob y.c.bs.length y.cb)) 0 undef w3 := hK.fact 9 (by decide) rfl rfl
                      have q4 : CellG w.heap.size 32 11 rB (FinC (.int .i64 3) (.int .i64 y.c.page) (.int .i64 y.c.off) (.slice y.ob y.c.bs.length y.cb)) 4 undef w3 := hK.fact 11 (by decide) rfl rfl
                      have q5 : CellG w.heap.size 32 11 rB (FinC (.int .i64 3) (.int .i64 y.c.page) (.int .i64 y.c.off) (.slice y.ob y.c.bs.length y.cb)) 5 undef w3 := hK.fact 13 (by decide) rfl rfl
                      have q7 : CellG w.heap.size 32 11 rB (FinC (.int .i64 3) (.int .i64 y.c.page) (.int .i64 y.c.off) (.slice y.ob y.c.bs.length y.cb)) 7 undef w3 := hK.fact 15 (by decide) rfl rfl
                      have hrow := finC_row hup RW.out q0 q4 q5 q7
                      obtain ⟨S7, G7⟩ := hrow.stored 3 (.int .i64 y.c.prev)
                      have G7 : Gz (vG rB) w3 _ := G7
                      have FI := hid (And.intro S7 (hup.gz.trans G7))
                      obtain ⟨uo, hcu⟩ := Option.isSome_iff_exists.1 (own_room hrow 3 (by omega)).1
                      have hfz := hrow.frozenAt 3
                      clear hK q0 q4 q5 q7 S7 G7 hup hrow vq
                      simp only [List.drop_succ_cons, List.drop_zero]
                      go_wp2
                      go_meet
                      exact FI.out
                    case rest =>
                      obtain ⟨S12, G12⟩ := hcut
                      have M3 := HMM.out.gz G12 RW.out (Nat.le_refl _) (by decide)
                      have V3 := HTV.out.kept G12 (own_apart HTV.out RW.out (by decide))
                      have BY := HBY.out.1.gz G12 RW.out (by decide)
                      have ct := G12.cell ct (fun g' hg' e => nr8 (by cases hg'; exact e))
                      obtain ⟨_, _, ft, _⟩ := M3.todoAt T (by omega)
                      have zt := lt_of_cell ct
                      have HM3 := hid M3
                      have HV3 := hid V3
                      have HS12 := hid S12
                      have HBY := hid BY
                      clear M3 V3 S12 BY G12 RW HMM HTV v2 v4 v5 v6
                      have hcw : HM3.out = HM3.out := rfl
                      have i9 : (m : Int) ≤ (ctc : Int) := by omega
                      have i10 : m ≤ ctc := by omega
                      clear hcw
                      go_upto_region 24 with (fail)
                      refine Rg.region_text 11 (Below.drew (Below.refl _ _)) (by kernel_rfl) (by kernel_rfl) (fun _ _ d _ _ h => by cases d <;> exact h) ?_
                      simp only [List.append_eq, List.cons_append, List.nil_append, List.take_succ_cons, List.take_zero, List.drop_succ_cons, List.drop_zero]
                      repeat (first
                          | (refine Rg.wpDets_skip (by rfl) ?_; simp only [Act.put, List.setIfInBounds_toArray, List.set_cons_zero, List.set_cons_succ])
                          | (refine Rg.wpDets_step ?_ (by rfl) (fun w hS => ?_) ?_
                             rotate_left
                             · have hc := Gr.cells hS
                               have hf := Gr.frees hS
                               go_simp
                               first
                               | (refine ⟨?_, Below.refl _ _⟩; with_reducible rfl)
                             simp only [Act.put, List.setIfInBounds_toArray, List.set_cons_zero, List.set_cons_succ]))
                      refine Rg.wpDets_nil ?_
                      refine Rg.wpFlts_nil ?_
                      refine Rg.wpLays_nil ?_
                      intro w5 hK
                      have hg : Gr _ w5 := hK.up
                      have hc := Gr.cells hg
                      have hf := Gr.frees hg
                      have hz := Gr.size hg
                      try simp only [World.size_alloc, World.size_setCell, World.size_drew] at hz
                      try have : 0 < w5.heap.size := by omega
                      try have : w.heap.size < w5.heap.size := by omega
                      try have : w.heap.size + 1 < w5.heap.size := by omega
                      try have : w.heap.size + 1 + 1 < w5.heap.size := by omega
                      try have : w.heap.size + 1 + 1 + 1 < w5.heap.size := by omega
                      try have : w1.heap.size < w5.heap.size := by omega
                      try have : w1.heap.size + 1 < w5.heap.size := by omega
                      try have : w2.heap.size < w5.heap.size := by omega
                      try have : w2.heap.size + 1 < w5.heap.size := by omega
                      try have : w3.heap.size < w5.heap.size := by omega
                      try have : w3.heap.size + 1 < w5.heap.size := by omega
                      try have : w4.heap.size < w5.heap.size := by omega
                      try have : w4.heap.size + 1 < w5.heap.size := by omega
                      have ct := hg.keep ct
                      have ft := hg.keepF zt ft
                      have zt := lt_of_cell ct
                      have M5 := HM3.out.gr hg
                      have S5 := own_keep HS12.out hg
                      have B5 := HBY.out.gr hg
                      obtain ⟨vs, k58, _⟩ := M5.todo
                      have G8 := (k58.stored T (.slice (some ⟨g3, 0, none⟩) m ctc)).2
                      have R8 := S5.kept G8 (own_apart S5 k58 (by decide))
                      have C0 := B5.gz (v := .slice (some ⟨w.heap.size + 1 + 1, 0, none⟩) 5 5) G8 k58 (by decide)
                      have M8 := M5.pop T (by omega) (g := g3) (cap := ctc) (by rw [HTD.out, hm]; exact ct) (by rw [HTD.out]; omega)
                      rw [HTD.out, hm, Nat.add_sub_cancel] at M8
                      have FI : Hid (HCut w (.slice (some ⟨b4, o4, none⟩) zs.length c3) zs h rB k x (w5.setCell ⟨w.heap.size + 1 + 1, T, none⟩ (.slice (some ⟨g3, 0, none⟩) m ctc))) := hid (by
                        unfold HCut
                        rw [HREC.out]
                        exact ⟨⟨_, none, 0, y.ob, y.cb⟩, rfl, M8.nbUp (by omega), R8, ⟨.inl rfl, fun _ _ _ e => by cases e⟩, C0⟩)
                      clear M5 S5 B5 k58 G8 R8 C0 M8 HREC HM3 HS12 HBY HV3 hg
                      go_wp2
                      go_meet
                      exact FI.out
                  · have HREC : Hid (recR k h x = (⟨10 * ((h.log.length : Int) + 1), 2, (T : Int), la, 0, pOf x.page, oOf x.off, [(k : Int)], [(k : Int) + 1]⟩, h.done, up5 h.todo T (td ++ [(zs.length : Int)]))) := hid (by
                      unfold recR
                      dsimp only
                      rw [HT.out, HLA.out, if_neg hla, if_neg h2, HTD.out, if_neg h3, HNN.out])
                    go_upto_region 20 with (fail)
                    go_cut [85] from 85 to 95 (fun s85 wx => s85 = .bool false ∧ wx = W2)
                    case first =>
                      by_cases q3 : x.kind = 3
                      · have e3 : (x.kind == 3) = true := by simpa using q3
                        have e0 : td.length = 0 := by omega
                        rw [e0] at ct
                        clear HREC h3 q3
                        go_wp2
                        go_meet
                        exact ⟨rfl, rfl⟩
                      · have e3 : (x.kind == 3) = false := by simpa using q3
                        clear HREC h3 q3
                        go_wp2
                        go_meet
                        exact ⟨rfl, rfl⟩
                    case rest =>
                      obtain ⟨rfl, hw⟩ := hcut
                      subst hw
                      go_upto_region 12 with (fail)
                      have r4 : wc.cell? ⟨rB, 4, none⟩ = some (.int .i64 0) := by rw [RW.out.cellAt 4 (by omega)]; rfl
                      have r5 : wc.cell? ⟨rB, 5, none⟩ = some (.int .i64 0) := by rw [RW.out.cellAt 5 (by omega)]; rfl
                      have r6 : wc.cell? ⟨rB, 6, none⟩ = some (.slice none 0 0) := by rw [RW.out.cellAt 6 (by omega)]; rfl
                      have r7 : wc.cell? ⟨rB, 7, none⟩ = some (.slice none 0 0) := by rw [RW.out.cellAt 7 (by omega)]; rfl
                      have f4 := RW.out.frozenAt 4
                      have f5 := RW.out.frozenAt 5
                      have f6 := RW.out.frozenAt 6
                      have f7 := RW.out.frozenAt 7
                      have hp := and_t x.page
                      have ho := and_o x.off
                      have k8 : IntKind.u8.wrap (k : Int) = (k : Int) := by rw [IntKind.wrap_u8]; omega
                      have k9 : IntKind.u8.wrap ((k : Int) + 1) = (k : Int) + 1 := by rw [IntKind.wrap_u8]; omega
                      have k10 : IntKind.i64.wrap ((k : Int) + 1) = (k : Int) + 1 := i64w (by omega) (by omega)
                      obtain ⟨pp, hpp⟩ : ∃ q, (pOf x.page : Int) = q := ⟨_, rfl⟩
                      obtain ⟨qq, hqq⟩ : ∃ q, (oOf x.off : Int) = q := ⟨_, rfl⟩
                      rw [hpp] at hp HREC
                      rw [hqq] at ho HREC
                      go_cut [12] from 41 to 58 (fun s12 wx => H12 w.heap.size wc rB T la k pp qq wx)
                      case first =>
                        try clear HREC
                        try clear hst
                        try clear HMM
                        skip
                        try clear HTV
                        try clear HAT
                        try clear hTL
                        try clear HS
                        try clear HT
                        try clear HLA
                        try clear HDB
                        try clear HNN
                        try clear HTD
                        try clear ct
                        try clear ft
                        try clear cl
                        try clear cd
                        try clear fl
                        try clear fd
                        try clear zt
                        try clear zl
                        try clear zd
                        try clear hcap
                        try clear hbas
                        try clear s0
                        try clear s1
                        try clear TS
                        try clear hTe
                        try clear hTb
                        try clear hlk
                        try clear hk
                        try clear hlt
                        try clear g1
                        try clear g2
                        try clear hla
                        try clear h2
                        try clear h3
                        try clear hpp
                        try clear hqq
                        try clear hN60
                        try clear nr2
                        try clear nr3
                        try clear nr4
                        try clear nr6
                        try clear nr7
                        try clear nr8
                        try clear hl
                        refine Rg.region_rel2 (U := MvU w.heap.size 32 11 rB (FinU k pp qq)) (W := wc) 22 [] [(20, [8])] [(8, SoG w.heap.size 32 11 rB 5 1 [.int .u8 (k : Int)]), (12, SoG w.heap.size 32 11 rB 5 1 [.int .u8 ((k : Int) + 1)]), (14, CellG w.heap.size 32 11 rB (FinU k pp qq) 0), (16, CellG w.heap.size 32 11 rB (FinU k pp qq) 4), (18, CellG w.heap.size 32 11 rB (FinU k pp qq) 5), (20, CellG w.heap.size 32 11 rB (FinU k pp qq) 6)] (fun _ => false) [8, 12, 14, 16, 18, 20] [some ?_, some ?_, some ?_, some ?_, some ?_, some ?_, some ?_, some ?_, none, some ?_, some ?_, some ?_, none, some ?_, none, some ?_, none, some ?_, none, some ?_, none, some ?_]
                          (MvU.of_gr (Below.drew (Below.refl _ _)) ⟨_, RW.out⟩) MvU.refl (MvU.trans (finU_ok _ _ _ _ _)) MvU.size (by kernel_rfl) (by kernel_rfl) ⟨rfl, rfl, rfl, rfl, rfl, rfl, trivial⟩ (ur_keep _ _) (fun _ _ d _ _ h => by cases d <;> exact h) ?_
                        rotate_left 16
                        intro OPS hOPS vq
                        clear hOPS
                        simp only [List.take_succ_cons, List.take_zero, Rg.wpU, Option.getD_some, Option.getD_none, Act.put, List.setIfInBounds_toArray, List.set_cons_zero, List.set_cons_succ]
                        refine ⟨?_, ?_, ?_, ?_, ?_, ?_, ?_, ?_, ?_, ?_, ?_, ?_, ?_, ?_, ?_, ?_, ?_, ?_, ?_, ?_, ?_, ?_, ?_⟩
                        · refine su_det (by rfl) (by rfl) (fun w' hS hF => ?_)
                          have s2 := hS.cell s2 nr1
                          have s3 := hS.cell s3 nr1
                          go_simp
                          first
                            | exact MvU.refl _
                            | (refine ⟨?_, MvU.refl _⟩; with_reducible rfl)
                        · refine su_det (by rfl) (by rfl) (fun w' hS hF => ?_)
                          have s2 := hS.cell s2 nr1
                          have s3 := hS.cell s3 nr1
                          go_simp
                          first
                            | exact MvU.refl _
                            | (refine ⟨?_, MvU.refl _⟩; with_reducible rfl)
                        · refine su_det (by rfl) (by rfl) (fun w' hS hF => ?_)
                          have s2 := hS.cell s2 nr1
                          have s3 := hS.cell s3 nr1
                          go_simp
                          first
                            | exact MvU.refl _
                            | (refine ⟨?_, MvU.refl _⟩; with_reducible rfl)
                        · refine su_det (by rfl) (by rfl) (fun w' hS hF => ?_)
                          have s2 := hS.cell s2 nr1
                          have s3 := hS.cell s3 nr1
                          go_simp
                          first
                            | exact MvU.refl _
                            | (refine ⟨?_, MvU.refl _⟩; with_reducible rfl)
                        · refine su_det (by rfl) (by rfl) (fun w' hS hF => ?_)
                          have s2 := hS.cell s2 nr1
                          have s3 := hS.cell s3 nr1
                          go_simp
                          first
                            | exact MvU.refl _
                            | (refine ⟨?_, MvU.refl _⟩; with_reducible rfl)
                        · refine su_det (by rfl) (by rfl) (fun w' hS hF => ?_)
                          have s2 := hS.cell s2 nr1
                          have s3 := hS.cell s3 nr1
                          go_simp
                          first
                            | exact MvU.refl _
                            | (refine ⟨?_, MvU.refl _⟩; with_reducible rfl)
                        · refine su_det (by rfl) (by rfl) (fun w' hS hF => ?_)
                          have s2 := hS.cell s2 nr1
                          have s3 := hS.cell s3 nr1
                          go_simp
                          first
                            | exact MvU.refl _
                            | (refine ⟨?_, MvU.refl _⟩; with_reducible rfl)
                        · refine su_det (by rfl) (by rfl) (fun w' hS hF => ?_)
                          have s2 := hS.cell s2 nr1
                          have s3 := hS.cell s3 nr1
                          go_simp
                          first
                            | exact MvU.refl _
                            | (refine ⟨?_, MvU.refl _⟩; with_reducible rfl)
                        · refine su_free (by rfl) (by rfl) (fun w' hS hF => ?_)
                          have ho := hS.own ⟨_, RW.out⟩
                          go_simp
                          exact ⟨⟨MvU.own (MvU.of_gr (Fin := FinU k pp qq) ((Gr.refl _).alloc _) ho) ho, (st_new _ _ _ _ _ rfl).1⟩, MvU.of_gr ((Gr.refl _).alloc _) ho⟩
                        · refine su_det (by rfl) (by rfl) (fun w' hS hF => ?_)
                          have s2 := hS.cell s2 nr1
                          have s3 := hS.cell s3 nr1
                          go_simp
                          first
                            | exact MvU.refl _
                            | (refine ⟨?_, MvU.refl _⟩; with_reducible rfl)
                        · refine su_det (by rfl) (by rfl) (fun w' hS hF => ?_)
                          have s2 := hS.cell s2 nr1
                          have s3 := hS.cell s3 nr1
                          go_simp
                          first
                            | exact MvU.refl _
                            | (refine ⟨?_, MvU.refl _⟩; with_reducible rfl)
                        · refine su_det (by rfl) (by rfl) (fun w' hS hF => ?_)
                          have s2 := hS.cell s2 nr1
                          have s3 := hS.cell s3 nr1
                          go_simp
                          first
                            | exact MvU.refl _
                            | (refine ⟨?_, MvU.refl _⟩; with_reducible rfl)
                        · refine su_free (by rfl) (by rfl) (fun w' hS hF => ?_)
                          have ho := hS.own ⟨_, RW.out⟩
                          go_simp
                          exact ⟨⟨MvU.own (MvU.of_gr (Fin := FinU k pp qq) ((Gr.refl _).alloc _) ho) ho, (st_new _ _ _ _ _ rfl).1⟩, MvU.of_gr ((Gr.refl _).alloc _) ho⟩
                        · refine su_det (by rfl) (by rfl) (fun w' hS hF => ?_)
                          have s2 := hS.cell s2 nr1
                          have s3 := hS.cell s3 nr1
                          go_simp
                          first
                            | exact MvU.refl _
                            | (refine ⟨?_, MvU.refl _⟩; with_reducible rfl)
                        · refine su_free (by rfl) (by rfl) (fun w' hS hF => ?_)
                          obtain ⟨ys, hy⟩ := hS.own ⟨_, RW.out⟩
                          obtain ⟨uo, hcu⟩ := Option.isSome_iff_exists.1 (own_room hy 0 (by omega)).1
                          have hfz := hy.frozenAt 0
                          go_simp
                          exact ⟨CellG.store (u' := undef) ⟨ys, hy⟩ (by omega) rfl, MvU.store ⟨ys, hy⟩ (by omega) rfl⟩
                        · refine su_det (by rfl) (by rfl) (fun w' hS hF => ?_)
                          have s2 := hS.cell s2 nr1
                          have s3 := hS.cell s3 nr1
                          go_simp
                          first
                            | exact MvU.refl _
                            | (refine ⟨?_, MvU.refl _⟩; with_reducible rfl)
                        · refine su_free (by rfl) (by rfl) (fun w' hS hF => ?_)
                          obtain ⟨ys, hy⟩ := hS.own ⟨_, RW.out⟩
                          obtain ⟨uo, hcu⟩ := Option.isSome_iff_exists.1 (own_room hy 4 (by omega)).1
                          have hfz := hy.frozenAt 4
                          go_simp
                          exact ⟨CellG.store (u' := undef) ⟨ys, hy⟩ (by omega) rfl, MvU.store ⟨ys, hy⟩ (by omega) rfl⟩
                        · refine su_det (by rfl) (by rfl) (fun w' hS hF => ?_)
                          have s2 := hS.cell s2 nr1
                          have s3 := hS.cell s3 nr1
                          go_simp
                          first
                            | exact MvU.refl _
                            | (refine ⟨?_, MvU.refl _⟩; with_reducible rfl)
                        · refine su_free (by rfl) (by rfl) (fun w' hS hF => ?_)
                          obtain ⟨ys, hy⟩ := hS.own ⟨_, RW.out⟩
                          obtain ⟨uo, hcu⟩ := Option.isSome_iff_exists.1 (own_room hy 5 (by omega)).1
                          have hfz := hy.frozenAt 5
                          go_simp
                          exact ⟨CellG.store (u' := undef) ⟨ys, hy⟩ (by omega) rfl, MvU.store ⟨ys, hy⟩ (by omega) rfl⟩
                        · refine su_det (by rfl) (by rfl) (fun w' hS hF => ?_)
                          have s2 := hS.cell s2 nr1
                          have s3 := hS.cell s3 nr1
                          go_simp
                          first
                            | exact MvU.refl _
                            | (refine ⟨?_, MvU.refl _⟩; with_reducible rfl)
                        · refine su_free (by rfl) (by rfl) (fun w' hS hF => ?_)
                          obtain ⟨ys, hy⟩ := hS.own ⟨_, RW.out⟩
                          obtain ⟨uo, hcu⟩ := Option.isSome_iff_exists.1 (own_room hy 6 (by omega)).1
                          have hfz := hy.frozenAt 6
                          have h8 : SoG w.heap.size 32 11 rB 5 1 [.int .u8 (k : Int)] (vq 8) w' := hF.1
                          obtain ⟨_, gb, hvb, tyb, hcb⟩ := h8
                          clear hF
                          generalize vq 8 = v8 at *
                          subst hvb
                          have hB := (byte_ok (hcb 0 _ rfl) tyb).gz (v := vG rB) (hy.stored 6 (.slice (some ⟨gb, 0, none⟩) 1 1)).2 hy (by decide)
                          have hfin : FinU k pp qq 6 (.slice (some ⟨gb, 0, none⟩) 1 1) (w'.setCell ⟨rB, 6, none⟩ (.slice (some ⟨gb, 0, none⟩) 1 1)) := ⟨gb, rfl, hB⟩
                          go_simp
                          exact ⟨CellG.store (u' := undef) ⟨ys, hy⟩ (by omega) hfin, MvU.store ⟨ys, hy⟩ (by omega) hfin⟩
                        · refine su_det (by rfl) (by rfl) (fun w' hS hF => ?_)
                          have s2 := hS.cell s2 nr1
                          have s3 := hS.cell s3 nr1
                          go_simp
                          first
                            | exact MvU.refl _
                            | (refine ⟨?_, MvU.refl _⟩; with_reducible rfl)
                        intro w3 hK
                        have hup : MvU w.heap.size 32 11 rB (FinU k pp qq) wc w3 := hK.up
                        have q0 : CellG w.heap.size 32 11 rB (FinU k pp qq) 0 undef w3 := hK.fact 14 (by decide) rfl rfl
                        have q4 : CellG w.heap.size 32 11 rB (FinU k pp qq) 4 undef w3 := hK.fact 16 (by decide) rfl rfl
                        have q5 : CellG w.heap.size 32 11 rB (FinU k pp qq) 5 undef w3 := hK.fact 18 (by decide) rfl rfl
                        have q6 : CellG w.heap.size 32 11 rB (FinU k pp qq) 6 undef w3 := hK.fact 20 (by decide) rfl rfl
                        have q12 : SoG w.heap.size 32 11 rB 5 1 [.int .u8 ((k : Int) + 1)] (vq 12) w3 := hK.fact 12 (by decide) rfl rfl
                        obtain ⟨g0, y7, hrow, hB0⟩ := finU_row hup RW.out q0 q4 q5 q6
                        obtain ⟨_, g1, hv12, ty1, hcb1⟩ := q12
                        have hB1 := byte_ok (hcb1 0 _ rfl) ty1
                        obtain ⟨S7, G7⟩ := hrow.stored 7 (.slice (some ⟨g1, 0, none⟩) 1 1)
                        have G7 : Gz (vG rB) w3 _ := G7
                        have FI : Hid (H12 w.heap.size wc rB T la k pp qq (w3.setCell ⟨rB, 7, none⟩ (.slice (some ⟨g1, 0, none⟩) 1 1))) := hid ⟨g0, g1, S7, hB0.gz G7 hrow (by decide), hB1.gz G7 hrow (by decide), hup.gz.trans G7⟩
                        obtain ⟨uo, hcu⟩ := Option.isSome_iff_exists.1 (own_room hrow 7 (by omega)).1
                        have hfz := hrow.frozenAt 7
                        clear hK q0 q4 q5 q6 hB0 hB1 S7 G7 hup hrow ty1 hcb1
                        generalize vq 12 = v12 at *
                        subst hv12
                        generalize vq 8 = v8 at *
                        clear vq
                        simp only [List.drop_succ_cons, List.drop_zero]
                        go_wp2
                        go_meet
                        exact FI.out
                      case rest =>
                        obtain ⟨g0, g1, S12, B0, B1, G12⟩ := hcut
                        have M3 := HMM.out.gz G12 RW.out (Nat.le_refl _) (by decide)
                        have V3 := HTV.out.kept G12 (own_apart HTV.out RW.out (by decide))
                        have ct := G12.cell ct (fun g' hg' e => nr8 (by cases hg'; exact e))
                        obtain ⟨_, _, ft, _⟩ := M3.todoAt T (by omega)
                        have zt := lt_of_cell ct
                        have HM3 := hid M3
                        have HV3 := hid V3
                        have HS12 := hid S12
                        have HB0 := hid B0
                        have HB1 := hid B1
                        clear M3 V3 S12 B0 B1 G12 RW HMM HTV HAT s0 s1 s2 s3 cl fl cd fd zl zd zsz TS r0 f0 zr r4 r5 r6 r7 f4 f5 f6 f7 hp ho k8 k9 k10
                        obtain ⟨i1, hj0, hy0, hy1, hy2⟩ := info_parts i_info
                        have hwb := HM3.out.up.size
                        have hl63 : td.length < 100 := by omega
                        go_wp2_with (at_builtin; refine wpList_append_lies _ rfl _ _ 38 rfl w.heap.size 3 i1 (.int .i64 0) 1 8 Try.underlying38 hj0 hy0 hy1 hy2 rfl (by decide) _ _ _ rfl (HV3.out.alloc _) ⟨wc.heap.size, 0, none⟩ 1 1 (iF (zs.length : Int)) rfl rfl ?nc1 ?nc2 (by decide) ?nc3 ?nc4 ?nc5 (wc.heap.size + 1) (by simp) ?_)
                        case nc1 =>
                          intro q u hu
                          first
                          | (rw [addN, Nat.zero_add, Rg.blk_cells (heap_alloc_new _ _) q]; simpa [iF] using hu)
                          | simpa [iF] using hu
                        case nc2 => exact iE.one _
                        case nc3 => unfold maxLen; omega
                        case nc4 => omega
                        case nc5 => first | omega | (simp; omega)
                        intro g cap w7 hown hg7 hat hlt
                        have HN := HNN.out
                        have ga : Gr wc (wc.alloc (.cells #[.int .i64 (zs.length : Int)] 3)) := (Gr.refl _).alloc _
                        have ct2 := ga.keep ct
                        have MA := HM3.out.gr ga
                        have VA := own_keep HV3.out ga
                        have M7 := MA.putTodo T (by omega) (n := (zs.length : Int)) ct2 (by rw [HTD.out]; exact hown) hg7 (by
                          rcases hat with h' | h'
                          · exact .inl h'.symm
                          · exact .inr ⟨g, rfl, by rw [h']; simp⟩) (by omega)
                        obtain ⟨ct3, ft3⟩ := MA.todoKeep T (by omega) ct2 hg7
                        obtain ⟨vs, k58, _⟩ := MA.todo
                        have k58 := k58.kept hg7 (own_apart k58 VA (by decide))
                        have G8 := (k58.stored T (.slice (some ⟨g, 0, none⟩) (td.length + 1) cap)).2
                        have RA := own_keep HS12.out ga
                        have R7 := RA.kept hg7 (own_apart RA VA (by decide))
                        have R8 := R7.kept G8 (own_apart R7 k58 (by decide))
                        have C0 := ((HB0.out.gr ga).gz hg7 VA (by decide)).gz (v := .slice (some ⟨w.heap.size + 1 + 1, 0, none⟩) 5 5) G8 k58 (by decide)
                        have C1 := ((HB1.out.gr ga).gz hg7 VA (by decide)).gz (v := .slice (some ⟨w.heap.size + 1 + 1, 0, none⟩) 5 5) G8 k58 (by decide)
                        have FI : Hid (HCut w (.slice o3 zs.length c3) zs h rB k x (w7.setCell ⟨w.heap.size + 1 + 1, T, none⟩ (.slice (some ⟨g, 0, none⟩) (td.length + 1) cap))) := hid (by
                          unfold HCut
                          rw [HREC.out]
                          rw [HTD.out] at M7
                          exact ⟨⟨_, some ⟨g0, 0, none⟩, 1, some ⟨g1, 0, none⟩, 1⟩, rfl, M7, R8, C0, C1⟩)
                        clear M7 R8 C0 C1 G8 R7 RA k58 VA MA HREC HM3 HV3 HS12 HB0 HB1 hown hg7 hat ct2 ga HN
                        go_wp2
                        go_meet
                        exact FI.out
            case rest =>
              obtain ⟨z, hz, hM, hRW, hB1, hB2⟩ := hcut
              obtain ⟨cl, fl⟩ := hM.lastAt T (by omega)
              have M2 := hM.setLast T (by omega) (10 * ((zs.length : Int) + 1))
              have S2 := hRW.kept (hM.last.stored T (.int .i64 (10 * ((zs.length : Int) + 1)))).2 (own_apart hRW hM.last (by decide))
              have B1 := hB1.gz (v := .slice (some ⟨w.heap.size, 0, none⟩) 5 5) (hM.last.stored T (.int .i64 (10 * ((zs.length : Int) + 1)))).2 hM.last (by decide)
              have B2 := hB2.gz (v := .slice (some ⟨w.heap.size, 0, none⟩) 5 5) (hM.last.stored T (.int .i64 (10 * ((zs.length : Int) + 1)))).2 hM.last (by decide)
              have HM2 := hid M2
              have HS2 := hid S2
              have HB1 := hid B1
              have HB2 := hid B2
              have HZ := hid hz
              have zl := lt_of_cell cl
              clear hM hRW hB1 hB2 M2 S2 B1 B2 hz HMM RW s0 s1 s2 s3 cd fd zd zsz TS r0 f0 zr
              go_upto_region 26 with (fail)
              generalize wc.setCell ⟨w.heap.size, T, none⟩ (.int .i64 (10 * ((zs.length : Int) + 1))) = W3 at *
              clear cl fl zl
              have hlsn : Hid (z.ln.lsn = 10 * ((zs.length : Int) + 1)) := hid (by
                show z.c.lsn = _
                rw [HZ.out, recR_lsn, HNN.out])
              have hzf : Hid (zF z = .int .i64 (10 * ((zs.length : Int) + 1)) :: rF z.ln) := hid (by rw [← hlsn.out]; rfl)
              have y0 : W3.cell? ⟨rB, 0, none⟩ = some (.int .i64 z.ln.kind) := by rw [HS2.out.cellAt 0 (by omega)]; rfl
              have y1 : W3.cell? ⟨rB, 1, none⟩ = some (.int .i64 z.ln.txn) := by rw [HS2.out.cellAt 1 (by omega)]; rfl
              have y2 : W3.cell? ⟨rB, 2, none⟩ = some (.int .i64 z.ln.prev) := by rw [HS2.out.cellAt 2 (by omega)]; rfl
              have y3 : W3.cell? ⟨rB, 3, none⟩ = some (.int .i64 z.ln.next) := by rw [HS2.out.cellAt 3 (by omega)]; rfl
              have y4 : W3.cell? ⟨rB, 4, none⟩ = some (.int .i64 z.ln.page) := by rw [HS2.out.cellAt 4 (by omega)]; rfl
              have y5 : W3.cell? ⟨rB, 5, none⟩ = some (.int .i64 z.ln.off) := by rw [HS2.out.cellAt 5 (by omega)]; rfl
              have y6 : W3.cell? ⟨rB, 6, none⟩ = some (.slice z.ln.ob z.ln.bs.length z.ln.cb) := by rw [HS2.out.cellAt 6 (by omega)]; rfl
              have y7 : W3.cell? ⟨rB, 7, none⟩ = some (.slice z.ln.oa z.ln.es.length z.ln.ca) := by rw [HS2.out.cellAt 7 (by omega)]; rfl
              have y8 : W3.cell? ⟨rB, 8, none⟩ = some (.slice z.ln.ot z.ln.ts.length z.ln.ct) := by rw [HS2.out.cellAt 8 (by omega)]; rfl
              have y9 : W3.cell? ⟨rB, 9, none⟩ = some (.slice z.ln.od z.ln.ds.length z.ln.cd) := by rw [HS2.out.cellAt 9 (by omega)]; rfl
              have y10 : W3.cell? ⟨rB, 10, none⟩ = some (.int .i64 z.ln.cnt) := by rw [HS2.out.cellAt 10 (by omega)]; rfl
              have zr := lt_of_cell y0
              obtain ⟨i0, hi0, hz0, hz1, hz2⟩ := info_parts n_info
              have hwb := HM2.out.up.size
              have hzrf : Hid (rF z.ln = [.int .i64 z.ln.kind, .int .i64 z.ln.txn, .int .i64 z.ln.prev, .int .i64 z.ln.next, .int .i64 z.ln.page, .int .i64 z.ln.off, .slice z.ln.ob z.ln.bs.length z.ln.cb, .slice z.ln.oa z.ln.es.length z.ln.ca, .slice z.ln.ot z.ln.ts.length z.ln.ct, .slice z.ln.od z.ln.ds.length z.ln.cd, .int .i64 z.ln.cnt]) := hid rfl
              have hfin : Hid (∀ v' w7, Gz (.slice o3 zs.length c3) (W3.alloc (.cells (.int .i64 (10 * ((zs.length : Int) + 1)) :: rF z.ln).toArray 34)) w7 → w7.ownsRow w.heap.size 34 12 v' (zs.length + 1) (cellsF zF zs ++ zF z) → HRel w steps R v' (.int .i64 ((k : Int) + 1)) w7) := hid (by
                intro v' w7 hg7 hown
                have ga : Gr W3 (W3.alloc (.cells (.int .i64 (10 * ((zs.length : Int) + 1)) :: rF z.ln).toArray 34)) := (Gr.refl _).alloc _
                have M4 := (HM2.out.gr ga).push z hown hg7 ⟨HB1.out.gr ga, HB2.out.gr ga⟩
                refine ⟨k + 1, zs ++ [z], stepH k h x, by go_num, by omega, by omega, ?_, ?_, hst.out⟩
                · unfold stepH
                  rw [HT.out, HDB.out, if_neg (by simp)]
                  simp only [List.length_append, List.length_singleton]
                  rw [← HNN.out] at M4 ⊢
                  rw [← HZ.out]
                  exact M4
                · unfold stepH
                  rw [HT.out, HDB.out, if_neg (by simp)]
                  simp only [List.length_append, List.length_singleton]
                  omega)
              go_wp2_with (at_builtin; refine wpList_append_own _ rfl _ _ 23 rfl w.heap.size 34 i0 _ 12 160 Try.underlying23 hi0 hz0 hz1 hz2 rfl (by decide) _ _ _ rfl (HM2.out.row.alloc _) ⟨W3.heap.size, 0, none⟩ 1 1 (zF z) rfl rfl ?mc1 ?mc2 ?mc3 ?mc4 ?mc5 ?_)
              case mc1 =>
                intro q u hu
                rw [hzf.out, hzrf.out] at hu
                first
                | exact hu
                | (rw [addN, Nat.zero_add, Rg.blk_cells (heap_alloc_new _ _) q]; simpa using hu)
              case mc2 => exact zE.one _
              case mc3 => unfold maxLen; omega
              case mc4 => omega
              case mc5 => first | omega | (simp; omega)
              intro v' w7 hown hg7 _
              have FI := hid (hfin.out v' w7 (by rw [hzrf.out]; exact hg7) hown)
              clear hfin hown hg7 HM2 HS2 hst
              go_wp2
              exact ⟨FI.out, by simp [intOf]; omega⟩
      · have g4 : decide ((60 : Int) ≤ (k : Int)) = true := by rw [decide_eq_true_iff]; omega
        have HF := hid (hfin.out (.inr (by omega)) wr (Gr.refl _))
        clear hend hfin HMM HR
        go_wp2
        go_ret
        exact HF.out
    · have g1 : decide ((steps.length : Int) ≤ (k : Int)) = true := by rw [decide_eq_true_iff]; omega
      have HF := hid (hfin.out (.inl (by omega)) wr (Gr.refl _))
      clear hend hfin HMM HR
      go_wp2
      go_ret
      exact HF.out
end Go.Proofs.Ytmanokhadppeeaa

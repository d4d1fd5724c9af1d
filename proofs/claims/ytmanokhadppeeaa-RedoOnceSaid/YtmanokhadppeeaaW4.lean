/- redo: the walk of RedoRepeats. -/
import Derived.Test.YtmanokhadppeeaaF3
import Derived.Test.YtmanokhadppeeaaR4
import Derived.Test.YtmanokhadppeeaaAw
namespace Go.Proofs.Ytmanokhadppeeaa
open Go.RowKit Go.Maps
set_option linter.unusedSimpArgs false
set_option linter.unusedVariables false
attribute [local go_sem] Rg.leads_value Rg.leads_skip Rg.leads_enter Rg.brings_value Rg.brings_skip Rg.brings_enter Rg.bringsG_value Rg.bringsG_enter
theorem okN_mk {q : Nat → Bool} : ∀ {n i : Nat}, (∀ k, i ≤ k → k < i + n → q k = true) → okN q n i = true
  | 0, _, _ => rfl
  | n + 1, i, h => by
    unfold okN
    rw [h i (Nat.le_refl _) (by omega), okN_mk (fun k h1 h2 => h k (by omega) (by omega))]
    rfl
theorem own_at0 {α : Type} {f : α → List Value} {n : Nat} {w : World} {base : Nat} {e : TypeId} {v : Value} {l : List α} (he : Enc f n) (h : w.ownsRow base e n v l.length (cellsF f l)) :
    ∃ oa c, v = .slice oa l.length c ∧ AtF f n w oa l ∧ (oa = none → c = 0) := by
  rcases h.2 with ⟨rfl, h0⟩ | ⟨g, cap, cur, rfl, hb, hg, hc, _⟩
  · exact ⟨none, 0, by rw [h0], .inl (List.eq_nil_of_length_eq_zero h0), fun _ => rfl⟩
  · obtain ⟨oa, c, e, hat, _⟩ := own_at he h
    cases e
    exact ⟨_, _, rfl, hat, fun h => by cases h⟩
theorem pgR_len : ∀ (ps : List Int) (i : Nat), (pgR ps i).length = ps.length
  | [], _ => rfl
  | v :: r, i => by rw [pgR, List.length_cons, List.length_cons, pgR_len r]
theorem pgR_get : ∀ (ps : List Int) (i k : Nat) (h : k < ps.length), (pgR ps i)[k]'(by rw [pgR_len]; exact h) = ⟨((i + k : Nat) : Int), ps[k]⟩
  | v :: r, i, 0, _ => rfl
  | v :: r, i, k + 1, h => by
    have := pgR_get r (i + 1) k (by simpa using h)
    simp only [pgR, List.getElem_cons_succ]
    rw [this]
    congr 2
    omega
theorem redoR_len (l : List Ln) (ds : List Dy) (g : Int → Int) : (redoR l ds g).length ≤ l.length := by
  have key : ∀ (fr : Int) (ds : List Dy) (l : List Ln) (s : Rs), (l.foldl (stepR ds fr g) s).out.length ≤ s.out.length + l.length := by
    intro fr ds l
    induction l with
    | nil => intro s; exact Nat.le_refl _
    | cons x r ih =>
      intro s
      rw [List.foldl_cons]
      have h1 := ih (stepR ds fr g s x)
      have h2 : (stepR ds fr g s x).out.length ≤ s.out.length + 1 := by
        rw [stepR_go]
        split
        · omega
        · split
          · simp
          · simp
      simp only [List.length_cons]
      omega
  cases ds with
  | nil => exact Nat.zero_le _
  | cons d r => have := key (fromI (d :: r) d.lsn) (d :: r) l ⟨fun _ => none, []⟩; simpa [redoR] using this
/-- what a law's call hands back -/
def Yes (w : World) (e : Ending) (w' : World) : Prop := e = .returned (.bool true) ∧ Gr w w'
def W4a (w : World) (ds : List Dy) (s7 : Value) (wr : World) : Prop := ∃ k : Nat, s7 = .int .i64 ((k : Int) + 1) ∧ k ≤ ds.length ∧ Gr w wr ∧ ∀ j, 1 ≤ j → j < 1 + k → stepUp Dy.page ds j = true
def W4b (w : World) (ps : List Int) (s8 s9 : Value) (wr : World) : Prop := ∃ k : Nat, s9 = .int .i64 (k : Int) ∧ k ≤ ps.length ∧ Gr w wr ∧ wr.ownsRow w.heap.size 42 2 s8 k (cellsF gF ((pgR ps 0).take k))
def W4c (w : World) (n : Nat) (s12 : Value) (wr : World) : Prop := ∃ k : Nat, s12 = .int .i64 (k : Int) ∧ k ≤ n ∧ Gr w wr
set_option maxHeartbeats 4000000 in
set_option maxRecDepth 100000 in
theorem repeats_walk (ol : Option Addr) (cl : Nat) (l : List Ln) (od : Option Addr) (cd : Nat) (ds : List Dy) (op : Option Addr) (cp : Nat) (ps : List Int) (w : World) (hl : l.length ≤ 9223372036854775807) (hdl : ds.length ≤ 9223372036854775807) (hpl : ps.length ≤ 9223372036854775807)
    (hL : LAt w ol l) (hD : DAt w od ds) (hP : IAt w op ps) (hs : ∀ x ∈ l, x.ts.length ≤ 9223372036854775807 ∧ x.ds.length ≤ 9223372036854775807) (hok : ∀ x ∈ l, okI x.page ∧ okI x.lsn) (hpok : ∀ x ∈ ps, okI x) :
    Calls Try.prog 4 #[.slice ol l.length cl, .slice od ds.length cd, .slice op ps.length cp] w (Yes w) := by
  have HL := hid hL
  have HD := hid hD
  have HP := hid hP
  have HOK := hid hok
  have HPOK := hid hpok
  have FINE := hid (fun W (hW : Gr w W) => fine_any ol cl l W hl (hL.keep hW) hs)
  clear hL hD hP hok hpok hs
  go_enter Try.func4, Try.ntmps4
  go_wp2_with fail
  go_loopw [7] (fun s7 wr => W4a w ds s7 wr) (fun s7 _ => ds.length - (intOf s7).toNat)
  case atStart => exact ⟨0, rfl, Nat.zero_le _, Gr.refl _, fun j h1 h2 => by omega⟩
  case round =>
    obtain ⟨k, rfl, hk, hg, hup⟩ := hrel
    have HUP := hid hup
    clear hup
    by_cases hlt : k + 1 < ds.length
    · have HQ := HD.out.keep hg
      obtain ⟨b, off, rfl, c0, -⟩ := d_get HQ (k + 1) hlt
      obtain ⟨b', off', e', d0, -⟩ := d_get HQ k (by omega)
      cases e'
      have hbb := lt_of_cell c0
      have g1 : decide ((ds.length : Int) ≤ (k : Int) + 1) = false := by rw [decide_eq_false_iff_not]; omega
      have g2 : (k : Int) + 1 < (ds.length : Int) := by omega
      have g3 : (0 : Int) ≤ (k : Int) + 1 := by omega
      have g4 : (k : Int) < (ds.length : Int) := by omega
      have g5 : (0 : Int) ≤ (k : Int) := by omega
      have g6 : IntKind.i64.wrap (k : Int) = (k : Int) := i64w (by omega) (by omega)
      have HST : Hid (stepUp Dy.page ds (k + 1) = !decide (ds[k + 1].page ≤ ds[k].page)) := hid (by
        unfold stepUp
        rw [List.getElem?_eq_getElem hlt, show k + 1 - 1 = k by omega, List.getElem?_eq_getElem (by omega)])
      clear HQ
      generalize ds[k].page = x at *
      generalize ds[k + 1].page = y at *
      obtain ⟨tb, htb⟩ : ∃ q, decide (y ≤ x) = q := ⟨_, rfl⟩
      rw [htb] at HST
      have hg0 := hg
      go_upto_region 4 with (fail)
      refine Rg.region_text 11 (Below.drew (Below.refl _ _)) (by kernel_rfl) (by kernel_rfl) (fun _ _ d _ _ h => by cases d <;> exact h) ?_
      simp only [List.append_eq, List.cons_append, List.nil_append, List.take_succ_cons, List.take_zero, List.drop_succ_cons, List.drop_zero]
      repeat (first
          | (refine Rg.wpDets_skip (by rfl) ?_; simp only [Act.put, List.setIfInBounds_toArray, List.set_cons_zero, List.set_cons_succ])
          | (refine Rg.wpDets_step ?_ (by rfl) (fun w hS => ?_) ?_
             rotate_left
             · have hc := Gr.cells hS
               have hf := Gr.frees hS
               go_simp
               first
               | (refine ⟨?_, Below.refl _ _⟩; with_reducible rfl)
             simp only [Act.put, List.setIfInBounds_toArray, List.set_cons_zero, List.set_cons_succ]))
      refine Rg.wpDets_nil ?_
      refine Rg.wpFlts_nil ?_
      refine Rg.wpLays_nil ?_
      intro w1 hK
      have hg : Gr _ w1 := hK.up
      have hc := Gr.cells hg
      have hf := Gr.frees hg
      have hz := Gr.size hg
      try simp only [World.size_alloc, World.size_setCell, World.size_drew] at hz
      try have : 0 < w1.heap.size := by omega
      try have : w.heap.size < w1.heap.size := by omega
      try have : w.heap.size + 1 < w1.heap.size := by omega
      try have : w.heap.size + 1 + 1 < w1.heap.size := by omega
      try have : w.heap.size + 1 + 1 + 1 < w1.heap.size := by omega
      have HG := hid (hg0.trans hg)
      cases tb
      · have FI : Hid (W4a w ds (.int .i64 ((k : Int) + 1 + 1)) w1) := hid ⟨k + 1, by go_num, by omega, HG.out, fun j h1 h2 => by
          by_cases e : j = k + 1
          · subst e; exact HST.out
          · exact HUP.out j h1 (by omega)⟩
        clear HST HUP
        go_wp2
        exact ⟨FI.out, by simp [intOf]; omega⟩
      · go_wp2_with fail
        refine (awake_any _).mono ?_
        rintro e w2 ⟨rfl, hg2⟩
        go_wp2
        go_ret
        exact ⟨rfl, HG.out.trans hg2⟩
    · have g1 : decide ((ds.length : Int) ≤ (k : Int) + 1) = true := by rw [decide_eq_true_iff]; omega
      have HUB : Hid (upB Dy.page ds = true) := hid (okN_mk (fun j h1 h2 => HUP.out j h1 (by omega)))
      have FN := FINE.out _ hg
      have HG0 := hid hg
      clear HUP FINE hg
      go_wp2_with fail
      refine FN.mono ?_
      rintro e w1 ⟨tb, rfl, ht, hg1⟩
      have HT := hid ht
      have HG1 := hid (HG0.out.trans hg1)
      clear ht hg1 HG0
      cases tb
      · go_wp2_with fail
        refine (awake_any _).mono ?_
        rintro e w2 ⟨rfl, hg2⟩
        go_wp2
        go_ret
        exact ⟨rfl, HG1.out.trans hg2⟩
      · have hl := HT.out rfl
        by_cases hd30 : 30 < ds.length
        · have gd : decide ((30 : Int) < (ds.length : Int)) = true := by rw [decide_eq_true_iff]; omega
          go_wp2_with fail
          refine (awake_any _).mono ?_
          rintro e w2 ⟨rfl, hg2⟩
          go_wp2
          go_ret
          exact ⟨rfl, HG1.out.trans hg2⟩
        · have gd : decide ((30 : Int) < (ds.length : Int)) = false := by rw [decide_eq_false_iff_not]; omega
          by_cases hp30 : 30 < ps.length
          · have gp : decide ((30 : Int) < (ps.length : Int)) = true := by rw [decide_eq_true_iff]; omega
            go_wp2_with fail
            refine (awake_any _).mono ?_
            rintro e w2 ⟨rfl, hg2⟩
            go_wp2
            go_ret
            exact ⟨rfl, HG1.out.trans hg2⟩
          · have gp : decide ((30 : Int) < (ps.length : Int)) = false := by rw [decide_eq_false_iff_not]; omega
            have S0 : Hid (W4b w ps (.slice none 0 0) (.int .i64 0) w1) := hid ⟨0, rfl, Nat.zero_le _, HG1.out, by rw [List.take_zero]; exact World.ownsRow_nil _ _ _ _⟩
            clear HG1 HT
            go_wp2_with fail
            go_loopw [8, 9] (fun s8 s9 wr => W4b w ps s8 s9 wr) (fun _ s9 _ => ps.length - (intOf s9).toNat)
            case atStart => exact S0.out
            case round =>
              clear S0
              obtain ⟨k, rfl, hk, hg, hO⟩ := hrel
              have HO := hid hO
              clear hO
              by_cases hlt : k < ps.length
              · obtain ⟨b, off, rfl, c0⟩ := i_get (HP.out.keep hg) k hlt
                have hbb := lt_of_cell c0
                have hT : Hid (cellsF gF ((pgR ps 0).take (k + 1)) = cellsF gF ((pgR ps 0).take k) ++ gF ⟨(k : Int), ps[k]⟩) := hid (by
                  rw [take_snoc _ k (by rw [pgR_len]; exact hlt), cellsF_snoc, pgR_get ps 0 k hlt, Nat.zero_add])
                have g1 : decide ((ps.length : Int) ≤ (k : Int)) = false := by rw [decide_eq_false_iff_not]; omega
                have g2 : (k : Int) < (ps.length : Int) := by omega
                have g3 : (0 : Int) ≤ (k : Int) := by omega
                generalize ps[k] = x at *
                obtain ⟨i0, hi0, hz0, hz1, hz2⟩ := info_parts g_info
                have hwb := hg.size
                go_wp2_with (at_builtin; refine wpList_append_own _ rfl _ _ 40 rfl w.heap.size 42 i0 (.agg #[.int .i64 0, .int .i64 0]) 2 16 Try.underlying40 hi0 hz0 hz1 hz2 rfl (by decide) _ _ _ rfl (HO.out.alloc _) ⟨wr.heap.size, 0, none⟩ 1 1 (gF ⟨(k : Int), x⟩) rfl rfl ?mb1 ?mb2 ?mb3 ?mb4 ?mb5 ?_)
                case mb1 =>
                  intro q u hu
                  first
                  | (rw [addN, Nat.zero_add, Rg.blk_cells (heap_alloc_new _ _) q]; simpa [gF] using hu)
                  | simpa [gF] using hu
                case mb2 => exact gE.one _
                case mb3 => unfold maxLen; omega
                case mb4 => omega
                case mb5 => first | omega | (simp; omega)
                intro v' w7 hown hg7 _
                have HO7 : Hid (w7.ownsRow w.heap.size 42 2 v' (k + 1) (cellsF gF ((pgR ps 0).take (k + 1)))) := hid (by rw [hT.out]; exact hown)
                have GU := Gz.up hg (Gz.trans (.of ((Gr.refl _).alloc _)) hg7) HO.out
                have FI : Hid (W4b w ps v' (.int .i64 ((k : Int) + 1)) w7) := hid ⟨k + 1, by go_num, by omega, GU, HO7.out⟩
                clear hown hg7 HO HO7 GU hT
                go_wp2
                exact ⟨FI.out, by simp [intOf]; omega⟩
              · obtain rfl : k = ps.length := by omega
                have g1 : decide ((ps.length : Int) ≤ (ps.length : Int)) = true := by rw [decide_eq_true_iff]; omega
                have HO1 : Hid (wr.ownsRow w.heap.size 42 2 u8 (pgR ps 0).length (cellsF gF (pgR ps 0))) := hid (by
                  have h := HO.out
                  have e : (pgR ps 0).take ps.length = pgR ps 0 := List.take_of_length_le (by rw [pgR_len]; exact Nat.le_refl _)
                  rw [e] at h
                  rw [pgR_len]
                  exact h)
                obtain ⟨o8, c8, e8, hat8, hn8⟩ := own_at0 gE HO1.out
                subst e8
                have HAT := hid hat8
                have HN8 := hid hn8
                have hRl := redoR_len l ds (lsnI ps)
                obtain ⟨R, hR⟩ : ∃ R, redoR l ds (lsnI ps) = R := ⟨_, rfl⟩
                rw [hR] at hRl
                have RD : Hid (∀ gp W, Gr w W → W.cell? ⟨gp, 0, none⟩ = some (.slice op ps.length cp) → Calls Try.prog 11 #[.slice ol l.length cl, .slice od ds.length cd, .func (.func 35) #[] #[.pointer (some ⟨gp, 0, none⟩)]] W fun e w' => ∃ oa, e = .returned (.slice oa R.length R.length) ∧ IAt w' oa R ∧ Gr W w') := hid (by
                  intro gp W hW hc
                  cases ds with
                  | nil =>
                    have hR0 : R = [] := hR.symm
                    subst hR0
                    refine (redo_empty _ ol cl l.length od cd W).mono ?_
                    rintro e w' ⟨rfl, hg⟩
                    exact ⟨none, rfl, .inl rfl, hg⟩
                  | cons d0 dr =>
                    rw [← hR]
                    exact redo_fun ol cl l od cd d0 dr W (by omega) (HL.out.keep hW) (by omega) (HD.out.keep hW) HOK.out op cp ps gp (by omega) HPOK.out (HP.out.keep hW) hc)
                have TO : Hid (∀ W, Gr w W → Calls Try.prog 14 #[.slice ol l.length cl] W fun e w' => ∃ o c, e = .returned (.slice o l.length c) ∧ LAt w' o l ∧ Gr W w') := hid (by
                  intro W hW
                  refine (to_any ol cl l W (by omega) (HL.out.keep hW)).mono ?_
                  rintro e w' ⟨v, rfl, ho, hg⟩
                  obtain ⟨o, c, rfl, hat, _⟩ := own_at0 nE ho
                  exact ⟨o, c, rfl, ⟨hat, fun x hx => ((HL.out.keep hW).ok x hx).keep hg⟩, hg⟩)
                have RF : Hid (∀ W o c, Gr wr W → LAt W o l → Calls Try.prog 13 #[.slice o l.length c, .slice od ds.length cd, .slice o8 (pgR ps 0).length c8] W fun e w' => ∃ oa c', e = .returned (.slice oa R.length c') ∧ IAt w' oa R ∧ Gr W w') := hid (by
                  intro W o c hW hLo
                  refine (refw_all o c l od cd ds o8 c8 (pgR ps 0) W (by omega) (by omega) (by rw [pgR_len]; omega) hLo (HD.out.keep (hg.trans hW)) (HAT.out.keep hW) HN8.out).mono ?_
                  rintro e w' ⟨v, rfl, ho, hg⟩
                  rw [← repeats_same l ds ps HUB.out, hR] at ho
                  obtain ⟨oa, c', rfl, hat, _⟩ := own_at0 iE ho
                  exact ⟨oa, c', rfl, hat, hg⟩)
                have HG0 := hid hg
                clear HO HO1 HAT HN8 hat8 hn8 HUB hR HL HD HP HOK HPOK hg
                generalize (pgR ps 0).length = np at *
                go_wp2_with fail
                refine (lsns_make op ps.length cp _).mono ?_
                rintro e w2 ⟨gp, rfl, hgp, hg2⟩
                have G2 := HG0.out.trans hg2
                have R2 := RD.out gp w2 G2 hgp
                clear RD
                go_wp2_with fail
                refine R2.mono ?_
                rintro e w3 ⟨oa, rfl, ha, hg3⟩
                have T3 := TO.out w3 (G2.trans hg3)
                have HA := hid ha
                clear TO R2 ha hgp
                go_wp2_with fail
                refine T3.mono ?_
                rintro e w4 ⟨o4, c4, rfl, hl4, hg4⟩
                have HA := hid (HA.out.keep hg4)
                have G4 := (hg2.trans hg3).trans hg4
                have F4 := RF.out w4 o4 c4 G4 hl4
                clear RF T3 hl4 hg3 hg4 hg2
                go_wp2_with fail
                refine F4.mono ?_
                rintro e w5 ⟨ob, c5, rfl, hb, hg5⟩
                have HA := hid (HA.out.keep hg5)
                have HB := hid hb
                have HG5 := hid ((HG0.out.trans G4).trans hg5)
                clear F4 hb hg5 G4 HG0 G2
                go_wp2_with fail
                go_loopw [12] (fun s12 wr => W4c w5 R.length s12 wr) (fun s12 _ => R.length - (intOf s12).toNat)
                case atStart => exact ⟨0, rfl, Nat.zero_le _, Gr.refl _⟩
                case round =>
                  obtain ⟨k, rfl, hk, hg⟩ := hrel
                  by_cases hlt : k < R.length
                  · obtain ⟨b1, off1, rfl, c0⟩ := i_get (HA.out.keep hg) k hlt
                    obtain ⟨b2, off2, rfl, d0⟩ := i_get (HB.out.keep hg) k hlt
                    have z1 := lt_of_cell c0
                    have z2 := lt_of_cell d0
                    have g1 : decide ((R.length : Int) ≤ (k : Int)) = false := by rw [decide_eq_false_iff_not]; omega
                    have g2 : (k : Int) < (R.length : Int) := by omega
                    have g3 : (0 : Int) ≤ (k : Int) := by omega
                    generalize R[k] = x at *
                    have hg0 := hg
                    go_upto_region 20 with (fail)
                    refine Rg.region_text 8 (Below.drew (Below.refl _ _)) (by kernel_rfl) (by kernel_rfl) (fun _ _ d _ _ h => by cases d <;> exact h) ?_
                    simp only [List.append_eq, List.cons_append, List.nil_append, List.take_succ_cons, List.take_zero, List.drop_succ_cons, List.drop_zero]
                    repeat (first
                        | (refine Rg.wpDets_skip (by rfl) ?_; simp only [Act.put, List.setIfInBounds_toArray, List.set_cons_zero, List.set_cons_succ])
                        | (refine Rg.wpDets_step ?_ (by rfl) (fun w hS => ?_) ?_
                           rotate_left
                           · have hc := Gr.cells hS
                             have hf := Gr.frees hS
                             go_simp
                             first
                             | (refine ⟨?_, Below.refl _ _⟩; with_reducible rfl)
                           simp only [Act.put, List.setIfInBounds_toArray, List.set_cons_zero, List.set_cons_succ]))
                    refine Rg.wpDets_nil ?_
                    refine Rg.wpFlts_nil ?_
                    refine Rg.wpLays_nil ?_
                    intro w1 hK
                    have hg : Gr _ w1 := hK.up
                    have hc := Gr.cells hg
                    have hf := Gr.frees hg
                    have hz := Gr.size hg
                    try simp only [World.size_alloc, World.size_setCell, World.size_drew] at hz
                    try have : 0 < w1.heap.size := by omega
                    try have : w.heap.size < w1.heap.size := by omega
                    try have : w.heap.size + 1 < w1.heap.size := by omega
                    try have : w.heap.size + 1 + 1 < w1.heap.size := by omega
                    try have : w.heap.size + 1 + 1 + 1 < w1.heap.size := by omega
                    have FI : Hid (W4c w5 R.length (.int .i64 ((k : Int) + 1)) w1) := hid ⟨k + 1, by go_num, by omega, hg0.trans hg⟩
                    go_wp2
                    exact ⟨FI.out, by simp [intOf]; omega⟩
                  · obtain rfl : k = R.length := by omega
                    have g1 : decide ((R.length : Int) ≤ (R.length : Int)) = true := by rw [decide_eq_true_iff]; omega
                    have HG6 := hid (HG5.out.trans hg)
                    go_wp2_with fail
                    refine (awake_any _).mono ?_
                    rintro e w6 ⟨rfl, hg6⟩
                    go_wp2
                    go_ret
                    exact ⟨rfl, HG6.out.trans hg6⟩
end Go.Proofs.Ytmanokhadppeeaa

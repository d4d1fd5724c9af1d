/- redo: Redo with a function that tells pages' LSNs. (By mkR4.py.) -/
import Derived.Test.YtmanokhadppeeaaR3
namespace Go.Proofs.Ytmanokhadppeeaa
open Go.RowKit Go.Maps
set_option linter.unusedSimpArgs false
set_option linter.unusedVariables false
attribute [local go_sem] Rg.leads_value Rg.leads_skip Rg.leads_enter Rg.brings_value Rg.brings_skip Rg.brings_enter Rg.bringsG_value Rg.bringsG_enter
theorem nff (gp : Nat) (W : World) : (binOp .neq 44 (.func (.func 35) #[] #[.pointer (some ⟨gp, 0, none⟩)]) .nilFunc).run Try.prog W = .ok (.bool true) W := by kernel_rfl
theorem lsnI_ok {ps : List Int} (h : ∀ x ∈ ps, okI x) (p : Int) : okI (lsnI ps p) := by
  unfold lsnI
  split
  · (unfold okI; decide)
  · cases e : ps[p.toNat]? with
    | none => exact (by unfold okI; decide)
    | some v => exact h _ (List.mem_of_getElem? e)
set_option maxHeartbeats 4000000 in
set_option maxRecDepth 100000 in
theorem redo_fun (ol : Option Addr) (cl : Nat) (l : List Ln) (od : Option Addr) (cd : Nat) (d0 : Dy) (dr : List Dy) (w : World) (hl : l.length ≤ 1000000) (hL : LAt w ol l) (hdl : (d0 :: dr).length ≤ 1000000) (hD : DAt w od (d0 :: dr)) (hok : ∀ x ∈ l, okI x.page ∧ okI x.lsn) (op : Option Addr) (cp : Nat) (ps : List Int) (gp : Nat) (hpl : ps.length ≤ 1000000) (hpok : ∀ x ∈ ps, okI x) (hPs : IAt w op ps) (hgp : w.cell? ⟨gp, 0, none⟩ = some (.slice op ps.length cp)) :
    Calls Try.prog 11 #[.slice ol l.length cl, .slice od (d0 :: dr).length cd, .func (.func 35) #[] #[.pointer (some ⟨gp, 0, none⟩)]] w fun e w' => ∃ oa, e = .returned (.slice oa (redoR l (d0 :: dr) (lsnI ps)).length (redoR l (d0 :: dr) (lsnI ps)).length) ∧ IAt w' oa (redoR l (d0 :: dr) (lsnI ps)) ∧ Gr w w' := by
  obtain ⟨R, hR⟩ : ∃ R, redoR l (d0 :: dr) (lsnI ps) = R := ⟨_, rfl⟩
  obtain ⟨T, hT⟩ : ∃ T, fromI (d0 :: dr) d0.lsn = T := ⟨_, rfl⟩
  obtain ⟨ds, hds⟩ : ∃ ds, d0 :: dr = ds := ⟨_, rfl⟩
  have hR' : ((l.drop 0).foldl (stepR ds T (lsnI ps)) ⟨fun _ => none, []⟩).out = R := by rw [← hR, ← hT, ← hds]; rfl
  rw [hR]
  have h1 : 0 < ds.length := by rw [← hds]; simp
  have e0 : ds[0].lsn = d0.lsn := by subst hds; rfl
  rw [hds] at hT hD hdl ⊢
  obtain ⟨b, off, rfl, c0, c1⟩ := d_get hD 0 h1
  rw [e0] at c1
  have HL := hid hL
  have HD := hid hD
  have HOK := hid hok
  have HR := hid hR'
  have h0 : Hid (R1Rel w ds T (.int .i64 d0.lsn) (.int .i64 0) w) := hid ⟨0, d0.lsn, rfl, rfl, Nat.zero_le _, Gr.refl _, hT⟩
  have gz : ((ds.length : Int) == 0) = false := by rw [beq_eq_false_iff_ne]; omega
  have gz1 : ¬ ds.length = 0 := by omega
  have zb := lt_of_cell c0
  have c1 : w.cell? ⟨b, off + 1, none⟩ = some (.int .i64 d0.lsn) := by simpa using c1
  have LS : Hid (∀ (p : Int) W, Gr w W → Calls Try.prog 35 #[.int .i64 p, .pointer (some ⟨gp, 0, none⟩)] W fun e w' => e = .returned (.int .i64 (lsnI ps p)) ∧ Gr W w') := hid (fun p W hW => lsns_any op cp ps gp p W hpl (hPs.keep hW) (hW.keep hgp))
  have LOK : Hid (∀ p, okI (lsnI ps p)) := hid (lsnI_ok hpok)
  clear hL hD hok hR hR' hT hds e0 hPs hgp hpok
  generalize lsnI ps = gf at *
  have hmm := @run_makeMap Try.prog
  go_enter Try.func11, Try.ntmps11
  go_wp2_with fail
  go_loopw [7, 26] (fun s7 s26 wr => R1Rel w ds T s7 s26 wr) (fun _ s26 _ => ds.length - (intOf s26).toNat)
  case atStart => exact h0.out
  case round =>
    clear h0
    obtain ⟨i, a, rfl, rfl, hi, hg, ha⟩ := hrel
    by_cases hlt : i < ds.length
    · obtain ⟨b', off', e', d0', d1'⟩ := d_get (HD.out.keep hg) i hlt
      cases e'
      rw [List.drop_eq_getElem_cons hlt] at ha
      have ha' : fromI (ds.drop (i + 1)) (min a ds[i].lsn) = T := ha
      have HA := hid ha'
      have gi1 : decide ((ds.length : Int) ≤ (i : Int)) = false := by rw [decide_eq_false_iff_not]; omega
      have gi2 : (i : Int) < (ds.length : Int) := by omega
      have gi3 : (0 : Int) ≤ (i : Int) := by omega
      have zd := lt_of_cell d0'
      clear ha ha'
      generalize ds[i] = x at *
      have hm : (if x.lsn < a then x.lsn else a) = min a x.lsn := by
        rw [Int.min_def]
        split <;> split <;> omega
      have FI : Hid (∀ W, Gr wr W → R1Rel w ds T (.int .i64 (if x.lsn < a then x.lsn else a)) (.int .i64 ((i : Int) + 1)) W) := hid (fun W hW => ⟨i + 1, min a x.lsn, by go_num, by rw [hm], by omega, hg.trans hW, HA.out⟩)
      clear hm HA
      go_wp2
      exact ⟨FI.out _ ((Gr.refl _).alloc _), by simp [intOf]; omega⟩
    · obtain rfl : i = ds.length := by omega
      have hT : a = T := by rw [← ha, List.drop_length]; rfl
      subst hT
      have hbm := hg.size
      have S0 : Hid (R2Rel w wr.heap.size l ds a gf R (.slice none 0 0) (.int .i64 0) (wr.alloc (.map #[] 0))) := hid ⟨0, ⟨fun _ => none, []⟩, rfl, Nat.zero_le _, hg.alloc _, Sn.made _, World.ownsRow_nil _ _ _ _, Nat.le_refl _, HR.out⟩
      clear HR ha
      go_wp2_with fail
      obtain ⟨bm, hbme⟩ : ∃ bm, bm = wr.heap.size := ⟨_, rfl⟩
      rw [← hbme] at S0 hbm ⊢
      obtain ⟨wm, hwme⟩ : ∃ wm, wm = wr.alloc (.map #[] 0) := ⟨_, rfl⟩
      rw [← hwme] at S0 ⊢
      clear hwme hbme hg c0 c1 zb
      go_loopw [11, 38] (fun s11 s38 wq => R2Rel w bm l ds a gf R s11 s38 wq) (fun _ s38 _ => l.length - (intOf s38).toNat)
      case atStart => exact S0.out
      case round =>
        clear S0
        obtain ⟨i, s, rfl, hi, hg, hS, hO, hob, hR⟩ := hrel
        have HS := hid hS
        have HO := hid hO
        have HR := hid hR
        clear hS hO hR
        by_cases hlt : i < l.length
        · obtain ⟨b2, off2, rfl, c0, c1, c2, c3, c4, c5, c6, c7, c8, c9, c10, c11⟩ := n_get (HL.out.keep hg) i hlt
          have hpk := HOK.out _ (List.getElem_mem hlt)
          have hst : Hid (((l.drop (i + 1)).foldl (stepR ds a gf) (stepR ds a gf s l[i])).out = R) := hid (by
            rw [← HR.out, List.drop_eq_getElem_cons hlt]; rfl)
          clear HR
          generalize l[i] = x at *
          have HPK := hid hpk
          have zb := lt_of_cell c0
          have gi1 : decide ((l.length : Int) ≤ (i : Int)) = false := by rw [decide_eq_false_iff_not]; omega
          have gi2 : (i : Int) < (l.length : Int) := by omega
          have gi3 : (0 : Int) ≤ (i : Int) := by omega
          clear hpk
          go_upto_region 14 with (fail)
          obtain ⟨W, hW⟩ : ∃ W, W = wr.alloc (.cells #[.int .i64 x.lsn, .int .i64 x.kind, .int .i64 x.txn, .int .i64 x.prev, .int .i64 x.next, .int .i64 x.page, .int .i64 x.off, .slice x.ob x.bs.length x.cb, .slice x.oa x.es.length x.ca, .slice x.ot x.ts.length x.ct, .slice x.od x.ds.length x.cd, .int .i64 x.cnt] 34) := ⟨_, rfl⟩
          have gW : Gr wr W := by rw [hW]; exact (Gr.refl _).alloc _
          have n0 : W.cell? ⟨wr.heap.size, 0, none⟩ = some (.int .i64 x.lsn) := by rw [hW]; go_simp
          have n1 : W.cell? ⟨wr.heap.size, 1, none⟩ = some (.int .i64 x.kind) := by rw [hW]; go_simp
          have n2 : W.cell? ⟨wr.heap.size, 2, none⟩ = some (.int .i64 x.txn) := by rw [hW]; go_simp
          have n3 : W.cell? ⟨wr.heap.size, 3, none⟩ = some (.int .i64 x.prev) := by rw [hW]; go_simp
          have n4 : W.cell? ⟨wr.heap.size, 4, none⟩ = some (.int .i64 x.next) := by rw [hW]; go_simp
          have n5 : W.cell? ⟨wr.heap.size, 5, none⟩ = some (.int .i64 x.page) := by rw [hW]; go_simp
          have n6 : W.cell? ⟨wr.heap.size, 6, none⟩ = some (.int .i64 x.off) := by rw [hW]; go_simp
          have n7 : W.cell? ⟨wr.heap.size, 7, none⟩ = some (.slice x.ob x.bs.length x.cb) := by rw [hW]; go_simp
          have n8 : W.cell? ⟨wr.heap.size, 8, none⟩ = some (.slice x.oa x.es.length x.ca) := by rw [hW]; go_simp
          have n9 : W.cell? ⟨wr.heap.size, 9, none⟩ = some (.slice x.ot x.ts.length x.ct) := by rw [hW]; go_simp
          have n10 : W.cell? ⟨wr.heap.size, 10, none⟩ = some (.slice x.od x.ds.length x.cd) := by rw [hW]; go_simp
          have n11 : W.cell? ⟨wr.heap.size, 11, none⟩ = some (.int .i64 x.cnt) := by rw [hW]; go_simp
          have TX : Ty 34 W wr.heap.size := by rw [hW]; exact Ty.new _ _ _
          rw [← hW]
          clear hW c0 c1 c2 c3 c4 c5 c6 c7 c8 c9 c10 c11 zb
          have GW := hg.trans gW
          have HSW := hid (HS.out.keep gW)
          have HOW := hid (own_keep HO.out gW)
          have zx := lt_of_cell n0
          have hbx : bm < wr.heap.size := by
            obtain ⟨D, ⟨es, clock, hb, _⟩, _⟩ := HS.out.ex
            exact (Array.getElem?_eq_some_iff.1 hb).1
          clear HS HO gW hg
          generalize wr.heap.size = xb at *
          have AT := hid (dat (some ⟨b, off, none⟩) cd ds x.page W (by omega) (HD.out.keep GW))
          have hix := idx_bd (p := fun d : Dy => d.page == x.page) ds 0
          obtain ⟨sk, hsk⟩ : ∃ q, skipR ds a x = q := ⟨_, rfl⟩
          have hsk2 := hsk
          unfold skipR at hsk2
          obtain ⟨ix, hixe⟩ : ∃ q, idxB (fun d : Dy => d.page == x.page) ds 0 = q := ⟨_, rfl⟩
          rw [hixe] at hsk2 hix AT
          have HIX := hid hix
          have HSK := hid hsk
          have HSK2 := hid hsk2
          clear hix hsk hsk2 hixe
          go_wp2_with fail
          refine AT.out.mono ?_
          rintro e w3 ⟨rfl, hg3⟩
          have n0 := hg3.keep n0
          have n1 := hg3.keep n1
          have n2 := hg3.keep n2
          have n3 := hg3.keep n3
          have n4 := hg3.keep n4
          have n5 := hg3.keep n5
          have n6 := hg3.keep n6
          have n7 := hg3.keep n7
          have n8 := hg3.keep n8
          have n9 := hg3.keep n9
          have n10 := hg3.keep n10
          have n11 := hg3.keep n11
          have TX := TX.gr hg3
          have G3 := GW.trans hg3
          have HS3 := hid (HSW.out.keep hg3)
          have HO3 := hid (own_keep HOW.out hg3)
          have zx := lt_of_cell n0
          have HD3 := hid (HD.out.keep G3)
          have CH := fun W' => change_any x.kind x.txn x.prev x.next x.page x.off x.cnt (.slice x.ob x.bs.length x.cb) (.slice x.oa x.es.length x.ca) (.slice x.ot x.ts.length x.ct) (.slice x.od x.ds.length x.cd) W'
          clear HSW HOW AT GW hg3
          generalize chB x.kind = ch at *
          go_upto_region 15 with (fail)
          go_cut [70] from 47 to 70 (fun s70 wx => s70 = .bool sk ∧ Gr w3 wx)
          case first =>
            cases ch
            · have hb : sk = true := by rw [← HSK2.out]; rfl
              subst hb
              go_upto_region 15 with (fail)
              refine Rg.region_facts (W := w3) 23 [] [] [] (fun _ => false) []
                [some (.pointer (some ⟨xb, 1, none⟩)), some (.agg #[.int .i64 x.kind, .int .i64 x.txn, .int .i64 x.prev, .int .i64 x.next, .int .i64 x.page, .int .i64 x.off, .slice x.ob x.bs.length x.cb, .slice x.oa x.es.length x.ca, .slice x.ot x.ts.length x.ct, .slice x.od x.ds.length x.cd, .int .i64 x.cnt]), some (.bool false), some (.bool true), some (.bool true), some undef, some undef, some undef, some undef, some (.bool true), some (.bool true), some undef, some undef, some (.bool true), some (.bool true), some undef, some undef, some undef, some undef, some undef, some undef, some undef, some undef]
                (Below.drew (Below.refl _ _)) (by kernel_rfl) (by kernel_rfl) trivial (fun _ _ _ _ h _ => h) (fun _ _ d _ _ h => by cases d <;> exact h) ?_
              intro v
              simp only [List.take_succ_cons, List.take_zero, Rg.wpF, Option.getD_some, Option.getD_none, Act.put, List.setIfInBounds_toArray, List.set_cons_zero, List.set_cons_succ]
              refine ⟨?_, ?_, ?_, ?_, ?_, ?_, ?_, ?_, ?_, ?_, ?_, ?_, ?_, ?_, ?_, ?_, ?_, ?_, ?_, ?_, ?_, ?_, ?_, ?_⟩
              all_goals first
                | exact sf_off (by rfl) (by rfl)
                | (refine sf_det (by rfl) (by rfl) (fun w' hS hF => ?_)
                   have hc := Gr.cells hS
                   have hf := Gr.frees hS
                   go_simp
                   first
                   | exact Below.refl _ _
                   | (refine ⟨?_, Below.refl _ _⟩; with_reducible rfl)
                   | ((with_reducible refine (CH _).mono ?_)
                      rintro e w'' ⟨rfl, hg⟩
                      exact ⟨rfl, hg⟩))
                | skip
              intro w6 hK
              have hup : Gr w3 w6 := hK.up
              clear hK
              simp only [List.drop_succ_cons, List.drop_zero]
              go_wp2
              go_meet
              exact ⟨rfl, hup⟩
            · by_cases ql : x.lsn < a
              · have gl : decide (x.lsn < a) = true := by simpa using ql
                have hb : sk = true := by rw [← HSK2.out, gl]; rfl
                subst hb
                go_upto_region 15 with (fail)
                refine Rg.region_facts (W := w3) 23 [] [] [] (fun _ => false) []
                  [some (.pointer (some ⟨xb, 1, none⟩)), some (.agg #[.int .i64 x.kind, .int .i64 x.txn, .int .i64 x.prev, .int .i64 x.next, .int .i64 x.page, .int .i64 x.off, .slice x.ob x.bs.length x.cb, .slice x.oa x.es.length x.ca, .slice x.ot x.ts.length x.ct, .slice x.od x.ds.length x.cd, .int .i64 x.cnt]), some (.bool true), some (.bool false), some (.bool false), some (.pointer (some ⟨xb, 0, none⟩)), some (.int .i64 x.lsn), some (.int .i64 a), some (.bool true), some (.bool true), some (.bool true), some undef, some undef, some (.bool true), some (.bool true), some undef, some undef, some undef, some undef, some undef, some undef, some undef, some undef]
                  (Below.drew (Below.refl _ _)) (by kernel_rfl) (by kernel_rfl) trivial (fun _ _ _ _ h _ => h) (fun _ _ d _ _ h => by cases d <;> exact h) ?_
                intro v
                simp only [List.take_succ_cons, List.take_zero, Rg.wpF, Option.getD_some, Option.getD_none, Act.put, List.setIfInBounds_toArray, List.set_cons_zero, List.set_cons_succ]
                refine ⟨?_, ?_, ?_, ?_, ?_, ?_, ?_, ?_, ?_, ?_, ?_, ?_, ?_, ?_, ?_, ?_, ?_, ?_, ?_, ?_, ?_, ?_, ?_, ?_⟩
                all_goals first
                  | exact sf_off (by rfl) (by rfl)
                  | (refine sf_det (by rfl) (by rfl) (fun w' hS hF => ?_)
                     have hc := Gr.cells hS
                     have hf := Gr.frees hS
                     go_simp
                     first
                     | exact Below.refl _ _
                     | (refine ⟨?_, Below.refl _ _⟩; with_reducible rfl)
                     | ((with_reducible refine (CH _).mono ?_)
                        rintro e w'' ⟨rfl, hg⟩
                        exact ⟨rfl, hg⟩))
                  | skip
                intro w6 hK
                have hup : Gr w3 w6 := hK.up
                clear hK
                simp only [List.drop_succ_cons, List.drop_zero]
                go_wp2
                go_meet
                exact ⟨rfl, hup⟩
              · have gl : decide (x.lsn < a) = false := by simpa using ql
                by_cases qx : ix < 0
                · have gx : decide (ix < 0) = true := by simpa using qx
                  have hb : sk = true := by rw [← HSK2.out, gl, gx]; rfl
                  subst hb
                  go_upto_region 15 with (fail)
                  refine Rg.region_facts (W := w3) 23 [] [] [] (fun _ => false) []
                    [some (.pointer (some ⟨xb, 1, none⟩)), some (.agg #[.int .i64 x.kind, .int .i64 x.txn, .int .i64 x.prev, .int .i64 x.next, .int .i64 x.page, .int .i64 x.off, .slice x.ob x.bs.length x.cb, .slice x.oa x.es.length x.ca, .slice x.ot x.ts.length x.ct, .slice x.od x.ds.length x.cd, .int .i64 x.cnt]), some (.bool true), some (.bool false), some (.bool false), some (.pointer (some ⟨xb, 0, none⟩)), some (.int .i64 x.lsn), some (.int .i64 a), some (.bool false), some (.bool false), some (.bool false), some (.int .i64 ix), some (.bool true), some (.bool true), some (.bool true), some undef, some undef, some undef, some undef, some undef, some undef, some undef, some undef]
                    (Below.drew (Below.refl _ _)) (by kernel_rfl) (by kernel_rfl) trivial (fun _ _ _ _ h _ => h) (fun _ _ d _ _ h => by cases d <;> exact h) ?_
                  intro v
                  simp only [List.take_succ_cons, List.take_zero, Rg.wpF, Option.getD_some, Option.getD_none, Act.put, List.setIfInBounds_toArray, List.set_cons_zero, List.set_cons_succ]
                  refine ⟨?_, ?_, ?_, ?_, ?_, ?_, ?_, ?_, ?_, ?_, ?_, ?_, ?_, ?_, ?_, ?_, ?_, ?_, ?_, ?_, ?_, ?_, ?_, ?_⟩
                  all_goals first
                    | exact sf_off (by rfl) (by rfl)
                    | (refine sf_det (by rfl) (by rfl) (fun w' hS hF => ?_)
                       have hc := Gr.cells hS
                       have hf := Gr.frees hS
                       go_simp
                       first
                       | exact Below.refl _ _
                       | (refine ⟨?_, Below.refl _ _⟩; with_reducible rfl)
                       | ((with_reducible refine (CH _).mono ?_)
                          rintro e w'' ⟨rfl, hg⟩
                          exact ⟨rfl, hg⟩))
                    | skip
                  intro w6 hK
                  have hup : Gr w3 w6 := hK.up
                  clear hK
                  simp only [List.drop_succ_cons, List.drop_zero]
                  go_wp2
                  go_meet
                  exact ⟨rfl, hup⟩
                · have gx : decide (ix < 0) = false := by simpa using qx
                  obtain ⟨k, rfl⟩ : ∃ k : Nat, ix = (k : Int) := ⟨ix.toNat, by omega⟩
                  have hk : k < ds.length := by
                    rcases HIX.out with h | ⟨k', hk', h, _⟩
                    · omega
                    · omega
                  obtain ⟨b9, off9, e9, k0, k1⟩ := d_get HD3.out k hk
                  cases e9
                  have hb := HSK2.out
                  rw [gl, gx, Int.toNat_natCast, List.getElem?_eq_getElem hk] at hb
                  have hb : decide (x.lsn < ds[k].lsn) = sk := hb
                  have gk1 : decide ((ds.length : Int) ≤ (k : Int)) = false := by rw [decide_eq_false_iff_not]; omega
                  have gk2 : (k : Int) < (ds.length : Int) := by omega
                  have gk3 : (0 : Int) ≤ (k : Int) := by omega
                  have zk := lt_of_cell k0
                  generalize ds[k].page = pk at *
                  generalize ds[k].lsn = dk at *
                  by_cases qd : x.lsn < dk
                  · have gd : decide (x.lsn < dk) = true := by simpa using qd
                    have hb : sk = true := by rw [← hb, gd]
                    subst hb
                    go_upto_region 15 with (fail)
                    refine Rg.region_facts (W := w3) 23 [] [] [] (fun _ => false) []
                      [some (.pointer (some ⟨xb, 1, none⟩)), some (.agg #[.int .i64 x.kind, .int .i64 x.txn, .int .i64 x.prev, .int .i64 x.next, .int .i64 x.page, .int .i64 x.off, .slice x.ob x.bs.length x.cb, .slice x.oa x.es.length x.ca, .slice x.ot x.ts.length x.ct, .slice x.od x.ds.length x.cd, .int .i64 x.cnt]), some (.bool true), some (.bool false), some (.bool false), some (.pointer (some ⟨xb, 0, none⟩)), some (.int .i64 x.lsn), some (.int .i64 a), some (.bool false), some (.bool false), some (.bool false), some (.int .i64 (k : Int)), some (.bool false), some (.bool false), some (.bool false), some (.slice (some ⟨b, off, none⟩) ds.length cd), some (.int .i64 (k : Int)), some (.pointer (some ⟨b, off + k * 2, none⟩)), some (.pointer (some ⟨b, off + k * 2 + 1, none⟩)), some (.int .i64 dk), some (.pointer (some ⟨xb, 0, none⟩)), some (.int .i64 x.lsn), some (.bool true)]
                      (Below.drew (Below.refl _ _)) (by kernel_rfl) (by kernel_rfl) trivial (fun _ _ _ _ h _ => h) (fun _ _ d _ _ h => by cases d <;> exact h) ?_
                    intro v
                    simp only [List.take_succ_cons, List.take_zero, Rg.wpF, Option.getD_some, Option.getD_none, Act.put, List.setIfInBounds_toArray, List.set_cons_zero, List.set_cons_succ]
                    refine ⟨?_, ?_, ?_, ?_, ?_, ?_, ?_, ?_, ?_, ?_, ?_, ?_, ?_, ?_, ?_, ?_, ?_, ?_, ?_, ?_, ?_, ?_, ?_, ?_⟩
                    all_goals first
                      | exact sf_off (by rfl) (by rfl)
                      | (refine sf_det (by rfl) (by rfl) (fun w' hS hF => ?_)
                         have hc := Gr.cells hS
                         have hf := Gr.frees hS
                         go_simp
                         first
                         | exact Below.refl _ _
                         | (refine ⟨?_, Below.refl _ _⟩; with_reducible rfl)
                         | ((with_reducible refine (CH _).mono ?_)
                            rintro e w'' ⟨rfl, hg⟩
                            exact ⟨rfl, hg⟩))
                      | skip
                    intro w6 hK
                    have hup : Gr w3 w6 := hK.up
                    clear hK
                    simp only [List.drop_succ_cons, List.drop_zero]
                    go_wp2
                    go_meet
                    exact ⟨rfl, hup⟩
                  · have gd : decide (x.lsn < dk) = false := by simpa using qd
                    have hb : sk = false := by rw [← hb, gd]
                    subst hb
                    go_upto_region 15 with (fail)
                    refine Rg.region_facts (W := w3) 23 [] [] [] (fun _ => false) []
                      [some (.pointer (some ⟨xb, 1, none⟩)), some (.agg #[.int .i64 x.kind, .int .i64 x.txn, .int .i64 x.prev, .int .i64 x.next, .int .i64 x.page, .int .i64 x.off, .slice x.ob x.bs.length x.cb, .slice x.oa x.es.length x.ca, .slice x.ot x.ts.length x.ct, .slice x.od x.ds.length x.cd, .int .i64 x.cnt]), some (.bool true), some (.bool false), some (.bool false), some (.pointer (some ⟨xb, 0, none⟩)), some (.int .i64 x.lsn), some (.int .i64 a), some (.bool false), some (.bool false), some (.bool false), some (.int .i64 (k : Int)), some (.bool false), some (.bool false), some (.bool false), some (.slice (some ⟨b, off, none⟩) ds.length cd), some (.int .i64 (k : Int)), some (.pointer (some ⟨b, off + k * 2, none⟩)), some (.pointer (some ⟨b, off + k * 2 + 1, none⟩)), some (.int .i64 dk), some (.pointer (some ⟨xb, 0, none⟩)), some (.int .i64 x.lsn), some (.bool false)]
                      (Below.drew (Below.refl _ _)) (by kernel_rfl) (by kernel_rfl) trivial (fun _ _ _ _ h _ => h) (fun _ _ d _ _ h => by cases d <;> exact h) ?_
                    intro v
                    simp only [List.take_succ_cons, List.take_zero, Rg.wpF, Option.getD_some, Option.getD_none, Act.put, List.setIfInBounds_toArray, List.set_cons_zero, List.set_cons_succ]
                    refine ⟨?_, ?_, ?_, ?_, ?_, ?_, ?_, ?_, ?_, ?_, ?_, ?_, ?_, ?_, ?_, ?_, ?_, ?_, ?_, ?_, ?_, ?_, ?_, ?_⟩
                    all_goals first
                      | exact sf_off (by rfl) (by rfl)
                      | (refine sf_det (by rfl) (by rfl) (fun w' hS hF => ?_)
                         have hc := Gr.cells hS
                         have hf := Gr.frees hS
                         go_simp
                         first
                         | exact Below.refl _ _
                         | (refine ⟨?_, Below.refl _ _⟩; with_reducible rfl)
                         | ((with_reducible refine (CH _).mono ?_)
                            rintro e w'' ⟨rfl, hg⟩
                            exact ⟨rfl, hg⟩))
                      | skip
                    intro w6 hK
                    have hup : Gr w3 w6 := hK.up
                    clear hK
                    simp only [List.drop_succ_cons, List.drop_zero]
                    go_wp2
                    go_meet
                    exact ⟨rfl, hup⟩
          case rest =>
            obtain ⟨rfl, hgc⟩ := hcut
            have n0 := hgc.keep n0
            have n5 := hgc.keep n5
            have TX := TX.gr hgc
            have zx := lt_of_cell n0
            have HS4 := hid (HS3.out.keep hgc)
            have HO4 := hid (own_keep HO3.out hgc)
            have G4 := G3.trans hgc
            clear n1 n2 n3 n4 n6 n7 n8 n9 n10 n11 CH HS3 HO3 HD3 HIX HSK2 hgc
            cases sk
            rotate_left
            · have hs : stepR ds a gf s x = s := by unfold stepR; rw [if_pos HSK.out]
              have FI : Hid (R2Rel w bm l ds a gf R u11 (.int .i64 ((i : Int) + 1)) wc) := hid ⟨i + 1, s, by go_num, by omega, G4, ⟨by obtain ⟨D, q1, q2, q3⟩ := HS4.out.ex; exact ⟨D, q1.mono (Nat.le_succ _), q2, q3⟩⟩, HO4.out, by omega, by rw [← hst.out, hs]⟩
              clear hs HS4 HO4
              go_wp2
              exact ⟨FI.out, by simp [intOf]; omega⟩
            · obtain ⟨D, hD1, hD2, hD3⟩ := HS4.out.ex
              obtain ⟨M, hM⟩ : ∃ M, (s.f x.page).getD 0 = M := ⟨_, rfl⟩
              obtain ⟨okb, hokb⟩ : ∃ q, (s.f x.page).isSome = q := ⟨_, rfl⟩
              have hat0 := hD3 x.page HPK.out.1
              rw [hM, hokb] at hat0
              have HDX := hid hat0
              have HD1 := hid hD1
              have HDP := hid (⟨hD2, hD3⟩ : IsMap D ∧ _)
              have hs0 : Hid (∀ N, (if okb = true then M else gf x.page) = N → stepR ds a gf s x = if N < x.lsn then ⟨upI s.f x.page x.lsn, s.out ++ [x.lsn]⟩ else ⟨upI s.f x.page N, s.out⟩) := hid (by
                intro N hN
                unfold stepR
                rw [if_neg (by rw [HSK.out]; simp), ← hN, ← hokb, ← hM]
                cases s.f x.page <;> rfl)
              clear hat0 hD1 hD2 hD3 hM hokb HS4 HSK
              go_upto_region 17 with (at_lookup; refine wpList_lookup_own_ok_int _ rfl _ _ 76 rfl 3 3 .i64 ilaw Try.underlying76 Try.underlying3 (izero _) bm i D rfl HD1.out _ _ rfl (keyOf_int_mk Try.underlying3 HPK.out.1) ?_; intro c0 hat hwc)
              have hcN : c0 = M := by have := HDX.out.2; rw [hat] at this; cases this; rfl
              subst hcN
              rw [HDX.out.1]
              obtain ⟨c, hcE⟩ : ∃ N, (if okb = true then c0 else gf x.page) = N := ⟨_, rfl⟩
              have hs := hid (hs0.out c hcE)
              have hwc2 : okI c := by
                rw [← hcE]; split
                · exact hwc
                · exact LOK.out _
              have HCE := hid hcE
              obtain ⟨nb, hnb⟩ : ∃ q, (!okb) = q := ⟨_, rfl⟩
              have HNB := hid hnb
              have NF := fun W => nff gp W
              clear hcE hs0 hnb
              go_cut [84] from 79 to 84 (fun s84 wx => s84 = .bool nb ∧ wx = wc)
              case first =>
                have hn := HNB.out
                cases okb
                · have hn : true = nb := hn
                  subst hn
                  go_wp2; go_meet; exact ⟨rfl, rfl⟩
                · have hn : false = nb := hn
                  subst hn
                  go_wp2; go_meet; exact ⟨rfl, rfl⟩
              case rest =>
                rename_i wc2
                obtain ⟨rfl, hw⟩ := hcut
                subst hw
                clear NF
                go_upto_if 84 with (fail)
                have LSX := hid (fun W hW => LS.out x.page W hW)
                obtain ⟨gx, hgx⟩ : ∃ q, gf x.page = q := ⟨_, rfl⟩
                have LSY : Hid (∀ W, Gr w W → Calls Try.prog 35 #[.int .i64 x.page, .pointer (some ⟨gp, 0, none⟩)] W fun e w' => e = .returned (.int .i64 gx) ∧ Gr W w') := hid (by rw [← hgx]; exact LSX.out)
                have HCE2 : Hid ((if okb = true then c0 else gx) = c) := hid (by rw [← hgx]; exact HCE.out)
                clear LSX HCE hgx
                go_cut [15] from 85 to 89 (fun s15 wx => s15 = .int .i64 c ∧ Gr wc wx)
                case first =>
                  have hn := HNB.out
                  have hc2 := HCE2.out
                  cases okb
                  · have hn : true = nb := hn
                    have hc2 : gx = c := hc2
                    subst hn
                    subst hc2
                    have CL := LSY.out wc G4
                    go_wp2_with fail
                    refine CL.mono ?_
                    rintro e w6 ⟨rfl, hg6⟩
                    go_wp2
                    go_meet
                    exact ⟨rfl, hg6⟩
                  · have hn : false = nb := hn
                    have hc2 : c0 = c := hc2
                    subst hn
                    have HC2 := hid hc2
                    clear hc2
                    go_wp2
                    go_meet
                    exact ⟨by rw [HC2.out], Gr.refl _⟩
                case rest =>
                obtain ⟨rfl, hgd⟩ := hcut
                have n0 := hgd.keep n0
                have n5 := hgd.keep n5
                have TX := TX.gr hgd
                have zx := lt_of_cell n0
                have HD1 := hid (HD1.out.kept (hgd.only none) (by simp))
                have HO4 := hid (own_keep HO4.out hgd)
                have G4 := G4.trans hgd
                have hwc := hwc2
                clear hgd LSY HCE2 HNB hwc2
                obtain ⟨bq, hbq⟩ : ∃ q, decide (c < x.lsn) = q := ⟨_, rfl⟩
                obtain ⟨N2, hN2⟩ : ∃ q, (if c < x.lsn then x.lsn else c) = q := ⟨_, rfl⟩
                obtain ⟨O2, hO2⟩ : ∃ q, (if c < x.lsn then s.out ++ [x.lsn] else s.out) = q := ⟨_, rfl⟩
                have hs2 : Hid (stepR ds a gf s x = ⟨upI s.f x.page N2, O2⟩) := hid (by
                  rw [hs.out, ← hN2, ← hO2]; split <;> rfl)
                have HBQ := hid hbq
                have HN2 := hid hN2
                have HO2 := hid hO2
                have hO2l : O2.length ≤ i + 1 := by rw [← hO2]; split <;> first | omega | (simp; omega)
                have hN2k : okI N2 := by
                  rw [← hN2]; split
                  · exact HPK.out.2
                  · exact hwc
                clear hN2 hO2 hs
                go_upto_if 93 with (fail)
                have hwb := G4.size
                obtain ⟨i0, hi0, hz0, hz1, hz2⟩ := info_parts i_info
                go_cut [11, 15] from 94 to 100 (fun s11 s15 wx => s15 = .int .i64 N2 ∧ Hid (wx.ownsRow w.heap.size 3 1 s11 O2.length (cellsF iF O2)) ∧ Hid (Gz u11 wc wx))
                case first =>
                  cases bq
                  · have q : ¬ c < x.lsn := by simpa using HBQ.out
                    have e1 : c = N2 := by have := HN2.out; rwa [if_neg q] at this
                    have e2 : s.out = O2 := by have := HO2.out; rwa [if_neg q] at this
                    have HE1 := hid e1
                    have HE2 := hid e2
                    clear e1 e2 q
                    go_wp2
                    go_meet
                    exact ⟨by rw [HE1.out], hid (by rw [← HE2.out]; exact HO4.out), hid (Gz.refl _ _)⟩
                  · have q : c < x.lsn := by simpa using HBQ.out
                    have e1 : x.lsn = N2 := by have := HN2.out; rwa [if_pos q] at this
                    have e2 : s.out ++ [x.lsn] = O2 := by have := HO2.out; rwa [if_pos q] at this
                    have HE1 := hid e1
                    have HE2 := hid e2
                    clear e1 e2 q
                    go_wp2_with (at_builtin; refine wpList_append_own _ rfl _ _ 38 rfl w.heap.size 3 i0 (.int .i64 0) 1 8 Try.underlying38 hi0 hz0 hz1 hz2 rfl (by decide) _ _ _ rfl (HO4.out.alloc _) ⟨wc.heap.size, 0, none⟩ 1 1 (iF x.lsn) rfl rfl ?mc1 ?mc2 ?mc3 ?mc4 ?mc5 ?_)
                    case mc1 =>
                      intro q u hu
                      first
                      | (rw [addN, Nat.zero_add, Rg.blk_cells (heap_alloc_new _ _) q]; simpa [iF] using hu)
                      | simpa [iF] using hu
                    case mc2 => exact iE.one _
                    case mc3 => unfold maxLen; omega
                    case mc4 => omega
                    case mc5 => first | omega | (simp; omega)
                    intro v' w7 hown hg7 _
                    have HO7 : Hid (w7.ownsRow w.heap.size 3 1 v' O2.length (cellsF iF O2)) := hid (by rw [← HE2.out, List.length_append, cellsF_snoc]; exact hown)
                    have HG7 : Hid (Gz u11 wc w7) := hid (Gz.trans (.of ((Gr.refl _).alloc _)) hg7)
                    have n0 : w7.cell? ⟨xb, 0, none⟩ = some (.int .i64 x.lsn) := HG7.out.cell n0 (fun g' hg' e => TX.ne HO4.out (by decide) (by rw [hg', e]))
                    have zx := lt_of_cell n0
                    clear hown hg7
                    go_wp2
                    go_meet
                    exact ⟨by rw [HE1.out], HO7, HG7⟩
                case rest =>
                  obtain ⟨rfl, HO5, HG5⟩ := hcut
                  have n0 := HG5.out.cell n0 (fun g' hg' e => TX.ne HO4.out (by decide) (by rw [hg', e]))
                  have n5 := HG5.out.cell n5 (fun g' hg' e => TX.ne HO4.out (by decide) (by rw [hg', e]))
                  have zx := lt_of_cell n0
                  have S4 : Sn _ bm i s.f := ⟨D, HD1.out, HDP.out.1, HDP.out.2⟩
                  have S5 := S4.kept HG5.out (S4.ne HO4.out)
                  have HDm := hid (HD1.out.kept HG5.out (S4.ne HO4.out))
                  have HP := hid (putOk (n := N2) HDP.out.1 HDP.out.2 HPK.out.1)
                  have GU5 := Gz.up G4 HG5.out HO4.out
                  have HNE := hid (S5.ne HO5.out)
                  have HNK := hid hN2k
                  clear S4 S5 HG5 HO4 HD1 HDP G4 HBQ HN2 HO2 hN2k hbq TX
                  go_wp2_with (at_mapUpdate; refine wpList_mapUpdate_own _ rfl _ _ _ 76 rfl 3 3 ilaw Try.underlying76 _ bm i D rfl HDm.out (by unfold maxLen; omega) _ _ _ rfl rfl (keyOf_int_mk Try.underlying3 HPK.out.1) _ [] (plainElem_int Try.underlying3 HNK.out) ?_; intro w1 hown1 hgrow1)
                  exact ⟨⟨i + 1, ⟨upI s.f x.page N2, O2⟩, by go_num, by omega, GU5.grown hgrow1 (fun b hb => by cases hb; exact hbm), ⟨_, hown1, HP.out.1, HP.out.2⟩, HO5.out.kept hgrow1 (.inr fun e => HNE.out e.symm), hO2l, by rw [← hst.out, hs2.out]⟩, by simp [intOf]; omega⟩
        · obtain rfl : i = l.length := by omega
          have hsR : s.out = R := by rw [← HR.out, List.drop_length]; rfl
          obtain ⟨oa, c, e, hat, hc, _⟩ := own_at iE HO.out
          subst e
          have HX : Hid (IAt wr oa R) := hid (by rw [← hsR]; exact hat)
          have hcl : s.out.length = R.length := by rw [hsR]
          have CL := fun W => iclip oa R.length c W (by rw [← hcl]; exact hc)
          clear hat HO HR HS
          go_wp2_with fail
          refine (CL _).mono ?_
          rintro e w' ⟨rfl, rfl⟩
          go_wp2
          go_ret
          exact ⟨oa, rfl, HX.out, hg⟩
end Go.Proofs.Ytmanokhadppeeaa

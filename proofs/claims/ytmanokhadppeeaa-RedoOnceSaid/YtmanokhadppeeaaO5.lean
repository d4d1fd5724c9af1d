/- redo: the walk of RedoOnce. -/
import Derived.Test.YtmanokhadppeeaaOv
import Derived.Test.YtmanokhadppeeaaW4
import Derived.BigQuiet
namespace Go.Proofs.Ytmanokhadppeeaa
open Go.RowKit Go.Maps
set_option linter.unusedSimpArgs false
set_option linter.unusedVariables false
attribute [local go_sem] Rg.leads_value Rg.leads_skip Rg.leads_enter Rg.brings_value Rg.brings_skip Rg.brings_enter Rg.bringsG_value Rg.bringsG_enter
/-- the open updates and the commits, from the log's end down to a place -/
def O5a (w3 : World) (L : List Ln) (s8 s9 s10 : Value) (wr : World) : Prop := ∃ (n : Nat) (A : List Int) (m : Int), s10 = .int .i64 m ∧ m = (n : Int) - 1 ∧ n ≤ L.length ∧ s8 = .int .i64 (cmtC (L.drop n) : Int) ∧ A ++ openTo L n = openTo L L.length ∧ A.length ≤ L.length - n ∧ Gr w3 wr ∧ wr.ownsRow w3.heap.size 3 1 s9 A.length (cellsF iF A) ∧ ∀ a ∈ A, 0 ≤ a ∧ a < (L.length : Int)
/-- the scan behind an update -/
def O5b (wA : World) (L : List Ln) (n : Nat) (r : Ln) (s12 s13 s14 : Value) (wr : World) : Prop := ∃ (k : Nat) (b : Bool) (g : Nat), s12 = .bool b ∧ s13 = .int .i64 (g : Int) ∧ s14 = .int .i64 (k : Int) ∧ n < k ∧ k ≤ L.length ∧ g ≤ k ∧ (b || (L.drop k).any fun x => (x.kind == 4) && (x.txn == r.txn)) = wonB L n r ∧ g + ((L.drop k).filter fun x => (x.kind == 3) && (x.txn == r.txn) && decide (x.next < r.lsn)).length = goneN L n r ∧ Gr wA wr
/-- Undo's records against the open list -/
def O5c (wA : World) (s : List Oc) (O : List Int) (L : List Ln) (N : Nat) (s16 s17 s18 : Value) (wr : World) : Prop := ∃ j at' en : Nat, s18 = .int .i64 (j : Int) ∧ s16 = .int .i64 (at' : Int) ∧ s17 = .int .i64 (en : Int) ∧ j ≤ s.length ∧ at' ≤ O.length ∧ ((s.drop j).filter fun o => o.kind == 3) = (O.drop at').map (clrO L) ∧ en + ((s.drop j).filter fun o => o.kind == 6).length = N ∧ Gr wA wr
/-- the losers counted -/
def O5d (wA : World) (TS : List Tx) (s20 s21 : Value) (wr : World) : Prop := ∃ j n : Nat, s21 = .int .i64 (j : Int) ∧ s20 = .int .i64 (n : Int) ∧ j ≤ TS.length ∧ n + losN (TS.drop j) = losN TS ∧ Gr wA wr
set_option maxHeartbeats 16000000 in
set_option maxRecDepth 100000 in
theorem once_walk (os : Option Addr) (cs : Nat) (steps : List Sp) (w : World) (hl : steps.length ≤ 9223372036854775807) (hS : StAt w os steps) :
    Calls Try.prog 5 #[.slice os steps.length cs] w (Yes w) := by
  have HIC := hid (hist_call os cs steps w hl hS)
  clear hS
  go_enter Try.func5, Try.ntmps5
  go_wp2_with fail
  refine HIC.out.mono ?_
  rintro e w1 ⟨o7, c7, L, rfl, hN⟩
  have hLg : ∀ x ∈ L, GL x ∧ 0 < x.lsn := fun x hx => ⟨(hN.g x hx).gl, (hN.g x hx).lsn⟩
  have hLb : ∀ x ∈ L, GL x ∧ x.lsn ≤ 600 := fun x hx => ⟨(hN.g x hx).gl, by
    obtain ⟨i, hi, rfl⟩ := List.getElem_of_mem hx
    have := hN.lsn i hi
    have := hN.len
    omega⟩
  have hTI := TI.all (fun x hx => (hLg x hx).1)
  have AN := analyze_any o7 c7 L w1 hN.at' (by have := hN.len; omega) (fun x hx => by rw [(hN.b x hx).t, (hN.b x hx).d]; exact ⟨Nat.zero_le _, Nat.zero_le _⟩) (by have := hTI.tsl; omega) (by have := hTI.dsl; omega)
  have hperm := sort_perm (fun x : Tx => x.id) (anR L).ts
  have htl : (sortF (fun x : Tx => x.id) (anR L).ts).length = (anR L).ts.length := sort_len _ _ _ _
  have hmu := mu_small hLb hperm
  have hn := n_all (L := L) (by have := hN.len; omega) (fun x hx => (hLg x hx).1)
  have hplain : (undoAll L (sortF (fun x : Tx => x.id) (anR L).ts)).filter (fun o => o.kind == 3) = (openTo L L.length).map (clrO L) ∧ ((undoAll L (sortF (fun x : Tx => x.id) (anR L).ts)).filter fun o => o.kind == 6).length = losN (sortF (fun x : Tx => x.id) (anR L).ts) ∧ ∀ o ∈ undoAll L (sortF (fun x : Tx => x.id) (anR L).ts), o.kind = 3 ∨ o.kind = 6 := by
    obtain ⟨zs, hL, hz⟩ := hN.log
    have HO := OI.fold (steps.take 60) 0 h0 OI.zero'
    have HE := EI.fold (steps.take 60) 0 h0 EI.zero OI.zero'
    subst hL
    exact once_plain hz HO HE hLg hperm
  have UN : ∀ W ot ct, Gr w1 W → TAt W ot (sortF (fun x : Tx => x.id) (anR L).ts) → Calls Try.prog 15 #[.slice o7 L.length c7, .slice ot (sortF (fun x : Tx => x.id) (anR L).ts).length ct] W (UndoP W (undoAll L (sortF (fun x : Tx => x.id) (anR L).ts))) := by
    intro W ot ct hW hT
    exact undo_any o7 c7 L ot ct _ W (by have := hN.len; omega) (hN.at'.keep hW) (fun x hx => by have := hN.bl x hx; omega) (by have := hTI.tsl; omega) hT (by omega)
  rw [← htl, hn] at AN
  have hts4 : (sortF (fun x : Tx => x.id) (anR L).ts).length ≤ 4 := by have := hTI.tsl; omega
  obtain ⟨p3, p6, pk⟩ := hplain
  have HAN := hid AN
  have HUN := hid UN
  have HNO := hid hN
  have P3 := hid p3
  have P6 := hid p6
  have PK := hid pk
  have hL60 : L.length ≤ 60 := hN.len
  clear AN UN p3 p6 pk hn hmu hperm htl hTI hLg hLb hN HIC
  generalize sortF (fun x : Tx => x.id) (anR L).ts = TS at *
  generalize undoAll L TS = s at *
  obtain ⟨dl, hdl⟩ : ∃ q, (anR L).ds.length = q := ⟨_, rfl⟩
  rw [hdl] at HAN
  go_wp2_with fail
  refine HAN.out.mono ?_
  rintro e w2 ⟨ot, ct, od, cd, rfl, hT, -, hg2⟩
  have HT := hid hT
  have U2 := HUN.out w2 ot ct hg2 hT
  clear HAN HUN hT
  go_wp2_with fail
  refine U2.mono ?_
  rintro e w3 ⟨ou, zs, rfl, hz, hat, ⟨hzb, hty⟩, hg3⟩
  have HZ := hid hz
  have HU := hid hat
  have HZB := hid hzb
  have HT := hid (HT.out.keep hg3)
  have HG3 := hid (hg2.trans hg3)
  clear U2 hz hat hzb hty hg2 hg3
  go_wp2_with fail
  have S0 : Hid (O5a w3 L (.int .i64 0) (.slice none 0 0) (.int .i64 ((L.length : Int) - 1)) w3) := hid ⟨L.length, [], _, rfl, rfl, Nat.le_refl _, by simp [cmtC], rfl, Nat.zero_le _, Gr.refl _, World.ownsRow_nil _ _ _ _, by simp⟩
  go_loopw [8, 9, 10] (fun s8 s9 s10 wr => O5a w3 L s8 s9 s10 wr) (fun _ _ s10 _ => ((intOf s10) + 1).toNat)
  case atStart => first | exact S0.out | trace_state
  case round =>
    clear S0
    obtain ⟨n, A, m, rfl, hm, hn, rfl, hA, hAl, hg, hrow, hab⟩ := hrel
    have HRW := hid hrow
    have HAB := hid hab
    have HA := hid hA
    clear hrow hab hA
    cases n with
    | zero =>
      have em : m = -1 := by simpa using hm
      subst em
      clear hm
      have hA0 := HA.out
      rw [show openTo L 0 = [] from rfl, List.append_nil] at hA0
      obtain ⟨oA, cA, rfl, hiat, _⟩ := own_at0 iE HRW.out
      have HIA := hid hiat
      have p3 := P3.out
      rw [← hA0] at p3
      have hs64 : s.length ≤ 64 := by
        have h1 := len36 s PK.out
        have h2 := los_le TS
        have h3 := P6.out
        rw [p3, h3, List.length_map] at h1
        omega
      rename World => wE
      have S1 : Hid (O5c wE s A L (losN TS) (.int .i64 0) (.int .i64 0) (.int .i64 0) wE) := hid ⟨0, 0, 0, rfl, rfl, rfl, Nat.zero_le _, Nat.zero_le _, by simpa using p3, by simpa using P6.out, Gr.refl _⟩
      have HGE := hid hg
      rw [List.drop_zero]
      have hAl60 : A.length ≤ 60 := by omega
      clear hA0 hiat p3 hg HA HRW P3 P6 hAl
      go_wp2_with fail
      go_loopw [16, 17, 18] (fun s16 s17 s18 wr => O5c wE s A L (losN TS) s16 s17 s18 wr) (fun _ _ s18 _ => s.length - (intOf s18).toNat)
      case atStart => exact S1.out
      case round =>
        clear S1
        obtain ⟨j, at', en, rfl, rfl, rfl, hj, hat, h3, h6, hg⟩ := hrel
        have H3 := hid h3
        have H6 := hid h6
        clear h3 h6
        have hen : en ≤ 64 := by
          have := H6.out
          have := los_le TS
          omega
        by_cases hlt : j < s.length
        · have hzl : zs.length = s.length := by rw [← HZ.out]; simp
          have hiz : j < zs.length := by omega
          obtain ⟨b, off, hou, hbb, hc⟩ := AtF.get (HU.out.keep (HGE.out.trans hg)) j (by simpa using hiz)
          subst hou
          have hzo : zs[j].1 = s[j] := by
            have : (zs.map Prod.fst)[j]? = s[j]? := by rw [HZ.out]
            rw [List.getElem?_map, List.getElem?_eq_getElem hiz, List.getElem?_eq_getElem hlt] at this
            simpa using this
          rw [List.getElem_map] at hc
          have hzb := (HZB.out _ (List.getElem_mem hiz)).1
          have hkk := PK.out _ (List.getElem_mem hlt)
          have HE6 := hid (fun h => end_next (s := s) hlt h)
          have HE3 := hid (fun h => clr_next (s := s) (A := A) (L := L) hlt h H3.out)
          have HE4 := hid (fun h => clr_next6 (s := s) hlt h)
          rw [← hzo] at hkk HE6 HE3 HE4
          generalize zs[j] = z at *
          have y0 : wr.cell? ⟨b, off + j * 11, none⟩ = some (.int .i64 z.1.kind) := by
            have := hc 0 (.int .i64 z.1.kind) rfl
            simpa using this
          have y1 : wr.cell? ⟨b, off + j * 11 + 1, none⟩ = some (.int .i64 z.1.txn) := hc 1 _ rfl
          have y3 : wr.cell? ⟨b, off + j * 11 + 3, none⟩ = some (.int .i64 z.1.next) := hc 3 _ rfl
          have y4 : wr.cell? ⟨b, off + j * 11 + 4, none⟩ = some (.int .i64 z.1.page) := hc 4 _ rfl
          have y5 : wr.cell? ⟨b, off + j * 11 + 5, none⟩ = some (.int .i64 z.1.off) := hc 5 _ rfl
          have y7 : wr.cell? ⟨b, off + j * 11 + 7, none⟩ = some (.slice z.2.1 z.1.es.length z.2.2) := hc 7 _ rfl
          have HZB1 := hid (hzb.keep (HGE.out.trans hg))
          have g1 : decide ((s.length : Int) ≤ (j : Int)) = false := by rw [decide_eq_false_iff_not]; omega
          have g2 : (j : Int) < (s.length : Int) := by omega
          have g3 : (0 : Int) ≤ (j : Int) := by omega
          clear hc hzo hzl hzb
          by_cases k6 : z.1.kind = 6
          · have e6 := HE6.out k6
            have FI : Hid (O5c wE s A L (losN TS) (.int .i64 (at' : Int)) (.int .i64 ((en : Int) + 1)) (.int .i64 ((j : Int) + 1)) wr) := hid ⟨j + 1, at', en + 1, by go_num, rfl, by go_num, by omega, hat, by rw [← e6.1]; exact H3.out, by have := H6.out; omega, hg⟩
            rw [k6] at y0
            clear e6 k6 hkk HE6 HE3 HE4 H3 H6 HZB1
            go_wp2
            exact ⟨FI.out, by simp [intOf]; omega⟩
          · have k3 : z.1.kind = 3 := by rcases hkk with h | h; exact h; exact absurd h k6
            obtain ⟨ha, hz1, h3n⟩ := HE3.out k3
            have h6n := HE4.out k3
            have hab := HAB.out _ (List.getElem_mem ha)
            obtain ⟨ba, oa', hoA, hba, hca⟩ := AtF.get (HIA.out.keep hg) at' ha
            subst hoA
            have a0 : wr.cell? ⟨ba, oa' + at', none⟩ = some (.int .i64 A[at']) := by
              have := hca 0 _ rfl
              simpa using this
            obtain ⟨p, hp⟩ : ∃ p : Nat, A[at'] = (p : Int) := ⟨A[at'].toNat, by omega⟩
            rw [hp] at hz1 hab a0
            have hpl : p < L.length := by omega
            rw [clr_at hpl] at hz1
            obtain ⟨b2, off2, rfl, d0, d1, d2, d3, d4, d5, d6, d7', d8, d9, d10, d11⟩ := n_get (HNO.out.at'.keep ((HG3.out.trans HGE.out).trans hg)) p hpl
            have hob : BAt wr L[p].ob L[p].bs := (HNO.out.at'.ok _ (List.getElem_mem hpl)).b.keep ((HG3.out.trans HGE.out).trans hg)
            generalize L[p] = r at *
            have FI : Hid (∀ W, Gr wE W → O5c wE s A L (losN TS) (.int .i64 ((at' : Int) + 1)) (.int .i64 (en : Int)) (.int .i64 ((j : Int) + 1)) W) := hid (fun W hW => ⟨j + 1, at' + 1, en, by go_num, by go_num, rfl, by omega, by omega, h3n, by rw [← h6n]; exact H6.out, hW⟩)
            rw [hz1] at y0 y1 y3 y4 y5 y7 HZB1
            simp only [ocC] at y0 y1 y3 y4 y5 y7 HZB1
            have ZB := HZB1.out
            have q1 : decide ((A.length : Int) ≤ (at' : Int)) = false := by rw [decide_eq_false_iff_not]; omega
            have q2 : (at' : Int) < (A.length : Int) := by omega
            have q3 : (0 : Int) ≤ (at' : Int) := by omega
            have r2 : (p : Int) < (L.length : Int) := by omega
            have r3 : (0 : Int) ≤ (p : Int) := by omega
            have zb := lt_of_cell y0
            have za := lt_of_cell a0
            have zd := lt_of_cell d0
            have GJ := hid hg
            have HOB := hid hob
            have HZB2 := hid ZB
            clear hob ZB HZB1 hp hz1 h3n h6n k3 k6 hkk HE6 HE3 HE4 H3 H6 hca hba hbb hab hat hg
            go_upto_region 32 with (fail)
            obtain ⟨W4, hW4⟩ : ∃ W4, W4 = wr.alloc (.cells #[.int .i64 r.kind, .int .i64 r.txn, .int .i64 r.prev, .int .i64 r.next, .int .i64 r.page, .int .i64 r.off, .slice r.ob r.bs.length r.cb, .slice r.oa r.es.length r.ca, .slice r.ot r.ts.length r.ct, .slice r.od r.ds.length r.cd, .int .i64 r.cnt] 32) := ⟨_, rfl⟩
            have g4 : Gr wr W4 := by rw [hW4]; exact (Gr.refl _).alloc _
            have v1 : W4.cell? ⟨wr.heap.size, 1, none⟩ = some (.int .i64 r.txn) := by rw [hW4, Rg.blk_cells (heap_alloc_new _ _) 1]; rfl
            have v2 : W4.cell? ⟨wr.heap.size, 2, none⟩ = some (.int .i64 r.prev) := by rw [hW4, Rg.blk_cells (heap_alloc_new _ _) 2]; rfl
            have v4 : W4.cell? ⟨wr.heap.size, 4, none⟩ = some (.int .i64 r.page) := by rw [hW4, Rg.blk_cells (heap_alloc_new _ _) 4]; rfl
            have v5 : W4.cell? ⟨wr.heap.size, 5, none⟩ = some (.int .i64 r.off) := by rw [hW4, Rg.blk_cells (heap_alloc_new _ _) 5]; rfl
            have v6 : W4.cell? ⟨wr.heap.size, 6, none⟩ = some (.slice r.ob r.bs.length r.cb) := by rw [hW4, Rg.blk_cells (heap_alloc_new _ _) 6]; rfl
            rw [← hW4]
            have y0 := g4.keep y0
            have y1 := g4.keep y1
            have y3 := g4.keep y3
            have y4 := g4.keep y4
            have y5 := g4.keep y5
            have y7 := g4.keep y7
            have zb := lt_of_cell y0
            have zv := lt_of_cell v1
            have GJ4 := hid (GJ.out.trans g4)
            have HOB := hid (HOB.out.keep g4)
            have HZB2 := hid (HZB2.out.keep g4)
            clear hW4 g4 GJ a0 za zd d0 d1 d2 d3 d4 d5 d6 d7' d8 d9 d10 d11
            generalize wr.heap.size = uB at *
            have cv1 : ∀ w', Rg.Up W4 w' → (convert 30 9 (.slice r.ob r.bs.length r.cb)).run Try.prog w' = .ok (.string (strOfNums r.bs)) w' := fun w' h => conv_b _ (HOB.out.keep h)
            have cv2 : ∀ w', Rg.Up W4 w' → (convert 30 9 (.slice z.2.1 r.bs.length z.2.2)).run Try.prog w' = .ok (.string (strOfNums r.bs)) w' := fun w' h => conv_b _ (HZB2.out.keep h)
            generalize strOfNums r.bs = sb at *
            clear HOB HZB2
            refine Rg.region_text 49 (Below.drew (Below.refl _ _)) (by kernel_rfl) (by kernel_rfl) (fun _ _ d _ _ h => by cases d <;> exact h) ?_
            simp only [List.append_eq, List.cons_append, List.nil_append, List.take_succ_cons, List.take_zero, List.drop_succ_cons, List.drop_zero]
            repeat (first
                | (refine Rg.wpDets_skip (by rfl) ?_; simp only [Act.put, List.setIfInBounds_toArray, List.set_cons_zero, List.set_cons_succ])
                | (refine Rg.wpDets_step ?_ (by rfl) (fun w hS => ?_) ?_
                   rotate_left
                   · have hc := Gr.cells hS
                     have hf := Gr.frees hS
                     go_simp
                     first
                     | (refine ⟨?_, Below.refl _ _⟩; with_reducible rfl)
                   simp only [Act.put, List.setIfInBounds_toArray, List.set_cons_zero, List.set_cons_succ]))
            refine Rg.wpDets_nil ?_
            refine Rg.wpFlts_nil ?_
            refine Rg.wpLays_nil ?_
            intro w1 hK
            have hg : Gr _ w1 := hK.up
            have hc := Gr.cells hg
            have hf := Gr.frees hg
            have hz := Gr.size hg
            try simp only [World.size_alloc, World.size_setCell, World.size_drew] at hz
            try have : 0 < w1.heap.size := by omega
            try have : w.heap.size < w1.heap.size := by omega
            try have : w.heap.size + 1 < w1.heap.size := by omega
            try have : w.heap.size + 1 + 1 < w1.heap.size := by omega
            try have : w.heap.size + 1 + 1 + 1 < w1.heap.size := by omega
            have HGJ := hid (GJ4.out.trans hg)
            have FZ := hid (FI.out w1 HGJ.out)
            clear FI cv1 cv2
            skip
            go_wp2
            exact ⟨FZ.out, by simp [intOf]; omega⟩
        · obtain rfl : j = s.length := by omega
          have g1 : decide ((s.length : Int) ≤ (s.length : Int)) = true := by rw [decide_eq_true_iff]; omega
          have e3 := H3.out
          have e6 := H6.out
          rw [List.drop_length] at e3 e6
          simp only [List.filter_nil, List.length_nil, Nat.add_zero] at e3 e6
          have e4 : A.length ≤ at' := by
            have := congrArg List.length e3
            simp only [List.length_nil, List.length_map, List.length_drop] at this
            omega
          obtain rfl : at' = A.length := by omega
          rename World => wF
          have S1 : Hid (O5d wF TS (.int .i64 0) (.int .i64 0) wF) := hid ⟨0, 0, rfl, rfl, Nat.zero_le _, by simp, Gr.refl _⟩
          have GF := hid (HGE.out.trans hg)
          have E6 := hid e6
          clear e3 e4 e6 H3 H6 hat hj hg hlt
          go_wp2_with fail
          go_loopw [20, 21] (fun s20 s21 wr => O5d wF TS s20 s21 wr) (fun _ s21 _ => TS.length - (intOf s21).toNat)
          case atStart => exact S1.out
          case round =>
            clear S1
            obtain ⟨i, n, rfl, rfl, hi, hn, hg⟩ := hrel
            have HN := hid hn
            have hn4 : n ≤ 4 := by
              have := los_le TS
              omega
            clear hn
            by_cases hlt : i < TS.length
            · obtain ⟨b, off, rfl, -, -, c2⟩ := t_get (HT.out.keep (GF.out.trans hg)) i hlt
              have hbb := lt_of_cell c2
              have HLA := hid (los_at hlt)
              generalize TS[i].st = st at *
              have g1 : decide ((TS.length : Int) ≤ (i : Int)) = false := by rw [decide_eq_false_iff_not]; omega
              have g2 : (i : Int) < (TS.length : Int) := by omega
              have g3 : (0 : Int) ≤ (i : Int) := by omega
              by_cases e2 : (st == 2) = true
              · have FI : Hid (O5d wF TS (.int .i64 (n : Int)) (.int .i64 ((i : Int) + 1)) wr) := hid ⟨i + 1, n, by go_num, rfl, by omega, by
                  have h1 := HLA.out
                  have h2 := HN.out
                  rw [if_pos e2] at h1
                  omega, hg⟩
                have e3 : st = 2 := by simpa using e2
                rw [e3] at c2
                clear e2 e3 HLA HN
                go_wp2
                exact ⟨FI.out, by simp [intOf]; omega⟩
              · have FI : Hid (O5d wF TS (.int .i64 ((n : Int) + 1)) (.int .i64 ((i : Int) + 1)) wr) := hid ⟨i + 1, n + 1, by go_num, by go_num, by omega, by
                  have h1 := HLA.out
                  have h2 := HN.out
                  rw [if_neg e2] at h1
                  omega, hg⟩
                have e3 : (st == 2) = false := by simpa using e2
                have e4 : (st != 2) = true := by simpa using e2
                clear e2 HLA HN
                go_wp2
                exact ⟨FI.out, by simp [intOf]; omega⟩
            · obtain rfl : i = TS.length := by omega
              have g1 : decide ((TS.length : Int) ≤ (TS.length : Int)) = true := by rw [decide_eq_true_iff]; omega
              have hn2 := HN.out
              rw [List.drop_length] at hn2
              have hn3 : n = losN TS := by simpa [losN] using hn2
              have e6 := E6.out
              rw [← hn3] at e6
              subst e6
              clear hn2 hn3 HN hlt hi E6
              have HGZ := hid ((HNO.out.up.trans HG3.out).trans (GF.out.trans hg))
              generalize cmtC L = cmL at *
              go_wp2_with fail
              refine (awake_any _).mono ?_
              rintro e w8 ⟨rfl, hg8⟩
              go_wp2
              go_ret
              exact ⟨rfl, HGZ.out.trans hg8⟩
    | succ j =>
      have em : m = (j : Int) := by rw [hm]; push_cast; omega
      subst em
      clear hm
      have hlt : j < L.length := by omega
      obtain ⟨b, off, rfl, c0, c1, c2, c3, c4, c5, c6, c7', c8, c9, c10, c11⟩ := n_get (HNO.out.at'.keep (HG3.out.trans hg)) j hlt
      have hxg := HNO.out.g _ (List.getElem_mem hlt)
      have hkd := hxg.kind
      have HCM := hid (cmt_at hlt)
      have HSK := hid (open_skip hlt)
      have HOA := hid (open_at hlt)
      have hcl := cmt_le (L.drop (j + 1))
      rw [List.length_drop] at hcl
      generalize L[j] = x at *
      generalize cmtC (L.drop (j + 1)) = cm at *
      have g1 : decide ((0 : Int) ≤ (j : Int)) = true := by rw [decide_eq_true_iff]; omega
      have g2 : (j : Int) < (L.length : Int) := by omega
      have g3 : (0 : Int) ≤ (j : Int) := by omega
      clear hxg
      go_upto_region 10 with (fail)
      obtain ⟨W4, hW4⟩ : ∃ W4, W4 = wr.alloc (.cells #[.int .i64 x.kind, .int .i64 x.txn, .int .i64 x.prev, .int .i64 x.next, .int .i64 x.page, .int .i64 x.off, .slice x.ob x.bs.length x.cb, .slice x.oa x.es.length x.ca, .slice x.ot x.ts.length x.ct, .slice x.od x.ds.length x.cd, .int .i64 x.cnt] 32) := ⟨_, rfl⟩
      have g4 : Gr wr W4 := by rw [hW4]; exact (Gr.refl _).alloc _
      have v0 : W4.cell? ⟨wr.heap.size, 0, none⟩ = some (.int .i64 x.kind) := by rw [hW4, Rg.blk_cells (heap_alloc_new _ _) 0]; rfl
      have v1 : W4.cell? ⟨wr.heap.size, 1, none⟩ = some (.int .i64 x.txn) := by rw [hW4, Rg.blk_cells (heap_alloc_new _ _) 1]; rfl
      rw [← hW4]
      have c0 := g4.keep c0
      have hbb := lt_of_cell c0
      have zv := lt_of_cell v0
      have hgj := hg.trans g4
      have HRW := hid (own_keep HRW.out g4)
      clear hW4 g4 c1 c2 c3 c4 c5 c6 c7' c8 c9 c10 c11 hg
      generalize wr.heap.size = uB at *
      have HF : Hid (∀ W (A' : List Int) s9' (c : Nat), Gr w3 W → A'.length ≤ L.length - j → A' ++ openTo L j = openTo L L.length → W.ownsRow w3.heap.size 3 1 s9' A'.length (cellsF iF A') → (∀ a ∈ A', 0 ≤ a ∧ a < (L.length : Int)) → cmtC (L.drop j) = c → O5a w3 L (.int .i64 (c : Int)) s9' (.int .i64 ((j : Int) - 1)) W) := hid (fun W A' s9' c h1 h2 h3 h4 h5 h6 => ⟨j, A', _, rfl, rfl, by omega, by rw [h6], h3, h2, h1, h4, h5⟩)
      by_cases k2 : (x.kind == 2) = true
      · have e2 : x.kind = 2 := by simpa using k2
        rw [e2] at v0
        rw [e2] at HCM
        have hO := hid (HOA.out k2)
        clear e2 hkd k2 HSK HOA
        have S1 : Hid (O5b W4 L j x (.bool false) (.int .i64 0) (.int .i64 ((j : Int) + 1)) W4) := hid ⟨j + 1, false, 0, rfl, rfl, by go_num, by omega, by omega, by omega, rfl, by simp [goneN], Gr.refl _⟩
        have HX := hid hgj
        clear hgj
        go_wp2_with fail
        go_loopw [12, 13, 14] (fun s12 s13 s14 wr => O5b W4 L j x s12 s13 s14 wr) (fun _ _ s14 _ => L.length - (intOf s14).toNat)
        case atStart => exact S1.out
        case round =>
          clear S1
          obtain ⟨k, bw, g, rfl, rfl, rfl, hk1, hk2, hgk, hwn, hgn, hg⟩ := hrel
          have c0 := hg.keep c0
          have v0 := hg.keep v0
          have v1 := hg.keep v1
          have hbb := lt_of_cell c0
          have zv := lt_of_cell v0
          have HWN := hid hwn
          have HGN := hid hgn
          clear hwn hgn
          by_cases hlt2 : k < L.length
          · obtain ⟨b2, off2, e7, d0, d1, d2, d3, d4, d5, d6, d7', d8, d9, d10, d11⟩ := n_get (HNO.out.at'.keep (HG3.out.trans (HX.out.trans hg))) k hlt2
            cases e7
            have HW1 := hid (won_at x.txn hlt2)
            have HN1 := hid (gone_at x.txn x.lsn hlt2)
            generalize L[k] = y at *
            have i1 : decide ((L.length : Int) ≤ (k : Int)) = false := by rw [decide_eq_false_iff_not]; omega
            have i2 : (k : Int) < (L.length : Int) := by omega
            have i3 : (0 : Int) ≤ (k : Int) := by omega
            have FY : Hid (∀ W b' (g' : Nat), Gr W4 W → b' = (bw || ((y.kind == 4) && (y.txn == x.txn))) → g' = g + (if ((y.kind == 3) && (y.txn == x.txn) && decide (y.next < x.lsn)) = true then 1 else 0) → O5b W4 L j x (.bool b') (.int .i64 (g' : Int)) (.int .i64 ((k : Int) + 1)) W) := hid (fun W b' g' hW hb' hg' => ⟨k + 1, b', g', rfl, rfl, by go_num, by omega, by omega, by (rw [hg']; split <;> omega), by rw [hb', Bool.or_assoc, ← HW1.out]; exact HWN.out, by rw [hg', Nat.add_assoc, ← HN1.out]; exact HGN.out, hW⟩)
            clear HW1 HN1 HWN HGN
            go_upto_region 18 with (fail)
            obtain ⟨W5, hW5⟩ : ∃ W5, W5 = wr.alloc (.cells #[.int .i64 y.kind, .int .i64 y.txn, .int .i64 y.prev, .int .i64 y.next, .int .i64 y.page, .int .i64 y.off, .slice y.ob y.bs.length y.cb, .slice y.oa y.es.length y.ca, .slice y.ot y.ts.length y.ct, .slice y.od y.ds.length y.cd, .int .i64 y.cnt] 32) := ⟨_, rfl⟩
            have g4 : Gr wr W5 := by rw [hW5]; exact (Gr.refl _).alloc _
            have z0 : W5.cell? ⟨wr.heap.size, 0, none⟩ = some (.int .i64 y.kind) := by rw [hW5, Rg.blk_cells (heap_alloc_new _ _) 0]; rfl
            have z1 : W5.cell? ⟨wr.heap.size, 1, none⟩ = some (.int .i64 y.txn) := by rw [hW5, Rg.blk_cells (heap_alloc_new _ _) 1]; rfl
            have z3 : W5.cell? ⟨wr.heap.size, 3, none⟩ = some (.int .i64 y.next) := by rw [hW5, Rg.blk_cells (heap_alloc_new _ _) 3]; rfl
            rw [← hW5]
            have c0 := g4.keep c0
            have v0 := g4.keep v0
            have v1 := g4.keep v1
            have hbb := lt_of_cell c0
            have zv := lt_of_cell v0
            have zy := lt_of_cell z0
            have hg0 := hg.trans g4
            clear hW5 g4 hg d0 d1 d2 d3 d4 d5 d6 d7' d8 d9 d10 d11
            generalize wr.heap.size = uC at *
            obtain ⟨pt, hpt⟩ : ∃ q, (y.txn == x.txn) = q := ⟨_, rfl⟩
            obtain ⟨pn, hpn⟩ : ∃ q, decide (y.next < x.lsn) = q := ⟨_, rfl⟩
            rw [hpt, hpn] at FY
            by_cases k4 : (y.kind == 4) = true
            · have e4 : y.kind = 4 := by simpa using k4
              rw [e4] at z0 FY
              clear e4 k4
              cases bw
              · cases pt
                · go_upto_region 19 with (fail)
                  refine Rg.region_text 19 (Below.drew (Below.refl _ _)) (by kernel_rfl) (by kernel_rfl) (fun _ _ d _ _ h => by cases d <;> exact h) ?_
                  simp only [List.append_eq, List.cons_append, List.nil_append, List.take_succ_cons, List.take_zero, List.drop_succ_cons, List.drop_zero]
                  repeat (first
                      | (refine Rg.wpDets_skip (by rfl) ?_; simp only [Act.put, List.setIfInBounds_toArray, List.set_cons_zero, List.set_cons_succ])
                      | (refine Rg.wpDets_step ?_ (by rfl) (fun w hS => ?_) ?_
                         rotate_left
                         · have hc := Gr.cells hS
                           have hf := Gr.frees hS
                           go_simp
                           first
                           | (refine ⟨?_, Below.refl _ _⟩; with_reducible rfl)
                         simp only [Act.put, List.setIfInBounds_toArray, List.set_cons_zero, List.set_cons_succ]))
                  refine Rg.wpDets_nil ?_
                  refine Rg.wpFlts_nil ?_
                  refine Rg.wpLays_nil ?_
                  intro w1 hK
                  have hg : Gr _ w1 := hK.up
                  have hc := Gr.cells hg
                  have hf := Gr.frees hg
                  have hz := Gr.size hg
                  try simp only [World.size_alloc, World.size_setCell, World.size_drew] at hz
                  try have : 0 < w1.heap.size := by omega
                  try have : w.heap.size < w1.heap.size := by omega
                  try have : w.heap.size + 1 < w1.heap.size := by omega
                  try have : w.heap.size + 1 + 1 < w1.heap.size := by omega
                  try have : w.heap.size + 1 + 1 + 1 < w1.heap.size := by omega
                  have HGJ := hid (hg0.trans hg)
                  have FZ := hid (FY.out w1 _ _ HGJ.out rfl rfl)
                  clear FY
                  skip
                  go_wp2
                  exact ⟨FZ.out, by simp [intOf]; omega⟩
                · go_upto_region 19 with (fail)
                  refine Rg.region_text 19 (Below.drew (Below.refl _ _)) (by kernel_rfl) (by kernel_rfl) (fun _ _ d _ _ h => by cases d <;> exact h) ?_
                  simp only [List.append_eq, List.cons_append, List.nil_append, List.take_succ_cons, List.take_zero, List.drop_succ_cons, List.drop_zero]
                  repeat (first
                      | (refine Rg.wpDets_skip (by rfl) ?_; simp only [Act.put, List.setIfInBounds_toArray, List.set_cons_zero, List.set_cons_succ])
                      | (refine Rg.wpDets_step ?_ (by rfl) (fun w hS => ?_) ?_
                         rotate_left
                         · have hc := Gr.cells hS
                           have hf := Gr.frees hS
                           go_simp
                           first
                           | (refine ⟨?_, Below.refl _ _⟩; with_reducible rfl)
                         simp only [Act.put, List.setIfInBounds_toArray, List.set_cons_zero, List.set_cons_succ]))
                  refine Rg.wpDets_nil ?_
                  refine Rg.wpFlts_nil ?_
                  refine Rg.wpLays_nil ?_
                  intro w1 hK
                  have hg : Gr _ w1 := hK.up
                  have hc := Gr.cells hg
                  have hf := Gr.frees hg
                  have hz := Gr.size hg
                  try simp only [World.size_alloc, World.size_setCell, World.size_drew] at hz
                  try have : 0 < w1.heap.size := by omega
                  try have : w.heap.size < w1.heap.size := by omega
                  try have : w.heap.size + 1 < w1.heap.size := by omega
                  try have : w.heap.size + 1 + 1 < w1.heap.size := by omega
                  try have : w.heap.size + 1 + 1 + 1 < w1.heap.size := by omega
                  have HGJ := hid (hg0.trans hg)
                  have FZ := hid (FY.out w1 _ _ HGJ.out rfl rfl)
                  clear FY
                  skip
                  go_wp2
                  exact ⟨FZ.out, by simp [intOf]; omega⟩
              · go_upto_region 19 with (fail)
                refine Rg.region_text 19 (Below.drew (Below.refl _ _)) (by kernel_rfl) (by kernel_rfl) (fun _ _ d _ _ h => by cases d <;> exact h) ?_
                simp only [List.append_eq, List.cons_append, List.nil_append, List.take_succ_cons, List.take_zero, List.drop_succ_cons, List.drop_zero]
                repeat (first
                    | (refine Rg.wpDets_skip (by rfl) ?_; simp only [Act.put, List.setIfInBounds_toArray, List.set_cons_zero, List.set_cons_succ])
                    | (refine Rg.wpDets_step ?_ (by rfl) (fun w hS => ?_) ?_
                       rotate_left
                       · have hc := Gr.cells hS
                         have hf := Gr.frees hS
                         go_simp
                         first
                         | (refine ⟨?_, Below.refl _ _⟩; with_reducible rfl)
                       simp only [Act.put, List.setIfInBounds_toArray, List.set_cons_zero, List.set_cons_succ]))
                refine Rg.wpDets_nil ?_
                refine Rg.wpFlts_nil ?_
                refine Rg.wpLays_nil ?_
                intro w1 hK
                have hg : Gr _ w1 := hK.up
                have hc := Gr.cells hg
                have hf := Gr.frees hg
                have hz := Gr.size hg
                try simp only [World.size_alloc, World.size_setCell, World.size_drew] at hz
                try have : 0 < w1.heap.size := by omega
                try have : w.heap.size < w1.heap.size := by omega
                try have : w.heap.size + 1 < w1.heap.size := by omega
                try have : w.heap.size + 1 + 1 < w1.heap.size := by omega
                try have : w.heap.size + 1 + 1 + 1 < w1.heap.size := by omega
                have HGJ := hid (hg0.trans hg)
                have FZ := hid (FY.out w1 _ _ HGJ.out rfl rfl)
                clear FY
                skip
                go_wp2
                exact ⟨FZ.out, by simp [intOf]; omega⟩
            · have q4 : (y.kind == 4) = false := by simpa using k4
              rw [q4] at FY
              clear k4
              by_cases k3 : (y.kind == 3) = true
              · have e3 : y.kind = 3 := by simpa using k3
                rw [e3] at z0 FY
                clear e3 q4 k3
                cases bw
                · cases pt
                  · go_upto_region 19 with (fail)
                    refine Rg.region_text 19 (Below.drew (Below.refl _ _)) (by kernel_rfl) (by kernel_rfl) (fun _ _ d _ _ h => by cases d <;> exact h) ?_
                    simp only [List.append_eq, List.cons_append, List.nil_append, List.take_succ_cons, List.take_zero, List.drop_succ_cons, List.drop_zero]
                    repeat (first
                        | (refine Rg.wpDets_skip (by rfl) ?_; simp only [Act.put, List.setIfInBounds_toArray, List.set_cons_zero, List.set_cons_succ])
                        | (refine Rg.wpDets_step ?_ (by rfl) (fun w hS => ?_) ?_
                           rotate_left
                           · have hc := Gr.cells hS
                             have hf := Gr.frees hS
                             go_simp
                             first
                             | (refine ⟨?_, Below.refl _ _⟩; with_reducible rfl)
                           simp only [Act.put, List.setIfInBounds_toArray, List.set_cons_zero, List.set_cons_succ]))
                    refine Rg.wpDets_nil ?_
                    refine Rg.wpFlts_nil ?_
                    refine Rg.wpLays_nil ?_
                    intro w1 hK
                    have hg : Gr _ w1 := hK.up
                    have hc := Gr.cells hg
                    have hf := Gr.frees hg
                    have hz := Gr.size hg
                    try simp only [World.size_alloc, World.size_setCell, World.size_drew] at hz
                    try have : 0 < w1.heap.size := by omega
                    try have : w.heap.size < w1.heap.size := by omega
                    try have : w.heap.size + 1 < w1.heap.size := by omega
                    try have : w.heap.size + 1 + 1 < w1.heap.size := by omega
                    try have : w.heap.size + 1 + 1 + 1 < w1.heap.size := by omega
                    have HGJ := hid (hg0.trans hg)
                    have FZ := hid (FY.out w1 _ _ HGJ.out rfl rfl)
                    clear FY
                    skip
                    go_wp2
                    exact ⟨FZ.out, by simp [intOf]; omega⟩
                  · cases pn
                    · go_upto_region 19 with (fail)
                      refine Rg.region_text 19 (Below.drew (Below.refl _ _)) (by kernel_rfl) (by kernel_rfl) (fun _ _ d _ _ h => by cases d <;> exact h) ?_
                      simp only [List.append_eq, List.cons_append, List.nil_append, List.take_succ_cons, List.take_zero, List.drop_succ_cons, List.drop_zero]
                      repeat (first
                          | (refine Rg.wpDets_skip (by rfl) ?_; simp only [Act.put, List.setIfInBounds_toArray, List.set_cons_zero, List.set_cons_succ])
                          | (refine Rg.wpDets_step ?_ (by rfl) (fun w hS => ?_) ?_
                             rotate_left
                             · have hc := Gr.cells hS
                               have hf := Gr.frees hS
                               go_simp
                               first
                               | (refine ⟨?_, Below.refl _ _⟩; with_reducible rfl)
                             simp only [Act.put, List.setIfInBounds_toArray, List.set_cons_zero, List.set_cons_succ]))
                      refine Rg.wpDets_nil ?_
                      refine Rg.wpFlts_nil ?_
                      refine Rg.wpLays_nil ?_
                      intro w1 hK
                      have hg : Gr _ w1 := hK.up
                      have hc := Gr.cells hg
                      have hf := Gr.frees hg
                      have hz := Gr.size hg
                      try simp only [World.size_alloc, World.size_setCell, World.size_drew] at hz
                      try have : 0 < w1.heap.size := by omega
                      try have : w.heap.size < w1.heap.size := by omega
                      try have : w.heap.size + 1 < w1.heap.size := by omega
                      try have : w.heap.size + 1 + 1 < w1.heap.size := by omega
                      try have : w.heap.size + 1 + 1 + 1 < w1.heap.size := by omega
                      have HGJ := hid (hg0.trans hg)
                      have FZ := hid (FY.out w1 _ _ HGJ.out rfl rfl)
                      clear FY
                      skip
                      go_wp2
                      exact ⟨FZ.out, by simp [intOf]; omega⟩
                    · go_upto_region 19 with (fail)
                      refine Rg.region_text 19 (Below.drew (Below.refl _ _)) (by kernel_rfl) (by kernel_rfl) (fun _ _ d _ _ h => by cases d <;> exact h) ?_
                      simp only [List.append_eq, List.cons_append, List.nil_append, List.take_succ_cons, List.take_zero, List.drop_succ_cons, List.drop_zero]
                      repeat (first
                          | (refine Rg.wpDets_skip (by rfl) ?_; simp only [Act.put, List.setIfInBounds_toArray, List.set_cons_zero, List.set_cons_succ])
                          | (refine Rg.wpDets_step ?_ (by rfl) (fun w hS => ?_) ?_
                             rotate_left
                             · have hc := Gr.cells hS
                               have hf := Gr.frees hS
                               go_simp
                               first
                               | (refine ⟨?_, Below.refl _ _⟩; with_reducible rfl)
                             simp only [Act.put, List.setIfInBounds_toArray, List.set_cons_zero, List.set_cons_succ]))
                      refine Rg.wpDets_nil ?_
                      refine Rg.wpFlts_nil ?_
                      refine Rg.wpLays_nil ?_
                      intro w1 hK
                      have hg : Gr _ w1 := hK.up
                      have hc := Gr.cells hg
                      have hf := Gr.frees hg
                      have hz := Gr.size hg
                      try simp only [World.size_alloc, World.size_setCell, World.size_drew] at hz
                      try have : 0 < w1.heap.size := by omega
                      try have : w.heap.size < w1.heap.size := by omega
                      try have : w.heap.size + 1 < w1.heap.size := by omega
                      try have : w.heap.size + 1 + 1 < w1.heap.size := by omega
                      try have : w.heap.size + 1 + 1 + 1 < w1.heap.size := by omega
                      have HGJ := hid (hg0.trans hg)
                      have FZ := hid (FY.out w1 _ _ HGJ.out rfl rfl)
                      clear FY
                      skip
                      go_wp2
                      exact ⟨FZ.out, by simp [intOf]; omega⟩
                · cases pt
                  · go_upto_region 19 with (fail)
                    refine Rg.region_text 19 (Below.drew (Below.refl _ _)) (by kernel_rfl) (by kernel_rfl) (fun _ _ d _ _ h => by cases d <;> exact h) ?_
                    simp only [List.append_eq, List.cons_append, List.nil_append, List.take_succ_cons, List.take_zero, List.drop_succ_cons, List.drop_zero]
                    repeat (first
                        | (refine Rg.wpDets_skip (by rfl) ?_; simp only [Act.put, List.setIfInBounds_toArray, List.set_cons_zero, List.set_cons_succ])
                        | (refine Rg.wpDets_step ?_ (by rfl) (fun w hS => ?_) ?_
                           rotate_left
                           · have hc := Gr.cells hS
                             have hf := Gr.frees hS
                             go_simp
                             first
                             | (refine ⟨?_, Below.refl _ _⟩; with_reducible rfl)
                           simp only [Act.put, List.setIfInBounds_toArray, List.set_cons_zero, List.set_cons_succ]))
                    refine Rg.wpDets_nil ?_
                    refine Rg.wpFlts_nil ?_
                    refine Rg.wpLays_nil ?_
                    intro w1 hK
                    have hg : Gr _ w1 := hK.up
                    have hc := Gr.cells hg
                    have hf := Gr.frees hg
                    have hz := Gr.size hg
                    try simp only [World.size_alloc, World.size_setCell, World.size_drew] at hz
                    try have : 0 < w1.heap.size := by omega
                    try have : w.heap.size < w1.heap.size := by omega
                    try have : w.heap.size + 1 < w1.heap.size := by omega
                    try have : w.heap.size + 1 + 1 < w1.heap.size := by omega
                    try have : w.heap.size + 1 + 1 + 1 < w1.heap.size := by omega
                    have HGJ := hid (hg0.trans hg)
                    have FZ := hid (FY.out w1 _ _ HGJ.out rfl rfl)
                    clear FY
                    skip
                    go_wp2
                    exact ⟨FZ.out, by simp [intOf]; omega⟩
                  · cases pn
                    · go_upto_region 19 with (fail)
                      refine Rg.region_text 19 (Below.drew (Below.refl _ _)) (by kernel_rfl) (by kernel_rfl) (fun _ _ d _ _ h => by cases d <;> exact h) ?_
                      simp only [List.append_eq, List.cons_append, List.nil_append, List.take_succ_cons, List.take_zero, List.drop_succ_cons, List.drop_zero]
                      repeat (first
                          | (refine Rg.wpDets_skip (by rfl) ?_; simp only [Act.put, List.setIfInBounds_toArray, List.set_cons_zero, List.set_cons_succ])
                          | (refine Rg.wpDets_step ?_ (by rfl) (fun w hS => ?_) ?_
                             rotate_left
                             · have hc := Gr.cells hS
                               have hf := Gr.frees hS
                               go_simp
                               first
                               | (refine ⟨?_, Below.refl _ _⟩; with_reducible rfl)
                             simp only [Act.put, List.setIfInBounds_toArray, List.set_cons_zero, List.set_cons_succ]))
                      refine Rg.wpDets_nil ?_
                      refine Rg.wpFlts_nil ?_
                      refine Rg.wpLays_nil ?_
                      intro w1 hK
                      have hg : Gr _ w1 := hK.up
                      have hc := Gr.cells hg
                      have hf := Gr.frees hg
                      have hz := Gr.size hg
                      try simp only [World.size_alloc, World.size_setCell, World.size_drew] at hz
                      try have : 0 < w1.heap.size := by omega
                      try have : w.heap.size < w1.heap.size := by omega
                      try have : w.heap.size + 1 < w1.heap.size := by omega
                      try have : w.heap.size + 1 + 1 < w1.heap.size := by omega
                      try have : w.heap.size + 1 + 1 + 1 < w1.heap.size := by omega
                      have HGJ := hid (hg0.trans hg)
                      have FZ := hid (FY.out w1 _ _ HGJ.out rfl rfl)
                      clear FY
                      skip
                      go_wp2
                      exact ⟨FZ.out, by simp [intOf]; omega⟩
                    · go_upto_region 19 with (fail)
                      refine Rg.region_text 19 (Below.drew (Below.refl _ _)) (by kernel_rfl) (by kernel_rfl) (fun _ _ d _ _ h => by cases d <;> exact h) ?_
                      simp only [List.append_eq, List.cons_append, List.nil_append, List.take_succ_cons, List.take_zero, List.drop_succ_cons, List.drop_zero]
                      repeat (first
                          | (refine Rg.wpDets_skip (by rfl) ?_; simp only [Act.put, List.setIfInBounds_toArray, List.set_cons_zero, List.set_cons_succ])
                          | (refine Rg.wpDets_step ?_ (by rfl) (fun w hS => ?_) ?_
                             rotate_left
                             · have hc := Gr.cells hS
                               have hf := Gr.frees hS
                               go_simp
                               first
                               | (refine ⟨?_, Below.refl _ _⟩; with_reducible rfl)
                             simp only [Act.put, List.setIfInBounds_toArray, List.set_cons_zero, List.set_cons_succ]))
                      refine Rg.wpDets_nil ?_
                      refine Rg.wpFlts_nil ?_
                      refine Rg.wpLays_nil ?_
                      intro w1 hK
                      have hg : Gr _ w1 := hK.up
                      have hc := Gr.cells hg
                      have hf := Gr.frees hg
                      have hz := Gr.size hg
                      try simp only [World.size_alloc, World.size_setCell, World.size_drew] at hz
                      try have : 0 < w1.heap.size := by omega
                      try have : w.heap.size < w1.heap.size := by omega
                      try have : w.heap.size + 1 < w1.heap.size := by omega
                      try have : w.heap.size + 1 + 1 < w1.heap.size := by omega
                      try have : w.heap.size + 1 + 1 + 1 < w1.heap.size := by omega
                      have HGJ := hid (hg0.trans hg)
                      have FZ := hid (FY.out w1 _ _ HGJ.out rfl rfl)
                      clear FY
                      skip
                      go_wp2
                      exact ⟨FZ.out, by simp [intOf]; omega⟩
              · have q3 : (y.kind == 3) = false := by simpa using k3
                rw [q3] at FY
                clear k3
                cases bw
                · go_upto_region 19 with (fail)
                  refine Rg.region_text 19 (Below.drew (Below.refl _ _)) (by kernel_rfl) (by kernel_rfl) (fun _ _ d _ _ h => by cases d <;> exact h) ?_
                  simp only [List.append_eq, List.cons_append, List.nil_append, List.take_succ_cons, List.take_zero, List.drop_succ_cons, List.drop_zero]
                  repeat (first
                      | (refine Rg.wpDets_skip (by rfl) ?_; simp only [Act.put, List.setIfInBounds_toArray, List.set_cons_zero, List.set_cons_succ])
                      | (refine Rg.wpDets_step ?_ (by rfl) (fun w hS => ?_) ?_
                         rotate_left
                         · have hc := Gr.cells hS
                           have hf := Gr.frees hS
                           go_simp
                           first
                           | (refine ⟨?_, Below.refl _ _⟩; with_reducible rfl)
                         simp only [Act.put, List.setIfInBounds_toArray, List.set_cons_zero, List.set_cons_succ]))
                  refine Rg.wpDets_nil ?_
                  refine Rg.wpFlts_nil ?_
                  refine Rg.wpLays_nil ?_
                  intro w1 hK
                  have hg : Gr _ w1 := hK.up
                  have hc := Gr.cells hg
                  have hf := Gr.frees hg
                  have hz := Gr.size hg
                  try simp only [World.size_alloc, World.size_setCell, World.size_drew] at hz
                  try have : 0 < w1.heap.size := by omega
                  try have : w.heap.size < w1.heap.size := by omega
                  try have : w.heap.size + 1 < w1.heap.size := by omega
                  try have : w.heap.size + 1 + 1 < w1.heap.size := by omega
                  try have : w.heap.size + 1 + 1 + 1 < w1.heap.size := by omega
                  have HGJ := hid (hg0.trans hg)
                  have FZ := hid (FY.out w1 _ _ HGJ.out rfl rfl)
                  clear FY
                  skip
                  go_wp2
                  exact ⟨FZ.out, by simp [intOf]; omega⟩
                · go_upto_region 19 with (fail)
                  refine Rg.region_text 19 (Below.drew (Below.refl _ _)) (by kernel_rfl) (by kernel_rfl) (fun _ _ d _ _ h => by cases d <;> exact h) ?_
                  simp only [List.append_eq, List.cons_append, List.nil_append, List.take_succ_cons, List.take_zero, List.drop_succ_cons, List.drop_zero]
                  repeat (first
                      | (refine Rg.wpDets_skip (by rfl) ?_; simp only [Act.put, List.setIfInBounds_toArray, List.set_cons_zero, List.set_cons_succ])
                      | (refine Rg.wpDets_step ?_ (by rfl) (fun w hS => ?_) ?_
                         rotate_left
                         · have hc := Gr.cells hS
                           have hf := Gr.frees hS
                           go_simp
                           first
                           | (refine ⟨?_, Below.refl _ _⟩; with_reducible rfl)
                         simp only [Act.put, List.setIfInBounds_toArray, List.set_cons_zero, List.set_cons_succ]))
                  refine Rg.wpDets_nil ?_
                  refine Rg.wpFlts_nil ?_
                  refine Rg.wpLays_nil ?_
                  intro w1 hK
                  have hg : Gr _ w1 := hK.up
                  have hc := Gr.cells hg
                  have hf := Gr.frees hg
                  have hz := Gr.size hg
                  try simp only [World.size_alloc, World.size_setCell, World.size_drew] at hz
                  try have : 0 < w1.heap.size := by omega
                  try have : w.heap.size < w1.heap.size := by omega
                  try have : w.heap.size + 1 < w1.heap.size := by omega
                  try have : w.heap.size + 1 + 1 < w1.heap.size := by omega
                  try have : w.heap.size + 1 + 1 + 1 < w1.heap.size := by omega
                  have HGJ := hid (hg0.trans hg)
                  have FZ := hid (FY.out w1 _ _ HGJ.out rfl rfl)
                  clear FY
                  skip
                  go_wp2
                  exact ⟨FZ.out, by simp [intOf]; omega⟩
          · obtain rfl : k = L.length := by omega
            have i1 : decide ((L.length : Int) ≤ (L.length : Int)) = true := by rw [decide_eq_true_iff]; omega
            have hw := HWN.out
            have hn := HGN.out
            simp only [List.drop_length, List.any_nil, Bool.or_false, List.filter_nil, List.length_nil, Nat.add_zero] at hw hn
            have hO2 := hO.out
            rw [← hw, ← hn] at hO2
            have HO2 := hid hO2
            have hcm := HCM.out
            simp only [show ((2 : Int) == 4) = false from rfl, Bool.false_eq_true, if_false, Nat.add_zero] at hcm
            have HC2 := hid hcm
            have HRX := hid (own_keep HRW.out hg)
            have HGX := hid (HX.out.trans hg)
            clear HWN HGN hw hn hO hO2 HCM hcm HRW HX
            cases bw
            · by_cases hg0 : g = 0
              · subst hg0
                have hO3 := HO2.out
                simp only [Bool.not_false, Bool.true_and, beq_self_eq_true, if_true] at hO3
                have hA3 := HA.out
                rw [hO3] at hA3
                have HA3 : Hid ((A ++ [(j : Int)]) ++ openTo L j = openTo L L.length) := hid (by rw [List.append_assoc]; exact hA3)
                have hwb := HGX.out.size
                obtain ⟨i0, hi0, hz0, hz1, hz2⟩ := info_parts i_info
                clear hO3 hA3 HO2 hg c0 v0 v1 hbb zv g1
                go_wp2_with (at_builtin; refine wpList_append_own _ rfl _ _ 38 rfl w3.heap.size 3 i0 (.int .i64 0) 1 8 Try.underlying38 hi0 hz0 hz1 hz2 rfl (by decide) _ _ _ rfl (HRX.out.alloc _) ⟨wr.heap.size, 0, none⟩ 1 1 (iF (j : Int)) rfl rfl ?mc1 ?mc2 ?mc3 ?mc4 ?mc5 ?_)
                case mc1 =>
                  intro q u hu
                  first
                  | (rw [addN, Nat.zero_add, Rg.blk_cells (heap_alloc_new _ _) q]; simpa [iF] using hu)
                  | simpa [iF] using hu
                case mc2 => exact iE.one _
                case mc3 => unfold maxLen; omega
                case mc4 => omega
                case mc5 => first | omega | (simp; omega)
                intro v8 w8 hown hg8 _
                have GA := Gr.alloc (Gr.refl wr) (.cells #[.int .i64 (j : Int)] 3)
                have FI := hid (HF.out w8 (A ++ [(j : Int)]) v8 cm (Gz.up (HGX.out.trans GA) hg8 (HRX.out.alloc _)) (by simp; omega) HA3.out (by rw [List.length_append, cellsF_snoc]; exact hown) (fun a ha => by
                  rcases List.mem_append.1 ha with h | h
                  · exact HAB.out a h
                  · simp only [List.mem_singleton] at h
                    subst h; omega) HC2.out)
                clear hown hg8 GA HF HAB HA HA3 HC2 HRX HGX
                go_wp2
                exact ⟨FI.out, by simp [intOf]⟩
              · have hO3 := HO2.out
                have gz : ((g : Int) == 0) = false := by simpa using hg0
                have gz2 : (g == 0) = false := by simpa using hg0
                simp only [gz2, Bool.and_false, Bool.false_eq_true, if_false] at hO3
                have hA3 := HA.out
                rw [hO3] at hA3
                have FI := hid (HF.out wr A u9 cm HGX.out (by omega) hA3 HRX.out HAB.out HC2.out)
                clear hO3 hA3 HO2 HF HAB HA HC2 HRX HGX hg0 gz2
                go_wp2
                exact ⟨FI.out, by simp [intOf]⟩
            · have hO3 := HO2.out
              simp only [Bool.not_true, Bool.false_and, Bool.false_eq_true, if_false] at hO3
              have hA3 := HA.out
              rw [hO3] at hA3
              have FI := hid (HF.out wr A u9 cm HGX.out (by omega) hA3 HRX.out HAB.out HC2.out)
              clear hO3 hA3 HO2 HF HAB HA HC2 HRX HGX
              go_wp2
              exact ⟨FI.out, by simp [intOf]⟩
      · have k2 : (x.kind == 2) = false := by simpa using k2
        have hO := hid (HSK.out k2)
        have hA3 := HA.out
        rw [hO.out] at hA3
        clear HOA HSK hO
        by_cases k4 : (x.kind == 4) = true
        · have FI := hid (HF.out W4 A u9 (cm + 1) hgj (by omega) hA3 HRW.out HAB.out (by rw [HCM.out, if_pos k4]))
          have e4 : x.kind = 4 := by simpa using k4
          rw [e4] at v0
          clear hkd HF HAB HA hA3 HRW HCM hgj k4 k2 e4
          go_wp2
          exact ⟨FI.out, by simp [intOf]⟩
        · have q4 : (x.kind == 4) = false := by simpa using k4
          have q2 : (x.kind != 2) = true := by simpa using k2
          have FI := hid (HF.out W4 A u9 cm hgj (by omega) hA3 HRW.out HAB.out (by rw [HCM.out, if_neg k4]; rfl))
          clear hkd HF HAB HA hA3 HRW HCM hgj k4
          go_wp2
          exact ⟨FI.out, by simp [intOf]⟩
end Go.Proofs.Ytmanokhadppeeaa

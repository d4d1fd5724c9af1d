/- row: row.Sort; the reference's SameRows. -/
import Derived.Test.YtacbhkmkknicoaaDoorSo7
namespace Go.Proofs.YtacbhkmkknicoaaDoor
open Go.RowKit
set_option linter.unusedSimpArgs false
set_option linter.unusedVariables false
attribute [local go_sem] Rg.leads_value Rg.leads_skip Rg.leads_enter Rg.brings_value Rg.brings_skip Rg.brings_enter Rg.bringsG_value Rg.bringsG_enter rwV
abbrev RAt := AtF rF 1
theorem r_get {w : World} {oa : Option Addr} {l : List Rw} (h : RAt w oa l) (k : Nat) (hk : k < l.length) : ∃ b off, oa = some ⟨b, off, none⟩ ∧ w.cell? ⟨b, off + k, none⟩ = some (.slice l[k].oa l[k].l.length l[k].c) := by
  obtain ⟨b, off, e, _, hc⟩ := h.get k hk
  refine ⟨b, off, e, ?_⟩
  have := hc 0 (rwV l[k]) rfl
  simpa [rwV] using this
/-- a row that came in -/
def RwI (w : World) (r : Rw) : Prop := VAt w r.oa r.l ∧ r.l.length ≤ 1000000 ∧ r.l.length ≤ r.c ∧ (r.oa = none → r.c = 0)
/-- what row.Sort tells: the copies, sorted, in new memory -/
def SrtP (w : World) (ls : List (List V)) (e : Ending) (w' : World) : Prop := ∃ (oa : Option Addr) (d0 : List Rw), e = .returned (.slice oa d0.length d0.length) ∧ d0.map (·.l) = ls ∧ Gr w w' ∧ (∀ r ∈ stF d0, RwN w.heap.size w' r) ∧
  (d0 = [] ∨ ∃ g cur, oa = some ⟨g, 0, none⟩ ∧ w.heap.size ≤ g ∧ w'.heap[g]? = some (.cells cur 35 (0, 0)) ∧ d0.length ≤ cur.size ∧ ∀ i, i < d0.length → w'.cell? ⟨g, i, none⟩ = some (rwV (gx (stF d0) i)))
theorem own_blk {w : World} {base n m g cap : Nat} {T : TypeId} {xs : List Value} (h : w.ownsRow base T n (.slice (some ⟨g, 0, none⟩) m cap) m xs) : ∃ cur, w.heap[g]? = some (.cells cur T (0, 0)) := by
  rcases h.2 with ⟨e, _⟩ | ⟨g', cap', cur, e, _, hh, _⟩
  · cases e
  · cases e; exact ⟨cur, hh⟩
theorem own_blk2 {w : World} {base m g cap : Nat} {T : TypeId} {xs : List Value} (h : w.ownsRow base T 1 (.slice (some ⟨g, 0, none⟩) m cap) m xs) : ∃ cur, w.heap[g]? = some (.cells cur T (0, 0)) ∧ m ≤ cur.size := by
  rcases h.2 with ⟨e, _⟩ | ⟨g', cap', cur, e, _, hh, hc, _, hs, _⟩
  · cases e
  · cases e; exact ⟨cur, hh, by rw [hs]; omega⟩
theorem rwn_ok {w : World} {b1 b2 n m g cap : Nat} {r : Rw} {xs : List Value} (h : RwN b1 w r) (ho : w.ownsRow b2 35 n (.slice (some ⟨g, 0, none⟩) m cap) m xs) : RwOk g w r := by
  obtain ⟨h1, h2, h3, h4⟩ := h
  refine ⟨h1, h2, h3, ?_⟩
  rcases h4 with h0 | ⟨b, off, cur, e, hb, hh, hc⟩
  · exact .inl h0
  · refine .inr (fun b' off' e' hbg => ?_)
    rw [e] at e'
    cases e'
    subst hbg
    obtain ⟨cur', hh'⟩ := own_blk ho
    rw [hh] at hh'
    simp at hh'
set_option maxHeartbeats 4000000 in
set_option maxRecDepth 100000 in
theorem sortnil (w : World) : Calls Tryd.prog 49 #[.slice none 0 0, .func (.func 21) #[] #[]] w fun e w' => e = .returned (.tuple #[]) ∧ w' = w := by
  have A : ∀ W, Calls Tryd.prog 74 #[.slice none 0 0, .int .i64 0, .int .i64 0, .func (.func 21) #[] #[]] W fun e w' => e = .returned (.tuple #[]) ∧ w' = W := fun W => by
    go_enter Tryd.func74, Tryd.ntmps74
    go_wp2_with fail
    refine wp_loop_rounds 1 ?_
    rw [rounds_succ]
    go_wp2
    exact ⟨rfl, .tuple #[], by simp [results, Tryd.results74, go_sem], rfl, rfl⟩
  have B : Calls Tryd.prog 63 #[.slice none 0 0, .int .i64 0, .func (.func 21) #[] #[]] w fun e w' => e = .returned (.tuple #[]) ∧ w' = w := by
    go_enter Tryd.func63, Tryd.ntmps63
    go_wp2_with fail
    refine wp_loop_rounds 1 ?_
    rw [rounds_succ]
    go_wp2_with fail
    refine (A _).mono ?_
    rintro e w1 ⟨rfl, rfl⟩
    go_wp2_with fail
    refine wp_loop_rounds 1 ?_
    rw [rounds_succ]
    go_wp2
    exact ⟨rfl, .tuple #[], by simp [results, Tryd.results63, go_sem], rfl, rfl⟩
  clear A
  go_enter Tryd.func49, Tryd.ntmps49
  go_wp2_with fail
  refine B.mono ?_
  rintro e w1 ⟨rfl, rfl⟩
  go_wp2
  exact ⟨rfl, .tuple #[], by simp [results, Tryd.results49, go_sem], rfl, rfl⟩
set_option maxHeartbeats 4000000 in
set_option maxRecDepth 100000 in
theorem sortst (base g cap : Nat) (d : List Rw) (w : World) (h : SD base g cap w d) (hd : d.length ≤ 40) :
    Calls Tryd.prog 49 #[.slice (some ⟨g, 0, none⟩) d.length cap, .func (.func 21) #[] #[]] w fun e w' => e = .returned (.tuple #[]) ∧ SD base g cap w' (stF d) ∧ Go1 g w w' := by
  have B := hid (stable_any base g cap d w h hd)
  generalize d.length = N at *
  clear h
  go_enter Tryd.func49, Tryd.ntmps49
  go_wp2_with fail
  refine B.out.mono ?_
  rintro e w1 ⟨rfl, h1, h2⟩
  have H1 := hid h1
  have H2 := hid h2
  clear h1 h2 B
  go_wp2
  exact ⟨rfl, .tuple #[], by simp [results, Tryd.results49, go_sem], rfl, H1.out, H2.out⟩
set_option maxHeartbeats 8000000 in
set_option maxRecDepth 100000 in
theorem sort_any (oa : Option Addr) (c : Nat) (l : List Rw) (w : World) (hl : l.length ≤ 40) (hp : RAt w oa l) (hr : ∀ r ∈ l, RwI w r) :
    Calls Tryd.prog 19 #[.slice oa l.length c] w (SrtP w (l.map (·.l))) := by
  have HP := hid hp
  have HR := hid hr
  obtain ⟨Q, hQ⟩ : ∃ Q, SrtP w (l.map (·.l)) = Q := ⟨_, rfl⟩
  rw [hQ]
  have HQ := hid hQ
  clear hp hr hQ
  go_enter Tryd.func19, Tryd.ntmps19
  go_wp2_with fail
  go_loopw [8, 3] (fun s8 s3 wr => ∃ (k : Nat) (d : List Rw), s8 = .int .i64 (k : Int) ∧ k ≤ l.length ∧ d.map (·.l) = (l.take k).map (·.l) ∧ wr.ownsRow w.heap.size 35 1 s3 d.length (cellsF rF d) ∧ (∀ r ∈ d, RwN w.heap.size wr r) ∧ (d = [] → s3 = .slice none 0 0) ∧ Gr w wr) (fun s8 _ _ => l.length - (intOf s8).toNat)
  case atStart => exact ⟨0, [], rfl, Nat.zero_le _, rfl, World.ownsRow_nil _ _ _ _, fun r hr => by simp at hr, fun _ => rfl, Gr.refl _⟩
  case round =>
    obtain ⟨k, d, rfl, hk, hmap, hown, hrw, hnl, hg⟩ := hrel
    have hdl : d.length = k := by
      have := congrArg List.length hmap
      simp at this
      omega
    have HM := hid hmap
    have HO := hid hown
    have HRW := hid hrw
    have HG := hid hg
    clear hmap hown hrw hg
    by_cases hlt : k < l.length
    · obtain ⟨b, off, rfl, c0⟩ := r_get (HP.out.keep HG.out) k hlt
      have hbb := lt_of_cell c0
      have hri := HR.out _ (List.getElem_mem hlt)
      have C := hid (copied_any l[k] wr hri.2.1 (hri.1.keep HG.out))
      have HK : Hid ((l.take (k + 1)).map (·.l) = (l.take k).map (·.l) ++ [l[k].l]) := hid (by rw [List.take_add_one, List.getElem?_eq_getElem hlt, List.map_append]; rfl)
      unfold rwV at C
      have g1 : decide ((k : Int) < (l.length : Int)) = true := by rw [decide_eq_true_iff]; omega
      have g2 : (k : Int) < (l.length : Int) := by omega
      have g3 : (0 : Int) ≤ (k : Int) := by omega
      generalize l[k] = x at *
      obtain ⟨N, hN⟩ : ∃ N, l.length = N := ⟨_, rfl⟩
      rw [hN] at hl hk hlt g1 g2 ⊢
      have HN := hid hN
      clear hN hri
      go_wp2_with fail
      refine C.out.mono ?_
      rintro e w1 ⟨r, rfl, hrl, hrn, hg1⟩
      obtain ⟨i0, hi0, hz0, hz1, hz2⟩ := info_parts r_info
      have HO1 := hid (own_keep HO.out hg1)
      have HRN := hid hrn
      have HRL := hid hrl
      have HG1 := hid hg1
      have hz : w.heap.size ≤ w1.heap.size := Nat.le_trans HG.out.size hg1.size
      clear C hrl hrn hg1 c0 hbb
      (try unfold rwV)
      go_wp2_with (at_builtin; refine wpList_append_own _ rfl _ _ 48 rfl w.heap.size 35 i0 (.slice none 0 0) 1 24 Tryd.underlying48 hi0 hz0 hz1 hz2 rfl (by decide) _ _ _ rfl (HO1.out.alloc _) ⟨w1.heap.size, 0, none⟩ 1 1 (rF r) rfl rfl ?ma1 ?ma2 ?ma3 ?ma4 ?ma5 ?_)
      case ma1 =>
        intro q u hu
        rw [addN, Nat.zero_add, Rg.blk_cells (heap_alloc_new _ _) q]
        simpa [rF, rwV] using hu
      case ma2 => exact rE.one _
      case ma3 => unfold maxLen; omega
      case ma4 => omega
      case ma5 => first | omega | (simp; omega)
      intro v' w3 hown3 hq8 _
      have FI : Hid (∃ (k' : Nat) (d' : List Rw), (Value.int .i64 ((k : Int) + 1)) = .int .i64 (k' : Int) ∧ k' ≤ N ∧ d'.map (·.l) = (l.take k').map (·.l) ∧ w3.ownsRow w.heap.size 35 1 v' d'.length (cellsF rF d') ∧ (∀ r ∈ d', RwN w.heap.size w3 r) ∧ (d' = [] → v' = .slice none 0 0) ∧ Gr w w3) := hid (by
        have ga : Gr w1 (w1.alloc (.cells (rF r).toArray 35)) := (Gr.refl _).alloc _
        have oz := oth_gz hq8 (HO1.out.alloc (.cells (rF r).toArray 35))
        refine ⟨k + 1, d ++ [r], by go_num, by omega, ?_, ?_, ?_, fun e => by simp at e, ?_⟩
        · rw [List.map_append, HM.out, HK.out, ← HRL.out]; rfl
        · rw [List.length_append, cellsF_snoc, hdl]; exact hown3
        · intro x hx
          rcases List.mem_append.1 hx with hx | hx
          · exact ((HRW.out x hx).oth (oth_gr (HG1.out.trans ga))).oth oz
          · rw [List.mem_singleton.1 hx]
            exact (((HRN.out).mono HG.out.size).oth (oth_gr ga)).oth oz
        · exact Gz.up ((HG.out.trans HG1.out).trans ga) hq8 (HO1.out.alloc _))
      clear hown3 hq8 HO1 HO HRW HM HRN HRL HK HG HG1
      go_wp2
      exact ⟨FI.out, by simp [intOf]; omega⟩
    · have hkl : k = l.length := by omega
      subst hkl
      have g1 : decide ((l.length : Int) < (l.length : Int)) = false := by rw [decide_eq_false_iff_not]; omega
      have HM2 : Hid (d.map (·.l) = l.map (·.l)) := hid (by have := HM.out; rw [List.take_length] at this; exact this)
      by_cases h0 : d = []
      · subst h0
        have hv0 := own_at0 rE HO.out
        obtain ⟨oa', c', rfl, _, hc0⟩ := hv0
        have hl0 : l.length = 0 := by simpa using hdl.symm
        have hnil : (Value.slice oa' ([] : List Rw).length c') = .slice none 0 0 := hnl rfl
        rw [hnil]
        clear hdl hlt
        generalize l.length = N at *
        subst hl0
        have CL := clipR none 0 0 wr (Nat.le_refl _)
        go_wp2_with fail
        refine (sortnil _).mono ?_
        rintro e w2 ⟨rfl, rfl⟩
        go_wp2_with fail
        refine CL.mono ?_
        rintro e w3 ⟨rfl, rfl⟩
        go_wp2
        rw [← HQ.out]
        exact ⟨none, [], rfl, HM2.out, HG.out, fun r hr => by simp [stF, insI] at hr, .inl rfl⟩
      · have hpos : 0 < d.length := List.length_pos_iff.2 h0
        obtain ⟨g, cap, rfl, hb, hgz, hcap⟩ := own_form HO.out hpos
        have hsd : SD w.heap.size g cap wr d := ⟨HO.out, fun r hr => rwn_ok (HRW.out r hr) HO.out⟩
        obtain ⟨cur, hcur⟩ := own_blk HO.out
        have hd40 : d.length ≤ 40 := by omega
        have S := hid (sortst w.heap.size g cap d wr hsd hd40)
        have CL := fun W => clipR (some ⟨g, 0, none⟩) d.length cap W hcap
        have HCUR := hid hcur
        have HD40 := hid hd40
        have HB := hid hb
        have HDL := hid hdl
        clear hsd h0 hcap hnl hdl hcur hd40 hpos HO
        obtain ⟨D, hD⟩ : ∃ n, d.length = n := ⟨_, rfl⟩
        rw [hD] at S CL ⊢
        have HD := hid hD
        clear hD
        go_wp2_with fail
        refine S.out.mono ?_
        rintro e w2 ⟨rfl, hs2, hgo⟩
        have HS2 := hid hs2
        have HGO := hid hgo
        clear hs2 hgo S
        go_wp2_with fail
        refine (CL w2).mono ?_
        rintro e w3 ⟨rfl, rfl⟩
        clear CL
        go_wp2
        rw [← HQ.out]
        have hpm := stF_perm d HD40.out
        obtain ⟨cur2, hcur2, hc2⟩ := own_blk2 HS2.out.own
        refine ⟨some ⟨g, 0, none⟩, d, by rw [HD.out]; rfl, HM2.out, HG.out.grown HGO.out (fun k e => by cases e; exact HB.out), fun r hr => (HRW.out r (hpm.mem_iff.1 hr)).oth (oth_go HGO.out HCUR.out), .inr ⟨g, cur2, rfl, HB.out, hcur2, by rw [← hpm.length_eq]; exact hc2, fun i hi => HS2.out.cell i (by rw [hpm.length_eq]; exact hi)⟩⟩
end Go.Proofs.YtacbhkmkknicoaaDoor

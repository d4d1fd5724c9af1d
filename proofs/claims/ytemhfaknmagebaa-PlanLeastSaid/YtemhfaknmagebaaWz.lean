/- plan: the walk through all plans. -/
import Derived.Test.YtemhfaknmagebaaWy
namespace Go.Proofs.Ytemhfaknmagebaa
open Go.RowKit
set_option linter.unusedSimpArgs false
set_option linter.unusedVariables false
attribute [local go_sem] Rg.once_normal Rg.once_exit Rg.once_ret Rg.once_panic Rg.once_goto Rg.leads_value Rg.leads_skip Rg.leads_enter Rg.brings_value Rg.brings_skip Rg.brings_enter
attribute [local go_sem] run_store_complex
theorem SAt.keep {w w' : World} {oa : Option Addr} {l : List Tb} (h : SAt w oa l) (hg : Gr w w') : SAt w' oa l := by
  rcases h with h | ⟨b, off, e, h⟩
  · exact .inl h
  · exact .inr ⟨b, off, e, h.keep hg⟩
theorem QAt.keep {w w' : World} {oa : Option Addr} {l : List Pr} (h : QAt w oa l) (hg : Gr w w') : QAt w' oa l := by
  rcases h with h | ⟨b, off, e, h⟩
  · exact .inl h
  · exact .inr ⟨b, off, e, h.keep hg⟩
/-- a row of plans, apart from the best one's cell -/
def ZRow (g : Nat) (w : World) (oa : Option Addr) (zs : List Zs) : Prop := ∀ k (h : k < zs.length), ∃ b, oa = some ⟨b, 0, none⟩ ∧ b ≠ g ∧ w.cell? ⟨b, k * 3, none⟩ = some (.slice zs[k].oa zs[k].s.l.length zs[k].c) ∧ w.cell? ⟨b, k * 3 + 1, none⟩ = some (.complex .f64 (Fl.fw zs[k].s.a) (Fl.fw zs[k].s.b)) ∧ w.cell? ⟨b, k * 3 + 2, none⟩ = some (.int .i64 zs[k].s.rows) ∧ Xv g zs[k].s zs[k].oa zs[k].c w
theorem ZRow.gx {g : Nat} {w w' : World} {oa : Option Addr} {zs : List Zs} (h : ZRow g w oa zs) (hg : Gx g w w') : ZRow g w' oa zs := fun k hk => by
  obtain ⟨b, e, hb, h1, h2, h3, h4⟩ := h k hk
  exact ⟨b, e, hb, hg.keep hb h1, hg.keep hb h2, hg.keep hb h3, h4.gx hg⟩
theorem Outs.row {g base : Nat} {zs : List Zs} {v : Value} {w : World} (h : Outs base zs v w) (hg : g < base) (hx : ∀ z ∈ zs, Sm z.s ∧ z.s.rows ≤ 9223372036854775807 ∧ z.s.l.length ≤ 1000000) : ∃ oa c, v = .slice oa zs.length c ∧ ZRow g w oa zs := by
  have hz : ∀ z ∈ zs, Xv g z.s z.oa z.c w := fun z hm => by
    obtain ⟨h1, h2, h3⟩ := h.ok z hm
    obtain ⟨a1, a2, a3⟩ := hx z hm
    exact ⟨h2, fun b o q e => by have := (h3 b o q e).1; omega, h1, a1, a2, a3⟩
  rcases h.own.2 with ⟨rfl, h0⟩ | ⟨b, cap, cur, rfl, hb, hc, _⟩
  · exact ⟨none, 0, by rw [h0], fun k hk => by omega⟩
  · refine ⟨_, _, rfl, fun k hk => ?_⟩
    obtain ⟨c0, c1, c2⟩ := zCells_get zs k hk
    have hadd : ∀ j, (⟨b, 0, none⟩ : Addr).add j = ⟨b, j, none⟩ := fun j => by unfold Addr.add; split <;> simp_all
    have d0 := h.own.cells (g := b) rfl _ _ c0
    have d1 := h.own.cells (g := b) rfl _ _ c1
    have d2 := h.own.cells (g := b) rfl _ _ c2
    rw [hadd] at d0 d1 d2
    exact ⟨b, rfl, by omega, d0, d1, d2, hz _ (List.getElem_mem hk)⟩
theorem ways_good {stats : List Tb} {preds : List Pr} {x y : St} {t : Int} (hx : Sm x) (hl : x.l.length ≤ 100000) (h : y ∈ waysR stats preds x t) : Sm y ∧ y.rows ≤ 9223372036854775807 ∧ y.l.length = x.l.length + 1 := by
  obtain ⟨j, hj⟩ := ways_from h
  have h1 := with_rows hj
  have h2 := with_l hj
  exact ⟨(with_sm hx hj).1, by omega, by rw [h2]; simp⟩
theorem probes_len (stats : List Tb) (preds : List Pr) (x : St) (t : Int) : ∀ (r : List Pr) (i : Nat) (least : Int), (probesR stats preds x t i r least).length ≤ r.length
  | [], _, _ => by simp [probesR]
  | p :: r, i, least => by
    unfold probesR
    have h1 := fun l => probes_len stats preds x t r (i + 1) l
    split
    · split
      · have := h1 least; simp; omega
      · split
        · have := h1 (rowsOf stats t p.c); simp; omega
        · have := h1 least; simp; omega
    · have := h1 least; simp; omega
theorem ways_len (stats : List Tb) (preds : List Pr) (x : St) (t : Int) : (waysR stats preds x t).length ≤ preds.length + 1 := by
  unfold waysR
  have := probes_len stats preds x t preds 0 (-1)
  rw [List.length_append]
  have h2 : (withR x (t, -1) stats preds).toList.length ≤ 1 := by cases withR x (t, -1) stats preds <;> simp
  omega
def stepG (stats : List Tb) (preds : List Pr) (f : Nat) (b y : St) : St := walkR aheadR stats preds f y b
def stepF (stats : List Tb) (preds : List Pr) (f : Nat) (x b : St) (t : Nat) : St := if hasP (t : Int) x.l = true then b else (waysR stats preds x (t : Int)).foldl (stepG stats preds f) b
theorem range_drop {n k : Nat} (h : k < n) : (List.range n).drop k = k :: (List.range n).drop (k + 1) := by
  rw [List.drop_eq_getElem_cons (by simpa using h)]; simp
section
variable {W0 : World} {os oq : Option Addr} {cs cq : Nat} {stats : List Tb} {preds : List Pr} {gB gS gP gW : Nat}
set_option maxHeartbeats 4000000 in
set_option maxRecDepth 100000 in
theorem walk_step (f : Nat) (hns : stats.length ≤ 1000) (hnq : preds.length ≤ 1000000) (hS : SAt W0 os stats) (hQ : QAt W0 oq preds)
    (IH : ∀ (x b : St) (oa : Option Addr) (c : Nat) (w : World), Wv W0 os oq cs cq stats preds gB gS gP gW b w → Xv gB x oa c w → x.l.length + f = stats.length →
      Calls Try.prog 12 #[x.val oa c, .pointer (some ⟨gB, 0, none⟩), .pointer (some ⟨gS, 0, none⟩), .pointer (some ⟨gP, 0, none⟩), .pointer (some ⟨gW, 0, none⟩)] w (WalkP W0 os oq cs cq stats preds gB gS gP gW w (walkR aheadR stats preds f x b)))
    (x b : St) (oa : Option Addr) (c : Nat) (w : World) (hv : Wv W0 os oq cs cq stats preds gB gS gP gW b w) (hx : Xv gB x oa c w) (hcut : ¬ (!b.l.isEmpty && lessS b x) = true) (hn : x.l.length + (f + 1) = stats.length) :
    Calls Try.prog 12 #[x.val oa c, .pointer (some ⟨gB, 0, none⟩), .pointer (some ⟨gS, 0, none⟩), .pointer (some ⟨gP, 0, none⟩), .pointer (some ⟨gW, 0, none⟩)] w (WalkP W0 os oq cs cq stats preds gB gS gP gW w ((List.range stats.length).foldl (stepF stats preds f x) b)) := by
  obtain ⟨ob, cb, c0, c1, c2, hbv⟩ := hv.best
  have L := fun W => less_any b.a b.b x.a x.b W hbv.sm.1 hbv.sm.2 hx.sm.1 hx.sm.2
  have HW := fun (t : Nat) (ht : t < stats.length) W (hW : Gr W0 W) (hxW : Xv gB x oa c W) => ways_any x oa os oq c cs cq stats preds t W ht hxW.n (by omega) hnq hxW.p (hS.keep hW) (hQ.keep hW) hxW.sm hxW.rows
  have HH := fun (t : Int) W (hxW : Xv gB x oa c W) => has_any oa c x.l (Fl.fw x.a) (Fl.fw x.b) x.rows t W (by have := hxW.n; omega) hxW.p
  have hl := lt_of_cell c0
  have HV := hid hv
  have HX := hid hx
  have HIH := hid IH
  have hsm := hid hx.sm
  have hne : gB ≠ w.heap.size := by omega
  have gb := hv.nb
  have gs1 := hv.ns
  have gs2 := hv.np
  have gs3 := hv.nw
  have en : ((x.l.length : Int) == (stats.length : Int)) = false := by rw [beq_eq_false_iff_ne]; omega
  have en2 : ¬ x.l.length = stats.length := by omega
  have en3 : (x.l.length == stats.length) = false := by rw [beq_eq_false_iff_ne]; omega
  have HWW := hid HW
  have HHH := hid HH
  obtain ⟨TT, hTT⟩ : ∃ T, (List.range stats.length).foldl (stepF stats preds f x) b = T := ⟨_, rfl⟩
  rw [hTT]
  have HT : Hid (((List.range stats.length).drop 0).foldl (stepF stats preds f x) b = TT) := hid hTT
  have hLb : Hid (b.l ≠ [] → lessB b.a b.b x.a x.b = false) := hid (fun hb => by
    have h2 : ¬ (lessS b x) = true := fun h => hcut (by simp [hb, h])
    simpa [lessS] using h2)
  have hlen : Hid (b.l = [] ↔ b.l.length = 0) := hid (by simp)
  have cS := hv.cS
  have cW := hv.cW
  have cP := hv.cP
  unfold St.val at *
  generalize Fl.fw x.a = XA at *
  generalize Fl.fw x.b = XB at *
  generalize lessB b.a b.b x.a x.b = lb at *
  generalize Fl.fw b.a = BA at *
  generalize Fl.fw b.b = BB at *
  have HL := hid L
  obtain ⟨nb, hnb⟩ : ∃ nb, b.l.length = nb := ⟨_, rfl⟩
  rw [hnb] at c0 hlen
  clear hv hx hbv IH HW HH hTT hcut L hnb hS hQ
  go_enter Try.func12, Try.ntmps12
  go_upto_region 1 with (fail)
  obtain ⟨W1, hW1⟩ : ∃ W, W = w.alloc (.cells #[.slice oa x.l.length c, .complex .f64 XA XB, .int .i64 x.rows] 47) := ⟨_, rfl⟩
  have gW1 : Gr w W1 := by rw [hW1]; exact (Gr.refl _).alloc _
  have x0 : W1.cell? ⟨w.heap.size, 0, none⟩ = some (.slice oa x.l.length c) := by rw [hW1]; go_simp
  have x1 : W1.cell? ⟨w.heap.size, 1, none⟩ = some (.complex .f64 XA XB) := by rw [hW1]; go_simp
  have x2 : W1.cell? ⟨w.heap.size, 2, none⟩ = some (.int .i64 x.rows) := by rw [hW1]; go_simp
  rw [← hW1]
  clear hW1
  have hl1 : gB < W1.heap.size := Nat.lt_of_lt_of_le hl gW1.size
  have hl2 := lt_of_cell x0
  have c0 := gW1.keep c0
  have c1 := gW1.keep c1
  go_cut [19] from 9 to 19 (fun s19 wx => s19 = .bool false ∧ W1 = wx)
  case first =>
    by_cases hb : b.l = []
    · have hb0 : nb = 0 := hlen.out.1 hb
      subst hb0
      clear hb hLb hlen
      go_wp2
      go_meet
      exact ⟨rfl, rfl⟩
    · have hb0 : 0 < nb := by have := hlen.out; have h2 : nb ≠ 0 := fun h => hb (this.2 h); omega
      have hlf : lb = false := hLb.out hb
      subst hlf
      clear hb hLb hlen
      go_wp2_with fail
      refine (HL.out _).mono ?_
      rintro e w' ⟨rfl, rfl⟩
      go_wp2
      go_meet
      exact ⟨rfl, rfl⟩
  case rest =>
    obtain ⟨rfl, rfl⟩ := hcut
    have cS := gW1.keep cS
    have cW := gW1.keep cW
    have cP := gW1.keep cP
    have hV1 := hid (HV.out.gr gW1)
    have hX1 := hid (HX.out.gr gW1)
    clear hLb hlen HL lb c0 c1 c2 HV HX
    have r0 : (0 : Nat) ≤ stats.length := Nat.zero_le _
    go_wp2_with fail
    go_loopw [54] (fun i wr => ∃ (k : Nat) (b' : St), i = .int .i64 k ∧ k ≤ stats.length ∧ Hid (Wv W0 os oq cs cq stats preds gB gS gP gW b' wr) ∧ Hid (Gx gB W1 wr) ∧ Hid (((List.range stats.length).drop k).foldl (stepF stats preds f x) b' = TT)) (fun i _ => stats.length - (intOf i).toNat)
    case atStart => exact ⟨0, b, rfl, r0, hV1, hid (Gx.refl _ _), HT⟩
    case round =>
      obtain ⟨k, b', rfl, hk, HV, HG, HT⟩ := hrel
      have y0 := HG.out.keep (Ne.symm hne) x0
      have y1 := HG.out.keep (Ne.symm hne) x1
      have y2 := HG.out.keep (Ne.symm hne) x2
      have z0 := lt_of_cell y0
      by_cases hlt : k < stats.length
      · have HT2 := HT.out
        rw [range_drop hlt, List.foldl_cons] at HT2
        have HT3 := hid HT2
        clear HT2 HT
        obtain ⟨hb, hhb⟩ : ∃ v, hasP (k : Int) x.l = v := ⟨_, rfl⟩
        have H0 := HHH.out k
        rw [hhb] at H0
        go_wp2_with fail
        refine (H0 _ (hX1.out.gx HG.out)).mono ?_
        rintro e w2 ⟨rfl, hg⟩
        have HV2 := hid (HV.out.gr hg)
        have HG2 := hid (HG.out.gr hg)
        have y0 := hg.keep y0
        have y1 := hg.keep y1
        have y2 := hg.keep y2
        have z0 := lt_of_cell y0
        have hHB := hid hhb
        clear hhb H0 HV HG hg
        cases hb
        · have HT4 : Hid (((List.range stats.length).drop (k + 1)).foldl (stepF stats preds f x) ((waysR stats preds x (k : Int)).foldl (stepG stats preds f) b') = TT) := hid (by
            rw [← HT3.out]; unfold stepF; rw [if_neg (by rw [hHB.out]; simp)])
          clear HT3
          have sS := HV2.out.cS
          have sP := HV2.out.cP
          have zS := lt_of_cell sS
          have zP := lt_of_cell sP
          go_wp2_with fail
          refine (HWW.out k hlt _ HV2.out.base (hX1.out.gx HG2.out)).mono ?_
          rintro e w3 ⟨v, zs, rfl, hzs, hO, hg3⟩
          obtain ⟨oz, cz, rfl, hZ⟩ := hO.row (g := gB) (by obtain ⟨_, _, c0, _⟩ := HV2.out.best; exact lt_of_cell c0) (fun z hz => by
            obtain ⟨a1, a2, a3⟩ := ways_good (stats := stats) (preds := preds) hsm.out (by omega) (show z.s ∈ waysR stats preds x (k : Int) by rw [← hzs]; exact List.mem_map_of_mem hz)
            exact ⟨a1, a2, by omega⟩)
          have hzl : zs.length ≤ 1000001 := by
            have := congrArg List.length hzs
            rw [List.length_map] at this
            have h2 := ways_len stats preds x (k : Int)
            omega
          have HT5 : Hid (((List.range stats.length).drop (k + 1)).foldl (stepF stats preds f x) (((zs.drop 0).map Zs.s).foldl (stepG stats preds f) b') = TT) := hid (by
            rw [← HT4.out, ← hzs]; rfl)
          have hys : Hid (∀ z ∈ zs, z.s.l.length = x.l.length + 1) := hid (fun z hz => (ways_good (stats := stats) (preds := preds) hsm.out (by omega) (show z.s ∈ waysR stats preds x (k : Int) by rw [← hzs]; exact List.mem_map_of_mem hz)).2.2)
          have HZ := hid hZ
          have HV3 := hid (HV2.out.gr hg3)
          have HG3 := hid (HG2.out.gr hg3)
          clear hO hZ hzs HV2 HT4 HG2 hg3 y0 y1 y2 sS sP zS zP
          go_wp2_with fail
          go_loopw [66] (fun i wq => ∃ (j : Nat) (bq : St), i = .int .i64 j ∧ j ≤ zs.length ∧ Hid (Wv W0 os oq cs cq stats preds gB gS gP gW bq wq) ∧ Hid (Gx gB W1 wq) ∧ Hid (ZRow gB wq oz zs) ∧ Hid (((List.range stats.length).drop (k + 1)).foldl (stepF stats preds f x) (((zs.drop j).map Zs.s).foldl (stepG stats preds f) bq) = TT)) (fun i _ => zs.length - (intOf i).toNat)
          case atStart => exact ⟨0, b', rfl, Nat.zero_le _, HV3, HG3, HZ, HT5⟩
          case round =>
            clear HV3 HG3 HZ HT5
            obtain ⟨j, bq, rfl, hj, HV, HG, HZ, HT⟩ := hrel
            by_cases hjl : j < zs.length
            · obtain ⟨bz, rfl, hbz, e0, e1, e2, hXz⟩ := HZ.out j hjl
              have HT2 := HT.out
              rw [List.drop_eq_getElem_cons hjl, List.map_cons, List.foldl_cons] at HT2
              have HT3 := hid HT2
              have hly := hid (hys.out _ (List.getElem_mem hjl))
              generalize zs[j] = z at *
              obtain ⟨y, oy, cy⟩ := z
              simp only at e0 e1 e2 hXz HT3 hly
              have hI := fun W (h1 : Wv W0 os oq cs cq stats preds gB gS gP gW bq W) (h2 : Xv gB y oy cy W) => HIH.out y bq oy cy W h1 h2 (by have := hly.out; omega)
              have HXz := hid hXz
              have HYG : Hid (stepG stats preds f bq y = walkR aheadR stats preds f y bq) := hid rfl
              generalize walkR aheadR stats preds f y bq = BN at *
              have HI := hid hI
              have sW := HV.out.cW
              have ze := lt_of_cell e0
              have zw := lt_of_cell sW
              clear HT2 HT hXz hI
              unfold St.val at *
              generalize Fl.fw y.a = YA at *
              generalize Fl.fw y.b = YB at *
              go_wp2_with fail
              with_reducible refine (HI.out _ (HV.out.gr ?_) (HXz.out.gr ?_)).mono ?_
              · exact (Gr.refl _).alloc _
              · exact (Gr.refl _).alloc _
              rintro e w4 ⟨rfl, hx4, hv4⟩
              have hxx := (Gx.of ((Gr.refl _).alloc _)).trans hx4
              have HV5 := hid hv4
              have HG5 := hid (HG.out.trans hxx)
              have HZ5 := hid (HZ.out.gx hxx)
              have HT5 := HT3.out
              rw [HYG.out] at HT5
              have HT6 := hid HT5
              clear HT5 HT3 hxx hx4 hv4 HG HZ HV
              go_wp2
              exact ⟨⟨j + 1, BN, by go_num, by omega, HV5, HG5, HZ5, HT6⟩, by simp [intOf]; omega⟩
            · obtain rfl : j = zs.length := by omega
              have HT2 := HT.out
              rw [List.drop_length, List.map_nil, List.foldl_nil] at HT2
              have HT3 := hid HT2
              clear HT2 HT
              go_wp2
              exact ⟨⟨k + 1, bq, by go_num, by omega, HV, HG, HT3⟩, by simp [intOf]; omega⟩
        · have HT4 : Hid (((List.range stats.length).drop (k + 1)).foldl (stepF stats preds f x) b' = TT) := hid (by
            rw [← HT3.out]; unfold stepF; rw [if_pos hHB.out])
          clear HT3
          go_wp2
          exact ⟨⟨k + 1, b', by go_num, by omega, HV2, HG2, HT4⟩, by simp [intOf]; omega⟩
      · obtain rfl : k = stats.length := by omega
        have HT2 := HT.out
        rw [List.drop_eq_nil_of_le (by simp)] at HT2
        have HT3 : Hid (b' = TT) := hid HT2
        clear HT HT2
        go_wp2
        refine bodyPost_ret (v := .tuple #[]) (by simp [results, Try.results12, go_sem]) rfl ⟨rfl, ?_, ?_⟩
        · exact (Gx.of gW1).trans HG.out
        · rw [← HT3.out]; exact HV.out
theorem walk_any (hns : stats.length ≤ 1000) (hnq : preds.length ≤ 1000000) (hS : SAt W0 os stats) (hQ : QAt W0 oq preds) : ∀ (f : Nat) (x b : St) (oa : Option Addr) (c : Nat) (w : World), Wv W0 os oq cs cq stats preds gB gS gP gW b w → Xv gB x oa c w → x.l.length + f = stats.length →
      Calls Try.prog 12 #[x.val oa c, .pointer (some ⟨gB, 0, none⟩), .pointer (some ⟨gS, 0, none⟩), .pointer (some ⟨gP, 0, none⟩), .pointer (some ⟨gW, 0, none⟩)] w (WalkP W0 os oq cs cq stats preds gB gS gP gW w (walkR aheadR stats preds f x b))
  | 0, x, b, oa, c, w, hv, hx, hn => by
    unfold walkR
    by_cases h : (!b.l.isEmpty && lessS b x) = true
    · rw [if_pos h]
      simp only [Bool.and_eq_true, Bool.not_eq_true', List.isEmpty_eq_false_iff] at h
      exact walk_cut x b oa c w hv hx h.1 h.2
    · rw [if_neg h, if_pos (by omega)]
      exact walk_full x b oa c w hv hx h (by omega)
  | f + 1, x, b, oa, c, w, hv, hx, hn => by
    unfold walkR
    by_cases h : (!b.l.isEmpty && lessS b x) = true
    · rw [if_pos h]
      simp only [Bool.and_eq_true, Bool.not_eq_true', List.isEmpty_eq_false_iff] at h
      exact walk_cut x b oa c w hv hx h.1 h.2
    · rw [if_neg h, if_neg (by omega)]
      exact walk_step f hns hnq hS hQ (fun x b oa c w hv hx hn => walk_any hns hnq hS hQ f x b oa c w hv hx hn) x b oa c w hv hx h (by omega)
end
end Go.Proofs.Ytemhfaknmagebaa

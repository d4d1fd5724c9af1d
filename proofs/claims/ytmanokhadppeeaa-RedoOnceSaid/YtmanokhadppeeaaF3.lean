/- redo: the reference's Redo. -/
import Derived.Test.YtmanokhadppeeaaF2
import Derived.Test.YtmanokhadppeeaaRq
import Derived.Laws.AppendOwnNone
namespace Go.Proofs.Ytmanokhadppeeaa
open Go.RowKit
set_option linter.unusedSimpArgs false
set_option linter.unusedVariables false
attribute [local go_sem] Rg.leads_value Rg.leads_skip Rg.leads_enter Rg.brings_value Rg.brings_skip Rg.brings_enter Rg.bringsG_value Rg.bringsG_enter
def gF (x : Pg) : List Value := [.int .i64 x.p, .int .i64 x.lsn]
theorem gE : Enc gF 2 := ⟨fun _ => rfl, fun x u hu => by simp [gF] at hu; rcases hu with rfl | rfl <;> rfl, by omega⟩
abbrev GAt := AtF gF 2
theorem g_info : (Try.prog.info? 42).map (fun i => (i.zero, i.size, i.bytes)) = some (some (.agg #[.int .i64 0, .int .i64 0]), 2, 16) := by kernel_rfl
theorem g_get {w : World} {base : Nat} {v : Value} {l : List Pg} (h : w.ownsRow base 42 2 v l.length (cellsF gF l)) (k : Nat) (hk : k < l.length) : ∃ g cap, v = .slice (some ⟨g, 0, none⟩) l.length cap ∧ base ≤ g ∧ g < w.heap.size ∧ l.length ≤ cap ∧ w.cell? ⟨g, k * 2, none⟩ = some (.int .i64 l[k].p) ∧ w.cell? ⟨g, k * 2 + 1, none⟩ = some (.int .i64 l[k].lsn) := by
  obtain ⟨g, cap, rfl, hb, hl, hc⟩ := own_form h (by omega)
  have c0 := h.cells (g := g) rfl (k * 2 + 0) _ (by rw [gE.cells_get l k hk 0 (by omega)]; rfl)
  have c1 := h.cells (g := g) rfl (k * 2 + 1) _ (by rw [gE.cells_get l k hk 1 (by omega)]; rfl)
  rw [addN, Nat.zero_add] at c0 c1
  exact ⟨g, cap, rfl, hb, hl, hc, c0, c1⟩
def F3Rel (w : World) (l : List Ln) (ds : List Dy) (R : List Int) (n0 : Nat) (s7 s8 s9 : Value) (wr : World) : Prop := ∃ (i : Nat) (s : Fs), s9 = .int .i64 (i : Int) ∧ i ≤ l.length ∧ Gr w wr ∧ wr.ownsRow w.heap.size 42 2 s7 s.now.length (cellsF gF s.now) ∧ wr.ownsRow w.heap.size 3 1 s8 s.out.length (cellsF iF s.out) ∧ s.now.length ≤ n0 + i ∧ s.out.length ≤ i ∧ ((l.drop i).foldl (stepF ds) s).out = R
def F3D (w : World) (ds : List Dy) (q : Int) (V : Bool × Int) (s11 s12 s13 : Value) (wr : World) : Prop := ∃ (k : Nat) (a : Bool × Int), s13 = .int .i64 (k : Int) ∧ s11 = .bool a.1 ∧ s12 = .int .i64 a.2 ∧ k ≤ ds.length ∧ Gr w wr ∧ lastV (fun d : Dy => d.page == q) Dy.lsn (ds.drop k) a = V
def F3P (w : World) (now : List Pg) (q : Int) (A : Int) (s14 s15 : Value) (wr : World) : Prop := ∃ (k : Nat) (a : Int), s15 = .int .i64 (k : Int) ∧ s14 = .int .i64 a ∧ k ≤ now.length ∧ Gr w wr ∧ lastI (fun x : Pg => x.p == q) (now.drop k) k a = A
theorem lastI_bd {α : Type} (q : α → Bool) : ∀ (l : List α) (i : Nat) (a : Int), lastI q l i a = a ∨ ∃ k, k < l.length ∧ lastI q l i a = ((i + k : Nat) : Int)
  | [], i, a => .inl rfl
  | x :: r, i, a => by
    rw [lastI]
    rcases lastI_bd q r (i + 1) (if q x = true then (i : Int) else a) with h | ⟨k, hk, h⟩
    · rw [h]
      split
      · exact .inr ⟨0, by simp, by simp⟩
      · exact .inl rfl
    · exact .inr ⟨k + 1, by simpa using hk, by rw [h]; congr 1; omega⟩
theorem lastI_drop {α : Type} {q : α → Bool} {l : List α} {k : Nat} {a : Int} (h : k < l.length) : lastI q (l.drop k) k a = lastI q (l.drop (k + 1)) (k + 1) (if q l[k] = true then (k : Int) else a) := by
  rw [List.drop_eq_getElem_cons h]; rfl
theorem lastV_drop {α : Type} {q : α → Bool} {f : α → Int} {l : List α} {k : Nat} {a : Bool × Int} (h : k < l.length) : lastV q f (l.drop k) a = lastV q f (l.drop (k + 1)) (if q l[k] = true then (true, f l[k]) else a) := by
  rw [List.drop_eq_getElem_cons h]; rfl
set_option maxHeartbeats 4000000 in
set_option maxRecDepth 100000 in
theorem refw_all (ol : Option Addr) (cl : Nat) (l : List Ln) (od : Option Addr) (cd : Nat) (ds : List Dy) (op : Option Addr) (cp : Nat) (pg : List Pg) (w : World) (hl : l.length ≤ 1000000) (hdl : ds.length ≤ 1000000) (hgl : pg.length ≤ 1000000) (hL : LAt w ol l) (hD : DAt w od ds) (hP : GAt w op pg) (hpn : op = none → cp = 0) :
    Calls Try.prog 13 #[.slice ol l.length cl, .slice od ds.length cd, .slice op pg.length cp] w fun e w' => ∃ v, e = .returned v ∧ w'.ownsRow w.heap.size 3 1 v (refR l ds pg).length (cellsF iF (refR l ds pg)) ∧ Gr w w' := by
  obtain ⟨R, hR⟩ : ∃ R, refR l ds pg = R := ⟨_, rfl⟩
  have HR : Hid (((l.drop 0).foldl (stepF ds) ⟨pg, []⟩).out = R) := hid hR
  rw [hR]
  have HL := hid hL
  have HD := hid hD
  have HP := hid hP
  have HN := hid hpn
  obtain ⟨i0, hi0, hz0, hz1, hz2⟩ := info_parts g_info
  clear hL hD hP hR hpn
  go_enter Try.func13, Try.ntmps13
  go_upto_region 2 with (fail)
  go_cut [7] from 16 to 18 (fun s7 wx => Hid (wx.ownsRow w.heap.size 42 2 s7 pg.length (cellsF gF pg)) ∧ Gr w wx)
  case first =>
    cases op with
    | none =>
      obtain rfl : cp = 0 := HN.out rfl
      have hp0 : pg = [] := by
        rcases HP.out with h | ⟨b, off, h, _⟩
        · exact h
        · cases h
      subst hp0
      simp only [List.length_nil]
      go_wp2_with (at_builtin; refine wpList_append_own_none rfl _ _ 40 rfl w.heap.size 42 i0 2 Try.underlying40 hi0 _ 0 [] rfl (World.ownsRow_nil w w.heap.size 42 2) rfl ?_)
      go_meet
      exact ⟨hid (World.ownsRow_nil _ _ _ _), Gr.refl _⟩
    | some ag =>
      have HC : Hid (∀ j u, (cellsF gF pg)[j]? = some u → w.cell? (ag.add j) = some u) := hid (by
        rcases HP.out with h | ⟨b, off, h, hb, hr⟩
        · subst h; intro j u hu; simp [cellsF] at hu
        · cases h; exact hr.cells gE)
      go_wp2_with (at_builtin; refine wpList_append_own _ rfl _ _ 40 rfl w.heap.size 42 i0 (.agg #[.int .i64 0, .int .i64 0]) 2 16 Try.underlying40 hi0 hz0 hz1 hz2 rfl (by decide) _ _ _ rfl (World.ownsRow_nil w w.heap.size 42 2) ag pg.length cp (cellsF gF pg) rfl (gE.cells_len pg) ?ma1 ?ma2 ?ma3 ?ma4 ?ma5 ?_)
      case ma1 => exact HC.out
      case ma2 => exact gE.cells_one pg
      case ma3 => unfold maxLen; omega
      case ma4 => omega
      case ma5 => omega
      intro v7 w7 hown hg7 _
      have HO : Hid (w7.ownsRow w.heap.size 42 2 v7 pg.length (cellsF gF pg)) := hid (by simpa using hown)
      have HG : Gr w w7 := (Gr.refl w).grown hg7 (fun b hb => by simp [Value.ownBlock] at hb)
      clear hown hg7 HC
      go_wp2
      go_meet
      exact ⟨HO, HG⟩
  case rest =>
    obtain ⟨HO, hg⟩ := hcut
    have S0 : Hid (F3Rel w l ds R pg.length u7 (.slice none 0 0) (.int .i64 0) wc) := hid ⟨0, ⟨pg, []⟩, rfl, Nat.zero_le _, hg, HO.out, World.ownsRow_nil _ _ _ _, by simp, Nat.le_refl _, HR.out⟩
    clear HR HO hg HP HN
    go_wp2_with fail
    go_loopw [7, 8, 9] (fun s7 s8 s9 wr => F3Rel w l ds R pg.length s7 s8 s9 wr) (fun _ _ s9 _ => l.length - (intOf s9).toNat)
    case atStart => exact S0.out
    case round =>
      clear S0
      obtain ⟨i, s, rfl, hi, hg, hO7, hO8, hb7, hb8, hR⟩ := hrel
      have HO7 := hid hO7
      have HO8 := hid hO8
      have HR := hid hR
      clear hO7 hO8 hR
      by_cases hlt : i < l.length
      · obtain ⟨b, off, rfl, c0, c1, c2, c3, c4, c5, c6, c7, c8, c9, c10, c11⟩ := n_get (HL.out.keep hg) i hlt
        have hbb := lt_of_cell c0
        have zbw : b < w.heap.size := by
          obtain ⟨b', off', e', d, -⟩ := n_get HL.out i hlt
          cases e'
          exact lt_of_cell d
        have hst : Hid (((l.drop (i + 1)).foldl (stepF ds) (stepF ds s l[i])).out = R) := hid (by rw [← HR.out, List.drop_eq_getElem_cons hlt]; rfl)
        clear HR
        generalize l[i] = x at *
        have g1 : decide ((l.length : Int) ≤ (i : Int)) = false := by rw [decide_eq_false_iff_not]; omega
        have g2 : (i : Int) < (l.length : Int) := by omega
        have g3 : (0 : Int) ≤ (i : Int) := by omega
        go_upto_region 8 with (fail)
        obtain ⟨W, hW⟩ : ∃ W, W = wr.alloc (.cells #[.int .i64 x.kind, .int .i64 x.txn, .int .i64 x.prev, .int .i64 x.next, .int .i64 x.page, .int .i64 x.off, .slice x.ob x.bs.length x.cb, .slice x.oa x.es.length x.ca, .slice x.ot x.ts.length x.ct, .slice x.od x.ds.length x.cd, .int .i64 x.cnt] 32) := ⟨_, rfl⟩
        have gW : Gr wr W := by rw [hW]; exact (Gr.refl _).alloc _
        have n0 : W.cell? ⟨wr.heap.size, 0, none⟩ = some (.int .i64 x.kind) := by rw [hW]; go_simp
        have n4 : W.cell? ⟨wr.heap.size, 4, none⟩ = some (.int .i64 x.page) := by rw [hW]; go_simp
        have TX : Ty 32 W wr.heap.size := by rw [hW]; exact Ty.new _ _ _
        rw [← hW]
        have GW := hg.trans gW
        have l0 := gW.keep c0
        have HO7 := hid (own_keep HO7.out gW)
        have HO8 := hid (own_keep HO8.out gW)
        have HDW := hid (HD.out.keep GW)
        have zx := lt_of_cell n0
        have zb := lt_of_cell l0
        clear hW c0 c1 c2 c3 c4 c5 c6 c7 c8 c9 c10 c11 hbb gW hg
        generalize wr.heap.size = xb at *
        generalize Value.agg #[.int .i64 x.kind, .int .i64 x.txn, .int .i64 x.prev, .int .i64 x.next, .int .i64 x.page, .int .i64 x.off, .slice x.ob x.bs.length x.cb, .slice x.oa x.es.length x.ca, .slice x.ot x.ts.length x.ct, .slice x.od x.ds.length x.cd, .int .i64 x.cnt] = rv
        obtain ⟨ch, hch⟩ : ∃ q, chB x.kind = q := ⟨_, rfl⟩
        have HCH := hid hch
        clear hch
        obtain ⟨nb, hnb⟩ : ∃ q, (!ch) = q := ⟨_, rfl⟩
        have HNB := hid hnb
        clear hnb
        go_cut [37] from 30 to 37 (fun s37 wx => s37 = .bool nb ∧ wx = W)
        case first =>
          by_cases h2 : x.kind = 2
          · have e1 : nb = false := by rw [← HNB.out, ← HCH.out, h2]; rfl
            have e2 : (x.kind != 2) = false := by simpa using h2
            subst e1
            clear h2
            go_wp2
            go_meet
            exact ⟨rfl, rfl⟩
          · have e0 : (x.kind == 2) = false := by simpa using h2
            have e2 : (x.kind != 2) = true := by simpa using h2
            have e1 : Hid (nb = !(x.kind == 3)) := hid (by rw [← HNB.out, ← HCH.out]; unfold chB; rw [e0]; rfl)
            clear e0
            by_cases h3 : x.kind = 3
            · have e3 : (x.kind == 3) = true := by simpa using h3
              have e1 : nb = false := by rw [e1.out, e3]; rfl
              have e3 : (x.kind != 3) = false := by simpa using h3
              subst e1
              clear h2 h3
              go_wp2
              go_meet
              exact ⟨rfl, rfl⟩
            · have e3 : (x.kind == 3) = false := by simpa using h3
              have e1 : nb = true := by rw [e1.out, e3]; rfl
              have e3 : (x.kind != 3) = true := by simpa using h3
              subst e1
              clear h2 h3
              go_wp2
              go_meet
              exact ⟨rfl, rfl⟩
        case rest =>
          obtain ⟨rfl, hw⟩ := hcut
          subst hw
          cases ch
          · obtain rfl : nb = true := HNB.out.symm
            have FI : Hid (F3Rel w l ds R pg.length u7 u8 (.int .i64 ((i : Int) + 1)) wc) := hid ⟨i + 1, s, by go_num, by omega, GW, HO7.out, HO8.out, by omega, by omega, by rw [← hst.out]; unfold stepF; rw [if_pos HCH.out]⟩
            clear HO7 HO8 hst
            go_wp2
            exact ⟨FI.out, by simp [intOf]; omega⟩
          · obtain rfl : nb = false := HNB.out.symm
            obtain ⟨V, hV⟩ : ∃ q, lastV (fun d : Dy => d.page == x.page) Dy.lsn ds (false, 0) = q := ⟨_, rfl⟩
            have hs : Hid (stepF ds s x = if (!V.1 || decide (x.lsn < V.2)) = true then s else doR (atR s x.page).1 (atR s x.page).2.toNat s.out x.lsn) := hid (by unfold stepF; rw [if_neg (by rw [HCH.out]; simp), hV])
            have HV := hid hV
            clear hV HCH HNB
            go_wp2_with fail
            go_loopw [11, 12, 13] (fun s11 s12 s13 wq => F3D wc ds x.page V s11 s12 s13 wq) (fun _ _ s13 _ => ds.length - (intOf s13).toNat)
            case atStart => exact ⟨0, (false, 0), rfl, rfl, rfl, Nat.zero_le _, Gr.refl _, HV.out⟩
            case round =>
              obtain ⟨k, a, rfl, rfl, rfl, hk, hgq, ha⟩ := hrel
              have HA := hid ha
              have l0 := hgq.keep l0
              have n0 := hgq.keep n0
              have n4 := hgq.keep n4
              have zx := lt_of_cell n0
              have zb := lt_of_cell l0
              clear ha HV
              by_cases hkt : k < ds.length
              · obtain ⟨b1, off1, rfl, d0, d1⟩ := d_get (HDW.out.keep hgq) k hkt
                have zd := lt_of_cell d0
                have f1 : decide ((ds.length : Int) ≤ (k : Int)) = false := by rw [decide_eq_false_iff_not]; omega
                have f2 : (k : Int) < (ds.length : Int) := by omega
                have f3 : (0 : Int) ≤ (k : Int) := by omega
                obtain ⟨tb, htb⟩ : ∃ z, (ds[k].page == x.page) = z := ⟨_, rfl⟩
                have HA2 : Hid (lastV (fun d : Dy => d.page == x.page) Dy.lsn (ds.drop (k + 1)) (if tb = true then (true, ds[k].lsn) else a) = V) := hid (by rw [← HA.out, lastV_drop hkt]; simp only [htb])
                clear HA
                generalize ds[k].page = p at *
                generalize ds[k].lsn = dl at *
                have hg0 := hgq
                go_upto_region 14 with (fail)
                refine Rg.region_text 7 (Below.drew (Below.refl _ _)) (by kernel_rfl) (by kernel_rfl) (fun _ _ d _ _ h => by cases d <;> exact h) ?_
                simp only [List.append_eq, List.cons_append, List.nil_append, List.take_succ_cons, List.take_zero, List.drop_succ_cons, List.drop_zero]
                repeat (first
                    | (refine Rg.wpDets_skip (by rfl) ?_; simp only [Act.put, List.setIfInBounds_toArray, List.set_cons_zero, List.set_cons_succ])
                    | (refine Rg.wpDets_step ?_ (by rfl) (fun w hS => ?_) ?_
                       rotate_left
                       · have hc := Gr.cells hS
                         have hf := Gr.frees hS
                         go_simp
                         first
                         | (refine ⟨?_, Below.refl _ _⟩; with_reducible rfl)
                       simp only [Act.put, List.setIfInBounds_toArray, List.set_cons_zero, List.set_cons_succ]))
                refine Rg.wpDets_nil ?_
                refine Rg.wpFlts_nil ?_
                refine Rg.wpLays_nil ?_
                intro w1 hK
                have hg : Gr _ w1 := hK.up
                have hc := Gr.cells hg
                have hf := Gr.frees hg
                have hz := Gr.size hg
                try simp only [World.size_alloc, World.size_setCell, World.size_drew] at hz
                try have : 0 < w1.heap.size := by omega
                try have : w.heap.size < w1.heap.size := by omega
                try have : w.heap.size + 1 < w1.heap.size := by omega
                try have : w.heap.size + 1 + 1 < w1.heap.size := by omega
                try have : w.heap.size + 1 + 1 + 1 < w1.heap.size := by omega
                have HG := hid (hg0.trans hg)
                have HE := hid htb
                cases tb
                · have FI : Hid (F3D wc ds x.page V (.bool a.1) (.int .i64 a.2) (.int .i64 ((k : Int) + 1)) w1) := hid ⟨k + 1, a, by go_num, rfl, rfl, by omega, HG.out, HA2.out⟩
                  clear HA2
                  go_wp2
                  exact ⟨FI.out, by simp [intOf]; omega⟩
                · have FI : Hid (F3D wc ds x.page V (.bool true) (.int .i64 dl) (.int .i64 ((k : Int) + 1)) w1) := hid ⟨k + 1, (true, dl), by go_num, rfl, rfl, by omega, HG.out, HA2.out⟩
                  clear HA2
                  go_wp2
                  exact ⟨FI.out, by simp [intOf]; omega⟩
              · obtain rfl : k = ds.length := by omega
                have f1 : decide ((ds.length : Int) ≤ (ds.length : Int)) = true := by rw [decide_eq_true_iff]; omega
                have hVe : a = V := by rw [← HA.out, List.drop_length]; rfl
                subst hVe
                have GQ := GW.trans hgq
                have HO7 := hid (own_keep HO7.out hgq)
                have HO8 := hid (own_keep HO8.out hgq)
                have TX := TX.gr hgq
                clear HA HDW hgq
                obtain ⟨vb, vl⟩ := a
                simp only at *
                cases vb
                · have FI : Hid (F3Rel w l ds R pg.length u7 u8 (.int .i64 ((i : Int) + 1)) wr) := hid ⟨i + 1, s, by go_num, by omega, GQ, HO7.out, HO8.out, by omega, by omega, by rw [← hst.out, hs.out]; rfl⟩
                  clear HO7 HO8 hst hs
                  go_wp2
                  exact ⟨FI.out, by simp [intOf]; omega⟩
                · by_cases hvl : x.lsn < vl
                  · have gv : decide (x.lsn < vl) = true := by simpa using hvl
                    have FI : Hid (F3Rel w l ds R pg.length u7 u8 (.int .i64 ((i : Int) + 1)) wr) := hid ⟨i + 1, s, by go_num, by omega, GQ, HO7.out, HO8.out, by omega, by omega, by rw [← hst.out, hs.out, gv]; rfl⟩
                    clear HO7 HO8 hst hs hvl
                    go_wp2
                    exact ⟨FI.out, by simp [intOf]; omega⟩
                  · have gv : decide (x.lsn < vl) = false := by simpa using hvl
                    have hs : Hid (stepF ds s x = doR (atR s x.page).1 (atR s x.page).2.toNat s.out x.lsn) := hid (by rw [hs.out, gv]; rfl)
                    clear hvl
                    obtain ⟨o7, c7, e7, hat7, hc7, hb07⟩ := own_at gE HO7.out
                    subst e7
                    have HAT := hid hat7
                    have HB7 := hid hb07
                    have HS0 := hid (lastI_bd (fun y : Pg => y.p == x.page) s.now 0 (-1))
                    have hs : Hid (stepF ds s x = doR (if lastI (fun y : Pg => y.p == x.page) s.now 0 (-1) < 0 then s.now ++ [⟨x.page, 0⟩] else s.now) (if lastI (fun y : Pg => y.p == x.page) s.now 0 (-1) < 0 then (s.now.length : Int) else lastI (fun y : Pg => y.p == x.page) s.now 0 (-1)).toNat s.out x.lsn) := hid (by
                      rw [hs.out]; unfold atR; split <;> rfl)
                    obtain ⟨A, hA⟩ : ∃ q, lastI (fun y : Pg => y.p == x.page) s.now 0 (-1) = q := ⟨_, rfl⟩
                    rw [hA] at hs HS0
                    have HA := hid hA
                    clear hat7 hA hb07
                    go_wp2_with fail
                    go_loopw [14, 15] (fun s14 s15 wq => F3P wr s.now x.page A s14 s15 wq) (fun _ s15 _ => s.now.length - (intOf s15).toNat)
                    case atStart => exact ⟨0, -1, rfl, rfl, Nat.zero_le _, Gr.refl _, HA.out⟩
                    case round =>
                      obtain ⟨k, a, rfl, rfl, hk, hgq, ha⟩ := hrel
                      have HA := hid ha
                      have l0 := hgq.keep l0
                      have n0 := hgq.keep n0
                      have n4 := hgq.keep n4
                      have zx := lt_of_cell n0
                      have zb := lt_of_cell l0
                      clear ha
                      by_cases hkt : k < s.now.length
                      · obtain ⟨b1, off1, e1, hl1, hc1⟩ := (HAT.out.keep hgq).get k hkt
                        subst e1
                        have d0 : wr.cell? ⟨b1, off1 + k * 2, none⟩ = some (.int .i64 s.now[k].p) := by simpa using hc1 0 _ rfl
                        have zd := lt_of_cell d0
                        have f1 : decide ((s.now.length : Int) ≤ (k : Int)) = false := by rw [decide_eq_false_iff_not]; omega
                        have f2 : (k : Int) < (s.now.length : Int) := by omega
                        have f3 : (0 : Int) ≤ (k : Int) := by omega
                        obtain ⟨tb, htb⟩ : ∃ z, (s.now[k].p == x.page) = z := ⟨_, rfl⟩
                        have HA2 : Hid (lastI (fun y : Pg => y.p == x.page) (s.now.drop (k + 1)) (k + 1) (if tb = true then (k : Int) else a) = A) := hid (by rw [← HA.out, lastI_drop hkt]; simp only [htb])
                        clear HA hc1
                        generalize s.now[k].p = p at *
                        have hg0 := hgq
                        go_upto_region 22 with (fail)
                        refine Rg.region_text 7 (Below.drew (Below.refl _ _)) (by kernel_rfl) (by kernel_rfl) (fun _ _ d _ _ h => by cases d <;> exact h) ?_
                        simp only [List.append_eq, List.cons_append, List.nil_append, List.take_succ_cons, List.take_zero, List.drop_succ_cons, List.drop_zero]
                        repeat (first
                            | (refine Rg.wpDets_skip (by rfl) ?_; simp only [Act.put, List.setIfInBounds_toArray, List.set_cons_zero, List.set_cons_succ])
                            | (refine Rg.wpDets_step ?_ (by rfl) (fun w hS => ?_) ?_
                               rotate_left
                               · have hc := Gr.cells hS
                                 have hf := Gr.frees hS
                                 go_simp
                                 first
                                 | (refine ⟨?_, Below.refl _ _⟩; with_reducible rfl)
                               simp only [Act.put, List.setIfInBounds_toArray, List.set_cons_zero, List.set_cons_succ]))
                        refine Rg.wpDets_nil ?_
                        refine Rg.wpFlts_nil ?_
                        refine Rg.wpLays_nil ?_
                        intro w1 hK
                        have hg : Gr _ w1 := hK.up
                        have hc := Gr.cells hg
                        have hf := Gr.frees hg
                        have hz := Gr.size hg
                        try simp only [World.size_alloc, World.size_setCell, World.size_drew] at hz
                        try have : 0 < w1.heap.size := by omega
                        try have : w.heap.size < w1.heap.size := by omega
                        try have : w.heap.size + 1 < w1.heap.size := by omega
                        try have : w.heap.size + 1 + 1 < w1.heap.size := by omega
                        try have : w.heap.size + 1 + 1 + 1 < w1.heap.size := by omega
                        have HG := hid (hg0.trans hg)
                        have HE := hid htb
                        cases tb
                        · have FI : Hid (F3P _ s.now x.page A (.int .i64 a) (.int .i64 ((k : Int) + 1)) w1) := hid ⟨k + 1, a, by go_num, rfl, by omega, HG.out, HA2.out⟩
                          clear HA2
                          go_wp2
                          exact ⟨FI.out, by simp [intOf]; omega⟩
                        · have FI : Hid (F3P _ s.now x.page A (.int .i64 (k : Int)) (.int .i64 ((k : Int) + 1)) w1) := hid ⟨k + 1, (k : Int), by go_num, rfl, by omega, HG.out, HA2.out⟩
                          clear HA2
                          go_wp2
                          exact ⟨FI.out, by simp [intOf]; omega⟩
                      · obtain rfl : k = s.now.length := by omega
                        have f1 : decide ((s.now.length : Int) ≤ (s.now.length : Int)) = true := by rw [decide_eq_true_iff]; omega
                        have hAe : a = A := by rw [← HA.out, List.drop_length]; rfl
                        subst hAe
                        have GQ := GQ.trans hgq
                        have HO7 := hid (own_keep HO7.out hgq)
                        have HO8 := hid (own_keep HO8.out hgq)
                        have TX := TX.gr hgq
                        clear HA hgq HAT
                        obtain ⟨now2, hn2⟩ : ∃ z, (if a < 0 then s.now ++ [⟨x.page, 0⟩] else s.now) = z := ⟨_, rfl⟩
                        obtain ⟨K, hK⟩ : ∃ z, (if a < 0 then (s.now.length : Int) else a).toNat = z := ⟨_, rfl⟩
                        rw [hn2, hK] at hs
                        have hKl : K < now2.length ∧ now2.length ≤ s.now.length + 1 := by
                          rw [← hn2, ← hK]
                          split
                          · simp
                          · rcases HS0.out with h | ⟨k', h1, h2⟩
                            · omega
                            · omega
                        have HN2 := hid hn2
                        have HK := hid hK
                        clear hn2 hK HS0
                        obtain ⟨i0, hi0, hz0, hz1, hz2⟩ := info_parts g_info
                        have hwb := GQ.size
                        obtain ⟨ab, hab⟩ : ∃ z, decide (a < 0) = z := ⟨_, rfl⟩
                        go_upto_if 84 with (fail)
                        go_cut [7, 14] from 85 to 92 (fun s7 s14 wx => s14 = .int .i64 (K : Int) ∧ Hid (wx.ownsRow w.heap.size 42 2 s7 now2.length (cellsF gF now2)) ∧ Hid (Gz (.slice o7 s.now.length c7) wr wx))
                        case first =>
                          by_cases ha0 : a < 0
                          · have ga : decide (a < 0) = true := by simpa using ha0
                            have hab2 : ab = true := by rw [← hab]; exact ga
                            subst hab2
                            clear hab
                            have e1 : K = s.now.length := by rw [← HK.out, if_pos ha0]; simp
                            have e2 := HN2.out
                            rw [if_pos ha0] at e2
                            have HE1 := hid e1
                            have HE2 := hid e2
                            clear e1 e2 ha0 HK HN2
                            go_wp2_with (at_builtin; refine wpList_append_own _ rfl _ _ 40 rfl w.heap.size 42 i0 (.agg #[.int .i64 0, .int .i64 0]) 2 16 Try.underlying40 hi0 hz0 hz1 hz2 rfl (by decide) _ _ _ rfl (HO7.out.alloc _) ⟨wr.heap.size, 0, none⟩ 1 1 (gF ⟨x.page, 0⟩) rfl rfl ?mb1 ?mb2 ?mb3 ?mb4 ?mb5 ?_)
                            case mb1 =>
                              intro q u hu
                              first
                              | (rw [addN, Nat.zero_add, Rg.blk_cells (heap_alloc_new _ _) q]; simpa [gF] using hu)
                              | simpa [gF] using hu
                            case mb2 => exact gE.one _
                            case mb3 => unfold maxLen; omega
                            case mb4 => omega
                            case mb5 => first | omega | (simp; omega)
                            intro v' w7 hown hg7 _
                            have HO7 : Hid (w7.ownsRow w.heap.size 42 2 v' now2.length (cellsF gF now2)) := hid (by rw [← HE2.out, List.length_append, cellsF_snoc]; exact hown)
                            have HG7 : Hid (Gz (.slice o7 s.now.length c7) wr w7) := hid (Gz.trans (.of ((Gr.refl _).alloc _)) hg7)
                            clear hown hg7
                            go_wp2
                            go_meet
                            exact ⟨by rw [HE1.out], HO7, HG7⟩
                          · have ga : decide (a < 0) = false := by simpa using ha0
                            have hab2 : ab = false := by rw [← hab]; exact ga
                            subst hab2
                            clear hab
                            have e1 : a = (K : Int) := by rw [← HK.out, if_neg ha0]; omega
                            have e2 := HN2.out
                            rw [if_neg ha0] at e2
                            have HE1 := hid e1
                            have HE2 := hid e2
                            clear e1 e2 ha0 HK HN2
                            go_wp2
                            go_meet
                            exact ⟨by rw [HE1.out], hid (by rw [← HE2.out]; exact HO7.out), hid (Gz.refl _ _)⟩
                        case rest =>
                          obtain ⟨rfl, HO7b, HG7⟩ := hcut
                          obtain ⟨hKl1, hKl2⟩ := hKl
                          have l0 := HG7.out.cell l0 (fun g' hg' e => by have := (World.ownsRow.lt HO7.out g' hg').1; omega)
                          have zb := lt_of_cell l0
                          have HO8 := hid (HO8.out.kept HG7.out (own_apart HO8.out HO7.out (by decide)))
                          have GQ := Gz.up GQ HG7.out HO7.out
                          obtain ⟨g, cap, rfl, hgb, hgl, hgc, d0, d1⟩ := g_get HO7b.out K hKl1
                          have hcapm : cap ≤ 9223372036854775807 := by
                            rcases HO7b.out.2 with ⟨h, _⟩ | ⟨_, _, _, h, _, _, _, h2, _⟩
                            · cases h
                            · cases h; exact h2
                          have hdo : Hid (stepF ds s x = if now2[K].lsn < x.lsn then ⟨now2.set K ⟨now2[K].p, x.lsn⟩, s.out ++ [x.lsn]⟩ else ⟨now2, s.out⟩) := hid (by
                            rw [hs.out]; unfold doR; rw [List.getElem?_eq_getElem hKl1])
                          have gK1 : decide ((now2.length : Int) ≤ (K : Int)) = false := by rw [decide_eq_false_iff_not]; omega
                          have gK2 : (K : Int) < (now2.length : Int) := by omega
                          have gK3 : (0 : Int) ≤ (K : Int) := by omega
                          clear hs HO7 HG7 HN2 HK n0 n4 TX zx HB7 hwb d0
                          have HST := fun (W : World) (h : W.ownsRow w.heap.size 42 2 (.slice (some ⟨g, 0, none⟩) now2.length cap) now2.length (cellsF gF now2)) => own_store gE h K hKl1 ⟨now2[K].p, x.lsn⟩ 1 (by omega) (.int .i64 x.lsn) (by simp [gF])
                          have HST := hid HST
                          have hset : ∀ z : Pg, (now2.set K z).length = now2.length := fun z => List.length_set
                          generalize hye : now2[K] = y at *
                          have hwb := GQ.size
                          have hg0 := GQ
                          by_cases hyl : y.lsn < x.lsn
                          · have gy : decide (y.lsn < x.lsn) = true := by simpa using hyl
                            have hdo : Hid (stepF ds s x = ⟨now2.set K ⟨y.p, x.lsn⟩, s.out ++ [x.lsn]⟩) := hid (by rw [hdo.out, if_pos hyl])
                            clear hyl hye
                            go_upto_region 27 with (fail)
                            refine Rg.region_text 10 (Below.drew (Below.refl _ _)) (by kernel_rfl) (by kernel_rfl) (fun _ _ d _ _ h => by cases d <;> exact h) ?_
                            simp only [List.append_eq, List.cons_append, List.nil_append, List.take_succ_cons, List.take_zero, List.drop_succ_cons, List.drop_zero]
                            repeat (first
                                | (refine Rg.wpDets_skip (by rfl) ?_; simp only [Act.put, List.setIfInBounds_toArray, List.set_cons_zero, List.set_cons_succ])
                                | (refine Rg.wpDets_step ?_ (by rfl) (fun w hS => ?_) ?_
                                   rotate_left
                                   · have hc := Gr.cells hS
                                     have hf := Gr.frees hS
                                     go_simp
                                     first
                                     | (refine ⟨?_, Below.refl _ _⟩; with_reducible rfl)
                                   simp only [Act.put, List.setIfInBounds_toArray, List.set_cons_zero, List.set_cons_succ]))
                            refine Rg.wpDets_nil ?_
                            refine Rg.wpFlts_nil ?_
                            refine Rg.wpLays_nil ?_
                            intro w1 hK
                            have hg : Gr _ w1 := hK.up
                            have hc := Gr.cells hg
                            have hf := Gr.frees hg
                            have hz := Gr.size hg
                            try simp only [World.size_alloc, World.size_setCell, World.size_drew] at hz
                            try have : 0 < w1.heap.size := by omega
                            try have : w.heap.size < w1.heap.size := by omega
                            try have : w.heap.size + 1 < w1.heap.size := by omega
                            try have : w.heap.size + 1 + 1 < w1.heap.size := by omega
                            try have : w.heap.size + 1 + 1 + 1 < w1.heap.size := by omega
                            have l0 := hg.keep l0
                            have zb := lt_of_cell l0
                            have HO7b := hid (own_keep HO7b.out hg)
                            have HO8 := hid (own_keep HO8.out hg)
                            have GQ := hg0.trans hg
                            clear hg hg0 d1
                            obtain ⟨i1, hj0, hy0, hy1, hy2⟩ := info_parts i_info
                            have hwb := GQ.size
                            go_wp2_with (at_builtin; refine wpList_append_own _ rfl _ _ 38 rfl w.heap.size 3 i1 (.int .i64 0) 1 8 Try.underlying38 hj0 hy0 hy1 hy2 rfl (by decide) _ _ _ rfl (HO8.out.alloc _) ⟨w1.heap.size, 0, none⟩ 1 1 (iF x.lsn) rfl rfl ?mc1 ?mc2 ?mc3 ?mc4 ?mc5 ?_)
                            case mc1 =>
                              intro q u hu
                              first
                              | (rw [addN, Nat.zero_add, Rg.blk_cells (heap_alloc_new _ _) q]; simpa [iF] using hu)
                              | simpa [iF] using hu
                            case mc2 => exact iE.one _
                            case mc3 => unfold maxLen; omega
                            case mc4 => omega
                            case mc5 => first | omega | (simp; omega)
                            intro v8 w8 hown hg8 _
                            have HG8 : Hid (Gz u8 w1 w8) := hid (Gz.trans (.of ((Gr.refl _).alloc _)) hg8)
                            have l0 := HG8.out.cell l0 (fun g' hg' e => by have := (World.ownsRow.lt HO8.out g' hg').1; omega)
                            have zb := lt_of_cell l0
                            have HO7b := hid (HO7b.out.kept HG8.out (own_apart HO7b.out HO8.out (by decide)))
                            have GQ := Gz.up GQ HG8.out HO8.out
                            obtain ⟨S9, G9⟩ := HST.out w8 HO7b.out
                            have f1 := HO7b.out.frozenAt (K * 2 + 1)
                            have cj := (own_room HO7b.out (K * 2 + 1) (by omega)).1
                            obtain ⟨uo, hcu⟩ := Option.isSome_iff_exists.1 cj
                            have HO9 : Hid (World.ownsRow (w8.setCell ⟨g, K * 2 + 1, none⟩ (.int .i64 x.lsn)) w.heap.size 3 1 v8 (s.out ++ [x.lsn]).length (cellsF iF (s.out ++ [x.lsn]))) := hid (by
                              rw [List.length_append, cellsF_snoc]
                              exact hown.kept G9 (own_apart hown HO7b.out (by decide)))
                            have FI : Hid (F3Rel w l ds R pg.length (.slice (some ⟨g, 0, none⟩) now2.length cap) v8 (.int .i64 ((i : Int) + 1)) (w8.setCell ⟨g, K * 2 + 1, none⟩ (.int .i64 x.lsn))) := hid ⟨i + 1, ⟨now2.set K ⟨y.p, x.lsn⟩, s.out ++ [x.lsn]⟩, by go_num, by omega, GQ.grown G9 (fun b hb => by cases hb; exact hgb), S9, HO9.out, by rw [hset]; omega, by simp; omega, by rw [← hst.out, hdo.out]⟩
                            clear hown hg8 S9 G9 HO9 HO8 HG8 HST GQ hst hdo cj
                            go_wp2
                            exact ⟨FI.out, by simp [intOf]; omega⟩
                          · have gy : decide (y.lsn < x.lsn) = false := by simpa using hyl
                            have hdo : Hid (stepF ds s x = ⟨now2, s.out⟩) := hid (by rw [hdo.out, if_neg hyl])
                            clear hyl hye HST
                            go_upto_region 27 with (fail)
                            refine Rg.region_text 10 (Below.drew (Below.refl _ _)) (by kernel_rfl) (by kernel_rfl) (fun _ _ d _ _ h => by cases d <;> exact h) ?_
                            simp only [List.append_eq, List.cons_append, List.nil_append, List.take_succ_cons, List.take_zero, List.drop_succ_cons, List.drop_zero]
                            repeat (first
                                | (refine Rg.wpDets_skip (by rfl) ?_; simp only [Act.put, List.setIfInBounds_toArray, List.set_cons_zero, List.set_cons_succ])
                                | (refine Rg.wpDets_step ?_ (by rfl) (fun w hS => ?_) ?_
                                   rotate_left
                                   · have hc := Gr.cells hS
                                     have hf := Gr.frees hS
                                     go_simp
                                     first
                                     | (refine ⟨?_, Below.refl _ _⟩; with_reducible rfl)
                                   simp only [Act.put, List.setIfInBounds_toArray, List.set_cons_zero, List.set_cons_succ]))
                            refine Rg.wpDets_nil ?_
                            refine Rg.wpFlts_nil ?_
                            refine Rg.wpLays_nil ?_
                            intro w1 hK
                            have hg : Gr _ w1 := hK.up
                            have hc := Gr.cells hg
                            have hf := Gr.frees hg
                            have hz := Gr.size hg
                            try simp only [World.size_alloc, World.size_setCell, World.size_drew] at hz
                            try have : 0 < w1.heap.size := by omega
                            try have : w.heap.size < w1.heap.size := by omega
                            try have : w.heap.size + 1 < w1.heap.size := by omega
                            try have : w.heap.size + 1 + 1 < w1.heap.size := by omega
                            try have : w.heap.size + 1 + 1 + 1 < w1.heap.size := by omega
                            have FI : Hid (F3Rel w l ds R pg.length (.slice (some ⟨g, 0, none⟩) now2.length cap) u8 (.int .i64 ((i : Int) + 1)) w1) := hid ⟨i + 1, ⟨now2, s.out⟩, by go_num, by omega, hg0.trans hg, own_keep HO7b.out hg, own_keep HO8.out hg, by simp only; omega, by simp only; omega, by rw [← hst.out, hdo.out]⟩
                            clear hst hdo
                            go_wp2
                            exact ⟨FI.out, by simp [intOf]; omega⟩
      · obtain rfl : i = l.length := by omega
        have g1 : decide ((l.length : Int) ≤ (l.length : Int)) = true := by rw [decide_eq_true_iff]; omega
        have e : s.out = R := by rw [← HR.out, List.drop_length]; rfl
        have HX : Hid (wr.ownsRow w.heap.size 3 1 u8 R.length (cellsF iF R)) := hid (by rw [← e]; exact HO8.out)
        clear e HO7 HO8 HR
        go_wp2
        go_ret
        exact ⟨_, rfl, HX.out, hg⟩
end Go.Proofs.Ytmanokhadppeeaa

/- ValueOrder: the law's walk. -/
import Derived.Test.YtefdkpfndjlpgaaDoorVp
import Derived.Deep.RegionWith
namespace Go.Proofs.YtefdkpfndjlpgaaDoor
open Go.RowKit
set_option linter.unusedSimpArgs false
set_option linter.unusedVariables false
attribute [local go_sem] Rg.once_normal Rg.once_exit Rg.once_ret Rg.once_panic Rg.once_goto Rg.leads_value Rg.leads_skip Rg.leads_enter Rg.brings_value Rg.brings_skip Rg.brings_enter
theorem brings_enc {l : List UInt8} {args : Array Value} {W : World} (E : Calls Tryd.prog 32 args W (EncPost W l)) : Rg.BringsG Tryd.prog W (EncG l) false (.ok (.enter 32 args) W) := by
  rw [Rg.bringsG_enter]
  refine E.mono ?_
  rintro e w' ⟨g, cap, rfl, hb, hg, -⟩
  exact ⟨_, rfl, ⟨g, cap, rfl, hb⟩, hg, fun h => by cases h⟩
theorem gat20 (a b : List UInt8) : Rg.Gat [(20, EncG a), (23, EncG b)] 20 = EncG a := rfl
theorem gat23 (a b : List UInt8) : Rg.Gat [(20, EncG a), (23, EncG b)] 23 = EncG b := rfl
set_option maxHeartbeats 4000000 in
set_option maxRecDepth 100000 in
theorem order_any (a b : Int) (s t : ByteArray) (m : Int) (w : World) (hm : w.cell? ⟨0, 0, none⟩ = some (.int .i64 m)) (ha : Vl.fitsB a = true) (hb : Vl.fitsB b = true) (hs : s.size ≤ 1048576) (ht : t.size ≤ 1048576) :
    Calls Tryd.prog 9 #[.int .i64 a, .int .i64 b, .string s, .string t] w (Yes0 w) := by
  have I1 := fun W => lint_any a W
  have I2 := fun W => lint_any b W
  have T1 := fun W => ltext_any s W
  have T2 := fun W => ltext_any t W
  have P0 := pair_int a b ha hb
  have P1 := pair_text s t hs ht
  obtain ⟨pa, hpa⟩ : ∃ p, (bits .and .i64 a 1 == 1) = p := ⟨_, rfl⟩
  obtain ⟨pb, hpb⟩ : ∃ p, (bits .and .i64 b 1 == 1) = p := ⟨_, rfl⟩
  have P2 := pair_bool pa pb
  have HP := hid (And.intro P0 (And.intro P1 P2))
  clear P0 P1 P2 ha hb hs ht
  have B1 := fun W => ltruth_any pa W
  have B2 := fun W => ltruth_any pb W
  go_enter Tryd.func9, Tryd.ntmps9
  go_wp2_with fail
  refine (I1 _).mono ?_
  rintro e w1 ⟨rfl, h1⟩
  go_wp2_with fail
  refine (I2 _).mono ?_
  rintro e w2 ⟨rfl, h2⟩
  go_wp2_with fail
  refine (T1 _).mono ?_
  rintro e w3 ⟨rfl, h3⟩
  go_wp2_with fail
  refine (T2 _).mono ?_
  rintro e w4 ⟨rfl, h4⟩
  go_wp2_with fail
  refine (B1 _).mono ?_
  rintro e w5 ⟨rfl, h5⟩
  go_wp2_with fail
  refine (B2 _).mono ?_
  rintro e w6 ⟨rfl, h6⟩
  have hg6 : Gr w w6 := ((((h1.trans h2).trans h3).trans h4).trans h5).trans h6
  clear h1 h2 h3 h4 h5 h6
  go_wp2_with fail
  obtain ⟨G, hG⟩ : ∃ G, G = w6.heap.size := ⟨_, rfl⟩
  obtain ⟨X, hX⟩ : ∃ X : World, X = w6.alloc (.cells #[.int .i64 1, .int .i64 a, .string ⟨#[]⟩, .bool false, .int .i64 1, .int .i64 b, .string ⟨#[]⟩, .bool false, .int .i64 2, .int .i64 0, .string s, .bool false, .int .i64 2, .int .i64 0, .string t, .bool false, .int .i64 3, .int .i64 0, .string ⟨#[]⟩, .bool pa, .int .i64 3, .int .i64 0, .string ⟨#[]⟩, .bool pb] 49) := ⟨_, rfl⟩
  have hrow : VRow X G [numV a, numV b, textV s, textV t, boolV pa, boolV pb] := by rw [hX, hG]; exact vrow_list w6 [numV a, numV b, textV s, textV t, boolV pa, boolV pb] 49
  have hgX : Gr w X := by rw [hX]; exact hg6.alloc _
  have hGX : G < X.heap.size := by rw [hX, hG]; simp
  rw [← hG, ← hX]
  clear hX hG hg6 I1 I2 T1 T2 B1 B2 hpa hpb
  go_loopw [10] (fun i wr => ∃ k : Nat, i = .int .i64 k ∧ k ≤ 3 ∧ Gr X wr) (fun i _ => 3 - (intOf i).toNat)
  case atStart => exact ⟨0, rfl, by omega, Gr.refl _⟩
  case round =>
    obtain ⟨k, rfl, hk, hgr⟩ := hrel
    rename_i wr _
    by_cases hlt : k < 3
    · have hrw := hrow.keep hgr
      obtain ⟨x, y, z, hxy, hzt, hx, hy, hz⟩ := triple HP.out hrw k hlt
      obtain ⟨x0, x1, x2, x3⟩ := x
      obtain ⟨y0, y1, y2, y3⟩ := y
      obtain ⟨z0, z1, z2, z3⟩ := z
      have cx0 := hx 0 (.int .i64 x0) rfl
      have cx1 := hx 1 (.int .i64 x1) rfl
      have cx2 := hx 2 (.string x2) rfl
      have cx3 := hx 3 (.bool x3) rfl
      have cy0 := hy 0 (.int .i64 y0) rfl
      have cy1 := hy 1 (.int .i64 y1) rfl
      have cy2 := hy 2 (.string y2) rfl
      have cy3 := hy 3 (.bool y3) rfl
      have cz0 := hz 0 (.int .i64 z0) rfl
      have cz1 := hz 1 (.int .i64 z1) rfl
      have cz2 := hz 2 (.string z2) rfl
      have cz3 := hz 3 (.bool z3) rfl
      simp only [Nat.add_zero, Nat.add_assoc, Nat.reduceAdd] at cx0 cx1 cx2 cx3 cy0 cy1 cy2 cy3 cz0 cz1 cz2 cz3
      have hgw := hgX.trans hgr
      have hGw : G < _ := lt_of_cell cx0
      have Hxy := hid hxy
      have Hz := hid hzt
      have Hrow := hid hrow
      have Hgr := hid hgr
      clear hx hy hz hxy hzt hrw hrow HP hgr
      go_upto_region 5 with (fail)
      go_cut [11, 12] from 49 to 178 (fun s11 s12 wx => ∃ gx gy, s11 = .pointer (some ⟨gx, 0, none⟩) ∧ s12 = .pointer (some ⟨gy, 0, none⟩) ∧ Holds wx gx ⟨x0, x1, x2, x3⟩ ∧ Holds wx gy ⟨y0, y1, y2, y3⟩ ∧ Gr wr wx)
      case first =>
        go_region
        all_goals
          go_wp2_with fail
          go_meet
          refine ⟨_, _, rfl, rfl, ?_, ?_, ?_⟩
          rotate_right
          · repeat' (first | exact Gr.refl _ | exact Nat.le_refl _ | exact Nat.le_add_right _ _ | refine Gr.setCell ?_ ?_ _ | refine Gr.alloc ?_ _ | refine Gr.drew ?_ | refine Gr.trans ?_ (by assumption) | omega | (dsimp only; omega))
          · unfold Holds; go_simp; try decide
          · unfold Holds; go_simp; try decide
      case rest =>
        obtain ⟨gx, gy, rfl, rfl, h11, h12, hgc⟩ := hcut
        have hgwc := hgw.trans hgc
        have HH := hid (And.intro h11 h12)
        have hxn : x0 ≠ 0 := by rcases Hxy.out.nz with h | h | h <;> (simp only at h; omega)
        have LX := fun o h1 h2 W => less_pair o ⟨x0, x1, x2, x3⟩ ⟨y0, y1, y2, y3⟩ h1 h2 Hxy.out.t hxn W
        have LN := fun o h1 h2 W => less_nul o ⟨x0, x1, x2, x3⟩ h1 h2 hxn W
        simp only [V.val] at LX LN
        generalize hcv : cmpV ⟨x0, x1, x2, x3⟩ ⟨y0, y1, y2, y3⟩ = c at LX
        have Hcv := hid hcv
        have HLX := hid LX
        have HLN := hid LN
        clear h11 h12 LX LN hcv cx0 cx1 cx2 cx3 cy0 cy1 cy2 cy3
        go_wp2_with fail
        go_loopw [13, 14] (fun s13 s14 wq => ∃ o : Int, s14 = .int .i64 o ∧ 9 ≤ o ∧ o ≤ 15 ∧ s13 = .int .i64 (cnt c o) ∧ Gr wc wq) (fun _ o _ => (15 - intOf o).toNat)
        case atStart => exact ⟨9, rfl, by omega, by omega, by simp [cnt], Gr.refl _⟩
        case round =>
          obtain ⟨o, rfl, ho1, ho2, rfl, hgq⟩ := hrel
          obtain ⟨px0, px1, px2, px3, pxf⟩ := HH.out.1.keep hgq
          obtain ⟨py0, py1, py2, py3, pyf⟩ := HH.out.2.keep hgq
          have hgx : gx < _ := lt_of_cell px0
          have hgy : gy < _ := lt_of_cell py0
          simp only at px0 px1 px2 px3 py0 py1 py2 py3
          have vg := v_guard
          have vs := fun a b c d W => v_same a b c d W
          by_cases hlo : o ≤ 14
          · have L1 := fun W => HLX.out o ho1 hlo W
            have L2 := fun W => HLN.out o ho1 hlo W
            obtain ⟨tb, htb⟩ : ∃ tb, opB o c = tb := ⟨_, rfl⟩
            rw [htb] at L1
            have Htb := hid htb
            have hcb : 0 ≤ cnt c o ∧ cnt c o ≤ 3 := by unfold cnt; repeat' split <;> omega
            have hcs : Hid (cnt c (o + 1) = cnt c o + (if (o = 9 ∨ o = 11 ∨ o = 13) ∧ tb = true then 1 else 0)) := hid (by rw [cnt_next c o ho1 hlo, htb])
            obtain ⟨hcb1, hcb2⟩ := hcb
            generalize cnt c o = n0 at *
            clear htb
            have ho : o = 9 ∨ o = 10 ∨ o = 11 ∨ o = 12 ∨ o = 13 ∨ o = 14 := by omega
            clear ho1 ho2 hlo pxf pyf
            rcases ho with rfl | rfl | rfl | rfl | rfl | rfl
            all_goals
              cases tb
            all_goals
              go_wp2_with fail
              refine (L1 _).mono ?_
              rintro e w7 ⟨rfl, hg7⟩
              have qx0 := hg7.keep px0
              have qx1 := hg7.keep px1
              have qx2 := hg7.keep px2
              have qx3 := hg7.keep px3
              have qgx : gx < w7.heap.size := lt_of_cell qx0
              have hgq7 := hgq.trans hg7
              clear px0 px1 px2 px3 py0 py1 py2 py3 hgx hgy hg7 hgq L1
              go_wp2_with fail
              refine (L2 _).mono ?_
              rintro e w8 ⟨rfl, hg8⟩
              have hc := Gr.cells hg8
              have hf := Gr.frees hg8
              have hz := Gr.size hg8
              simp only [World.size_alloc] at hz
              have hz8 : w7.heap.size < w8.heap.size := by omega
              go_wp2
              refine ⟨⟨_, rfl, by omega, by omega, ?_, ?_⟩, by simp [intOf]⟩
              · have h := hcs.out
                simp at h
                rw [h]
              · repeat' (first | exact Gr.refl _ | exact Nat.le_refl _ | exact Nat.le_add_right _ _ | refine Gr.setCell ?_ ?_ _ | refine Gr.alloc ?_ _ | refine Gr.drew ?_ | refine Gr.trans ?_ (by assumption) | omega | (dsimp only; omega))
          · obtain rfl : o = 15 := by omega
            rw [cnt_all]
            obtain ⟨lt, hlt'⟩ : ∃ b, decide (c < 0) = b := ⟨_, rfl⟩
            obtain ⟨eq, heq'⟩ : ∃ b, (c == 0) = b := ⟨_, rfl⟩
            have K11 : opB 11 c = lt := by unfold opB; simp; exact hlt'
            have K14 : opB 14 c = !lt := by unfold opB; rw [← hlt', Bool.eq_iff_iff]; simp
            have K10 : opB 10 c = !eq := by unfold opB; simp [← heq']; rfl
            have K9 : opB 9 c = eq := by unfold opB; simp [← heq']
            have L11 := fun W => HLX.out 11 (by omega) (by omega) W
            have L14 := fun W => HLX.out 14 (by omega) (by omega) W
            have L10 := fun W => HLX.out 10 (by omega) (by omega) W
            have L9 := fun W => HLX.out 9 (by omega) (by omega) W
            rw [K11] at L11
            rw [K14] at L14
            rw [K10] at L10
            rw [K9] at L9
            have Hlt := hid hlt'
            clear K11 K14 K10 K9 hlt' heq' hlo ho1 ho2
            go_wp2_with fail
            refine (L11 _).mono ?_
            rintro e w7 ⟨rfl, hg7⟩
            have hgq7 := hgq.trans hg7
            have ax := And.intro (hg7.keep px0) (And.intro (hg7.keep px1) (And.intro (hg7.keep px2) (hg7.keep px3)))
            have ay := And.intro (hg7.keep py0) (And.intro (hg7.keep py1) (And.intro (hg7.keep py2) (hg7.keep py3)))
            obtain ⟨ax0, ax1, ax2, ax3⟩ := ax
            obtain ⟨ay0, ay1, ay2, ay3⟩ := ay
            have agx : gx < w7.heap.size := lt_of_cell ax0
            have agy : gy < w7.heap.size := lt_of_cell ay0
            clear px0 px1 px2 px3 py0 py1 py2 py3 hgx hgy hg7 hgq L11
            go_wp2_with fail
            refine (L14 _).mono ?_
            rintro e w8 ⟨rfl, hg8⟩
            have g78 : Gr w7 w8 := ((Gr.refl w7).alloc _).trans hg8
            have lt8 : w8.cell? ⟨w7.heap.size, 3, none⟩ = some (.bool lt) := hg8.keep (by go_simp)
            obtain ⟨bx0, bx1, bx2, bx3⟩ := And.intro (g78.keep ax0) (And.intro (g78.keep ax1) (And.intro (g78.keep ax2) (g78.keep ax3)))
            obtain ⟨by0, by1, by2, by3⟩ := And.intro (g78.keep ay0) (And.intro (g78.keep ay1) (And.intro (g78.keep ay2) (g78.keep ay3)))
            have bgx : gx < w8.heap.size := lt_of_cell bx0
            have bgy : gy < w8.heap.size := lt_of_cell by0
            clear ax0 ax1 ax2 ax3 ay0 ay1 ay2 ay3 agx agy hg8 L14
            go_wp2_with fail
            refine (L10 _).mono ?_
            rintro e w9 ⟨rfl, hg9⟩
            have g89 : Gr w8 w9 := ((Gr.refl w8).alloc _).trans hg9
            have ge9 : w9.cell? ⟨w8.heap.size, 3, none⟩ = some (.bool !lt) := hg9.keep (by go_simp)
            have lt9 := g89.keep lt8
            obtain ⟨cx0, cx1, cx2, cx3⟩ := And.intro (g89.keep bx0) (And.intro (g89.keep bx1) (And.intro (g89.keep bx2) (g89.keep bx3)))
            obtain ⟨cy0, cy1, cy2, cy3⟩ := And.intro (g89.keep by0) (And.intro (g89.keep by1) (And.intro (g89.keep by2) (g89.keep by3)))
            have cgx : gx < w9.heap.size := lt_of_cell cx0
            have cgy : gy < w9.heap.size := lt_of_cell cy0
            clear bx0 bx1 bx2 bx3 by0 by1 by2 by3 bgx bgy hg9 L10 lt8
            go_wp2_with fail
            refine (L9 _).mono ?_
            rintro e w10 ⟨rfl, hg10⟩
            have g910 : Gr w9 w10 := ((Gr.refl w9).alloc _).trans hg10
            have ne10 : w10.cell? ⟨w9.heap.size, 3, none⟩ = some (.bool !eq) := hg10.keep (by go_simp)
            have lt10 := g910.keep lt9
            have ge10 := g910.keep ge9
            obtain ⟨dx0, dx1, dx2, dx3⟩ := And.intro (g910.keep cx0) (And.intro (g910.keep cx1) (And.intro (g910.keep cx2) (g910.keep cx3)))
            obtain ⟨dy0, dy1, dy2, dy3⟩ := And.intro (g910.keep cy0) (And.intro (g910.keep cy1) (And.intro (g910.keep cy2) (g910.keep cy3)))
            clear cx0 cx1 cx2 cx3 cy0 cy1 cy2 cy3 cgx cgy hg10 L9 lt9 ge9
            go_wp2_with fail
            obtain ⟨Z, hZ⟩ : ∃ Z : World, Z = w10.alloc (.cells #[.int .i64 3, .int .i64 0, .string ⟨#[]⟩, .bool eq] 23) := ⟨_, rfl⟩
            have gZ : Gr w10 Z := by rw [hZ]; exact (Gr.refl _).alloc _
            have zeq : Z.cell? ⟨w10.heap.size, 3, none⟩ = some (.bool eq) := by rw [hZ]; go_simp
            have zlt := gZ.keep lt10
            have zge := gZ.keep ge10
            have zne := gZ.keep ne10
            obtain ⟨zx0, zx1, zx2, zx3⟩ := And.intro (gZ.keep dx0) (And.intro (gZ.keep dx1) (And.intro (gZ.keep dx2) (gZ.keep dx3)))
            obtain ⟨zy0, zy1, zy2, zy3⟩ := And.intro (gZ.keep dy0) (And.intro (gZ.keep dy1) (And.intro (gZ.keep dy2) (gZ.keep dy3)))
            have hgZ : Gr wc Z := (((hgq7.trans g78).trans g89).trans g910).trans gZ
            rw [← hZ]
            clear dx0 dx1 dx2 dx3 dy0 dy1 dy2 dy3 lt10 ge10 ne10 g78 g89 g910 gZ hZ hgq7
            have i1 := lt_of_cell zlt
            have i2 := lt_of_cell zge
            have i3 := lt_of_cell zne
            have i4 := lt_of_cell zeq
            have i5 := lt_of_cell zx0
            have i6 := lt_of_cell zy0
            generalize w7.heap.size = b1 at *
            generalize w8.heap.size = b2 at *
            generalize w9.heap.size = b3 at *
            generalize w10.heap.size = b4 at *
            obtain ⟨lx, ly, EX, EY, hbl⟩ := Hxy.out.enc
            simp only [V.val] at EX EY
            rw [Hcv.out, Hlt.out] at hbl
            have q1 : (lt == !lt) = false := by cases lt <;> rfl
            have q2 : ((!eq) == eq) = false := by cases eq <;> rfl
            have q3 : (lt != lt) = false := by cases lt <;> rfl
            refine Rg.region_typed (W := Z) 27 [] [(21, [20]), (24, [23])] [(20, EncG lx), (23, EncG ly)] (fun _ => false) [20, 23]
              [some (.int .i64 1), some (.bool false), some (.bool false), some (.pointer (some ⟨b1, 3, none⟩)), some (.bool lt), some (.pointer (some ⟨b2, 3, none⟩)), some (.bool !lt), some (.bool false), some (.bool false), some (.bool false), some (.pointer (some ⟨b3, 3, none⟩)), some (.bool !eq), some (.pointer (some ⟨b4, 3, none⟩)), some (.bool eq), some (.bool false), some (.bool false), some (.bool false), some (.pointer (some ⟨b1, 3, none⟩)), some (.bool lt), some (.agg #[.int .i64 x0, .int .i64 x1, .string x2, .bool x3]), none, some (.string ⟨lx.toArray⟩), some (.agg #[.int .i64 y0, .int .i64 y1, .string y2, .bool y3]), none, some (.string ⟨ly.toArray⟩), some (.bool lt), some (.bool false)]
              (Below.drew (Below.refl _ _)) (by kernel_rfl) (by kernel_rfl) ⟨rfl, rfl, trivial⟩ (enc_keep lx ly) (fun _ _ d _ _ h => by cases d <;> exact h) ?_
            intro v
            simp only [List.take_succ_cons, List.take_zero, Rg.wpV, Option.getD_some, Option.getD_none, Act.put, List.setIfInBounds_toArray, List.set_cons_zero, List.set_cons_succ]
            refine ⟨?_, ?_, ?_, ?_, ?_, ?_, ?_, ?_, ?_, ?_, ?_, ?_, ?_, ?_, ?_, ?_, ?_, ?_, ?_, ?_, ?_, ?_, ?_, ?_, ?_, ?_, ?_, ?_⟩
            all_goals first
              | (refine step_det (by rfl) (by rfl) (fun w' hS hF => ?_)
                 have hc := Gr.cells hS
                 have hf := Gr.frees hS
                 go_simp
                 first
                 | exact Below.refl _ _
                 | (refine ⟨?_, Below.refl _ _⟩; with_reducible rfl)
                 | (obtain ⟨⟨g, cap, e, hr⟩, -⟩ := hF; rw [e, bytes_string w' g cap _ hr]; exact ⟨rfl, Below.refl _ _⟩))
              | (refine step_free (by rfl) (by rfl) (fun w' hS hF => ?_)
                 clear hF
                 go_simp
                 simp only [gat20, gat23]
                 first
                 | (with_reducible exact brings_enc (EX _))
                 | (with_reducible exact brings_enc (EY _)))
              | skip
            intro w11 hK
            have hgX11 : Gr Z w11 := hK.up
            have hg11 := Hgr.out.trans ((hgc.trans hgZ).trans hgX11)
            have dx0 := hgX11.keep zx0
            have dx1 := hgX11.keep zx1
            have dx2 := hgX11.keep zx2
            have dx3 := hgX11.keep zx3
            have hgx11 : gx < w11.heap.size := lt_of_cell dx0
            clear hK EX EY hbl zx0 zx1 zx2 zx3 zy0 zy1 zy2 zy3 zlt zge zne zeq i1 i2 i3 i4 i5 i6 hgwc vs vg
            go_upto_region 22 with (fail)
            go_cut [27, 28] from 49 to 178 (fun s27 s28 wx => s28 = .int .i64 160 ∧ Gr X wx)
            case first =>
              have hg12 := (hgc.trans hgZ).trans hgX11
              have e0 := hg12.keep cz0
              have e1 := hg12.keep cz1
              have e2 := hg12.keep cz2
              have e3 := hg12.keep cz3
              try simp only at e0 e1 e2 e3
              clear cz0 cz1 cz2 cz3 hgc hgX11 hgZ hg12
              have hG11 : G < w11.heap.size := lt_of_cell e0
              have LW := fun W => less_wrong ⟨x0, x1, x2, x3⟩ ⟨z0, z1, z2, z3⟩ hxn Hz.out.1 Hz.out.2 W
              simp only [V.val] at LW
              obtain ⟨K, hK⟩ : ∃ K, (k + 1) % 3 = K := ⟨_, rfl⟩
              rw [hK] at e0 e1 e2 e3
              have hrem : ((k : Int) + 1).tmod 3 = (K : Int) := by rw [← hK]; rcases (show k = 0 ∨ k = 1 ∨ k = 2 by omega) with rfl | rfl | rfl <;> decide
              have hK3 : K < 3 := by omega
              have hkn : (0 : Int) ≤ (k : Int) := by omega
              have hk4 : (k : Int) < 3 := by omega
              have hKn : (0 : Int) ≤ (K : Int) := by omega
              have hK4 : (K : Int) < 3 := by omega
              clear hK
              have hwrap : IntKind.i64.wrap ((k : Int) + 1) = (k : Int) + 1 := by rcases (show k = 0 ∨ k = 1 ∨ k = 2 by omega) with rfl | rfl | rfl <;> decide
              have hkk : ((3 : Int) ≤ (K : Int)) = False := by simp; omega
              have hkt : ((K : Int) < 3) = True := by simp; omega
              go_region_with (go_at_call 27; refine (LW _).mono ?_; rintro e w' ⟨rfl, hg⟩; have hc := Gr.cells hg; have hf := Gr.frees hg; have hz := Gr.size hg; try simp only [World.size_alloc, World.size_drew] at hz; try (have : w11.heap.size < w'.heap.size := by omega))
              all_goals
                go_wp2_with fail
                go_meet
                have hXs : X.heap.size ≤ w11.heap.size := Gr.size hg11
                refine ⟨rfl, ?_⟩
                repeat' (first | exact Gr.refl _ | exact Nat.le_refl _ | exact Nat.le_add_right _ _ | refine Gr.setCell ?_ ?_ _ | refine Gr.alloc ?_ _ | refine Gr.drew ?_ | refine Gr.trans ?_ (by assumption) | omega | (dsimp only; omega))
            case rest =>
              obtain ⟨rfl, hgr2⟩ := hcut
              have hwrap : IntKind.i64.wrap ((k : Int) + 1) = ((k + 1 : Nat) : Int) := by rcases (show k = 0 ∨ k = 1 ∨ k = 2 by omega) with rfl | rfl | rfl <;> decide
              clear hg11 dx0 dx1 dx2 dx3 cz0 cz1 cz2 cz3
              go_wp2
              skip
              exact ⟨⟨k + 1, rfl, by omega, hgr2⟩, by simp [intOf]; omega⟩
    · obtain rfl : k = 3 := by omega
      have hgw := hgX.trans hgr
      have hm2 := hgw.keep hm
      clear hrow hgr HP
      go_wp2_with fail
      refine (awake_any m _ hm2).mono ?_
      rintro e w7 ⟨rfl, hg⟩
      go_wp2
      go_ret
      exact ⟨rfl, hgw.trans hg⟩
end Go.Proofs.YtefdkpfndjlpgaaDoor

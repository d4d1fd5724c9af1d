/- row: the reference's word on the values that bytes say. (By mkSp2.py.) -/
import Derived.Test.YtacbhkmkknicoaaDoorD2
namespace Go.Proofs.YtacbhkmkknicoaaDoor
open Go.RowKit
set_option linter.unusedSimpArgs false
set_option linter.unusedVariables false
attribute [local go_sem] Rg.leads_value Rg.leads_skip Rg.leads_enter Rg.brings_value Rg.brings_skip Rg.brings_enter Rg.bringsG_value Rg.bringsG_enter
/-- the values come back, whatever stands behind them -/
def SpQ (w : World) (R : Option (List V)) (e : Ending) (w' : World) : Prop := Gr w w' ∧ match R with
  | none => e = .returned (.tuple #[.slice none 0 0, .bool false])
  | some vs => ∃ oa c, e = .returned (.tuple #[.slice oa vs.length c, .bool true]) ∧ vs.length ≤ c ∧ VAt w' oa vs
set_option maxHeartbeats 8000000 in
set_option maxRecDepth 100000 in
theorem rsplit_any (ol : Option Addr) (cl : Nat) (l : List Int) (w : World) (hc : l.length ≤ cl) (hp : BAt w ol l) (hb : byteI l) (hl : l.length ≤ 1000000000000) : Calls Tryd.prog 39 #[.slice ol l.length cl] w (SpQ w (splitV l)) := by
  obtain ⟨R, hR⟩ : ∃ R, splitV l = R := ⟨_, rfl⟩
  rw [hR]
  have S0 : Hid (SpRel w l.length R (.slice ol l.length cl) (.slice none 0 0) w) := hid ⟨l, ol, cl, [], rfl, hc, hp, hb, by simp, World.ownsRow_nil _ _ _ _, by rw [hR]; cases R <;> simp, Gr.refl _⟩
  clear hR hp hb hc
  go_enter Tryd.func39, Tryd.ntmps39
  go_wp2_with fail
  go_loopw [0, 4] (fun s0 s4 wr => SpRel w l.length R s0 s4 wr) (fun s0 _ _ => lenOf s0)
  case atStart => exact S0.out
  case round =>
    clear S0
    obtain ⟨m, ob, cb, acc, rfl, hmc, hmat, hmb, hlen, hrow, hR, hg⟩ := hrel
    have HMAT := hid hmat
    have HMB := hid hmb
    have HRW := hid hrow
    have HR := hid hR
    clear hmat hmb hrow hR
    by_cases hm : m = []
    · have HR2 : Hid (R = some acc) := hid (by rw [HR.out, hm, splitV_nil]; simp)
      have hm0 : m.length = 0 := by rw [hm]; rfl
      obtain ⟨ox, cx, rfl, hxat, hx0⟩ := own_at0 vE HRW.out
      have hcap := own_cap HRW.out rfl
      have HX := hid hxat
      rw [hm0]
      have FJ : Hid (SpQ w R (.returned (.tuple #[.slice ox acc.length cx, .bool true])) wr) := hid ⟨hg, by rw [HR2.out]; exact ⟨ox, cx, rfl, hcap, HX.out⟩⟩
      clear hm HR HR2 HRW HMAT HMB hxat hm0 hlen hmc
      go_wp2
      first | exact FJ.out | refine bodyPost_ret (by simp [results, Tryd.results39, go_sem]; try rfl) rfl FJ.out
    · have HRC := hid (splitV_cons hm)
      have hml : 0 < m.length := List.length_pos_iff.2 hm
      have DE := hid (rdc_any ob cb m wr (HMAT.out.keep hg) HMB.out (by omega))
      have hne := hm
      obtain ⟨bo, off, rfl, hbo, -⟩ := AtF.get HMAT.out 0 hml
      have g1 : decide ((0 : Int) < (m.length : Int)) = true := by rw [decide_eq_true_iff]; omega
      have g2 : decide (0 < m.length) = true := by rw [decide_eq_true_iff]; omega
      have HNE := hid hne
      clear hne hm
      obtain ⟨q, hq⟩ : ∃ q, decV m = q := ⟨_, rfl⟩
      rw [hq] at DE HRC
      have HQ := hid hq
      clear hq
      cases q with
      | none =>
        have FI : Hid (∀ W, Gr wr W → SpQ w R (.returned (.tuple #[.slice none 0 0, .bool false])) W) := hid (fun W hW => ⟨hg.trans hW, by rw [HR.out, HRC.out]; rfl⟩)
        clear HR HRC HRW HMAT HMB HQ HNE
        go_wp2_with fail
        refine DE.out.mono ?_
        rintro e w1 ⟨rfl, hg1⟩
        have FJ := hid (FI.out _ (hg1.trans ((Gr.refl _).alloc (.cells #[.int .i64 0, .int .i64 0, .string ⟨#[]⟩, .bool false, .int .i64 0, .bool false] 96))))
        clear FI hg1 DE
        unfold gotR
        simp only
        go_wp2
        first | exact FJ.out | refine bodyPost_ret (by simp [results, Tryd.results39, go_sem]; try rfl) rfl FJ.out
      | some p =>
        obtain ⟨v, n⟩ := p
        have hn := decV_n HQ.out
        have HR3 : Hid (R = (splitV (m.drop n)).map ((acc ++ [v]) ++ ·)) := hid (by
          rw [HR.out, HRC.out]
          simp only [Option.map_map]
          congr 1
          funext x
          simp)
        have hdl : (m.drop n).length = m.length - n := by simp
        have HB2 := hid (byte_drop HMB.out n)
        have HA2 := hid (bat_drop HMAT.out n)
        obtain ⟨k, hk⟩ : ∃ k, m.length = k := ⟨_, rfl⟩
        have HKM := hid hk
        rw [hk] at hn hmc hlen hml g1 g2 hdl ⊢
        have HDL := hid hdl
        obtain ⟨i0, hi0, hz0, hz1, hz2⟩ := info_parts v_info
        have hwb := hg.size
        have h1 : (0 : Int) ≤ (n : Int) := by omega
        have h2 : (n : Int) ≤ (k : Int) := by omega
        have h3 : (k : Int) ≤ (cb : Int) := by omega
        have h4 : decide ((n : Int) ≤ (k : Int)) = true := by rw [decide_eq_true_iff]; omega
        rw [hk] at DE
        clear HR HRC HMAT HMB HQ HNE hk hdl
        go_wp2_with fail
        refine DE.out.mono ?_
        rintro e w1 ⟨rfl, hg1⟩
        unfold gotR
        simp only
        have HR1 := hid (own_keep HRW.out hg1)
        have hG1 := hg.trans hg1
        clear hg1 DE HRW
        go_wp2_with (at_builtin; refine wpList_append_own _ rfl _ _ 35 rfl w.heap.size 32 i0 (.agg #[.int .i64 0, .int .i64 0, .string ⟨#[]⟩, .bool false]) 4 40 Tryd.underlying35 hi0 hz0 hz1 hz2 rfl (by decide) _ _ _ rfl ((HR1.out.alloc _).alloc _) ⟨w1.heap.size + 1, 0, none⟩ 1 1 (vF v) rfl rfl ?ma1 ?ma2 ?ma3 ?ma4 ?ma5 ?_)
        case ma1 =>
          intro q u hu
          rw [addN, Nat.zero_add, show w1.heap.size + 1 = (w1.alloc (.cells #[.int .i64 v.t, .int .i64 v.n, .string v.s, .bool v.b, .int .i64 (n : Int), .bool true] 96)).heap.size by simp, Rg.blk_cells (heap_alloc_new _ _) q]
          simpa [vF] using hu
        case ma2 => exact vE.one _
        case ma3 => unfold maxLen; omega
        case ma4 => omega
        case ma5 => first | (have := hG1.size; simp; omega) | omega
        intro v1 w3 hown hq8 _
        have ga : Gr w1 ((w1.alloc (.cells #[.int .i64 v.t, .int .i64 v.n, .string v.s, .bool v.b, .int .i64 (n : Int), .bool true] 96)).alloc (.cells #[.int .i64 v.t, .int .i64 v.n, .string v.s, .bool v.b] 32)) := ((Gr.refl _).alloc _).alloc _
        have G1 := Gz.up (hG1.trans ga) hq8 ((HR1.out.alloc _).alloc _)
        have c4 : w3.cell? ⟨w1.heap.size, 4, none⟩ = some (.int .i64 (n : Int)) := by
          have h1 : (w1.alloc (.cells #[.int .i64 v.t, .int .i64 v.n, .string v.s, .bool v.b, .int .i64 (n : Int), .bool true] 96)).cell? ⟨w1.heap.size, 4, none⟩ = some (.int .i64 (n : Int)) := by rw [Rg.blk_cells (heap_alloc_new _ _) 4]; rfl
          have h2 : ((w1.alloc (.cells #[.int .i64 v.t, .int .i64 v.n, .string v.s, .bool v.b, .int .i64 (n : Int), .bool true] 96)).alloc (.cells #[.int .i64 v.t, .int .i64 v.n, .string v.s, .bool v.b] 32)).cell? ⟨w1.heap.size, 4, none⟩ = some (.int .i64 (n : Int)) := ((Gr.refl _).alloc _).keep h1
          have hty : Ty 96 ((w1.alloc (.cells #[.int .i64 v.t, .int .i64 v.n, .string v.s, .bool v.b, .int .i64 (n : Int), .bool true] 96)).alloc (.cells #[.int .i64 v.t, .int .i64 v.n, .string v.s, .bool v.b] 32)) w1.heap.size := (Ty.new _ _ _).gr ((Gr.refl _).alloc _)
          have hne := hty.ne ((HR1.out.alloc _).alloc _) (by decide)
          exact Gz.cell hq8 h2 (fun g hg e => hne (by rw [hg, e]))
        have z4 := lt_of_cell c4
        have HB3 := fun ob' cb' (h : k - n ≤ cb') (h2 : BAt w ob' (m.drop n)) => hid (show SpRel w l.length R (.slice ob' (k - n) cb') v1 w3 from ⟨m.drop n, ob', cb', acc ++ [v], by rw [HDL.out], by rw [HDL.out]; omega, h2, HB2.out, by rw [HDL.out]; simp; omega, by rw [List.length_append, cellsF_snoc]; exact hown, HR3.out, G1⟩)
        clear hown hq8 ga G1 HR1 hG1 HR3
        go_wp2
        refine ⟨(HB3 _ (cb - n) (by omega) ?_).out, by show k - n < k; omega⟩
        split
        · rename_i hcn
          exact .inl (List.drop_eq_nil_of_le (by have := HKM.out; omega))
        · exact HA2.out
end Go.Proofs.YtacbhkmkknicoaaDoor

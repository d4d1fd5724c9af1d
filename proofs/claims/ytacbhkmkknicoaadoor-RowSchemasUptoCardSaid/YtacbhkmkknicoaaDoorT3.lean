/- row: the table that bytes say, as the reference reads it. (By mkT3.py.) -/
import Derived.Test.YtacbhkmkknicoaaDoorT1
import Derived.Test.YtacbhkmkknicoaaDoorPr3
import Derived.Test.YtacbhkmkknicoaaDoorR3
import Derived.Test.YtacbhkmkknicoaaDoorSt
namespace Go.Proofs.YtacbhkmkknicoaaDoor
open Go.RowKit
set_option linter.unusedSimpArgs false
set_option linter.unusedVariables false
attribute [local go_sem] Rg.leads_value Rg.leads_skip Rg.leads_enter Rg.brings_value Rg.brings_skip Rg.brings_enter Rg.bringsG_value Rg.bringsG_enter Rg.still_value Rg.still_skip Rg.bringsS_value Rg.bringsS_skip Rg.bringsS_enter
section
variable {p q base g : Nat} {w0 w w' : World} {T : TypeId} {nm : ByteArray} {v1 v2 v3 : Value} {hd : Int} {cs : List Col} {xs : List Ix} {rs : List Int} {l : List V} {bad : Bool}
/-- a block behind it changes -/
theorem TX.other (h : TX p q base w0 T nm v1 v2 hd v3 cs xs rs l bad w) (hg : Go1 g w w') (hz : q < g) (n1 : v1.ownBlock ≠ some g) (n2 : v2.ownBlock ≠ some g) (n3 : v3.ownBlock ≠ some g) : TX p q base w0 T nm v1 v2 hd v3 cs xs rs l bad w' := by
  have z1 := h.z1
  have z0 := h.z0
  have hs := h.lt
  have keep : ∀ i, i ≤ q → w'.heap[i]? = w.heap[i]? := fun i hi => hg.block i (by omega) (fun e => by cases e; omega)
  exact ⟨h.r.low (fun i hi => keep i (by omega)), by rw [keep q (Nat.le_refl _)]; exact h.h, h.c.kept hg (.inr n1), h.x.kept hg (.inr n2), h.i.kept hg (.inr n3), h.g.grown hg (fun k e => by cases e; omega), h.z0, h.z1, h.z2, Nat.le_trans h.z3 hg.size⟩
/-- a new block is none of its rows -/
theorem TX.apart (h : TX p q base w0 T nm v1 v2 hd v3 cs xs rs l bad w) : q < w.heap.size ∧ v1.ownBlock ≠ some w.heap.size ∧ v2.ownBlock ≠ some w.heap.size ∧ v3.ownBlock ≠ some w.heap.size :=
  ⟨h.lt, fun e => Nat.lt_irrefl _ (World.ownsRow.lt h.c _ e).2, fun e => Nat.lt_irrefl _ (World.ownsRow.lt h.x _ e).2, fun e => Nat.lt_irrefl _ (World.ownsRow.lt h.i _ e).2⟩
end
theorem blk_go {w w' : World} {p g : Nat} {o : Obj} (h : w.heap[g]? = some o) (hg : Go1 p w w') (hne : p ≠ g) : w'.heap[g]? = some o := by
  rw [hg.block g (Array.getElem?_eq_some_iff.1 h).1 (fun e => hne (by cases e; rfl))]; exact h
theorem blk_gr {w w' : World} {g : Nat} {o : Obj} (h : w.heap[g]? = some o) (hg : Gr w w') : w'.heap[g]? = some o := by
  rw [hg.block g (Array.getElem?_eq_some_iff.1 h).1]; exact h
theorem gbs_keep1 (i1 : Nat) (l1 : List Int) : ∀ k u w w', Rg.Gat [(i1, GBs l1)] k u w → Rg.Up w w' → Rg.Gat [(i1, GBs l1)] k u w' := by
  intro k u w w' h hu
  unfold Rg.Gat at h ⊢
  split at h
  · rename_i hk
    rw [if_pos hk]
    obtain ⟨oa, c, e, hB⟩ := h
    exact ⟨oa, c, e, hB.keep hu⟩
  · rename_i hk
    rw [if_neg hk]
    trivial
/-- the test at a loop's head: what it leaves in its slots -/
def modT (d : Nat) (a : Act) (f : Nat → Value) (b : Value) : Act := (((((((((a.put (some d) (f 0)).put (some (d + 1)) (f 1)).put (some (d + 2)) (f 2)).put (some (d + 3)) (f 3)).put (some (d + 4)) (f 4)).put (some (d + 5)) (f 5)).put (some (d + 6)) (f 6)).put (some (d + 7)) (f 7)).put (some (d + 8)) (f 8)).put (some (d + 9)) b
theorem head_any {P : Program} {c : Code} {Q : Exit → Act → World → Prop} {a : Act} {w : World} (d : Nat) (b : Value) (h : ∀ Q' : Exit → Act → World → Prop, (∀ f : Nat → Value, Q' .normal (modT d a f b) w) → c.wp P Q' a w) (h2 : ∀ f : Nat → Value, Q .normal (modT d a f b) w) : c.wp P Q a w := h Q h2
theorem nth9 (x0 x1 x2 x3 x4 x5 x6 x7 x8 : Value) : ∃ f : Nat → Value, f 0 = x0 ∧ f 1 = x1 ∧ f 2 = x2 ∧ f 3 = x3 ∧ f 4 = x4 ∧ f 5 = x5 ∧ f 6 = x6 ∧ f 7 = x7 ∧ f 8 = x8 :=
  ⟨fun i => [x0, x1, x2, x3, x4, x5, x6, x7, x8].getD i undef, rfl, rfl, rfl, rfl, rfl, rfl, rfl, rfl, rfl⟩
theorem lp_more {α : Type} {f : Sq → α × Sq} {e : α → List V} {m : Nat} {ok : α → Prop} (h : Rdr f e m ok) (hm : 1 ≤ m) {q : Sq} {n : Int} {k : Nat} (hp : ∀ j, j < k → (j : Int) < n ∧ (its f j q).2.2 = false) (hk : (k : Int) < n) (hb : (its f k q).2.2 = false) : k ≤ q.1.length ∧ ∀ j, j < k + 1 → (j : Int) < n ∧ (its f j q).2.2 = false :=
  ⟨its_bd h hm hb, fun j hj => by
    rcases Nat.lt_or_ge j k with h1 | h1
    · exact hp j h1
    · obtain rfl : j = k := by omega
      exact ⟨hk, hb⟩⟩
/-- what the reference's Table tells -/
def RtP (w : World) (b : List Int) (q0 : Sq) (e : Ending) (w' : World) : Prop := ∃ Y, RefT b q0 Y ∧ TbP w Y e w'
set_option maxHeartbeats 16000000 in
set_option maxRecDepth 100000 in
theorem rtable_any (ol : Option Addr) (cl : Nat) (b : List Int) (w : World) (hc : b.length ≤ cl) (hp : BAt w ol b) (hb : byteI b) (hl : b.length ≤ 2000000) : Calls Tryd.prog 15 #[.slice ol b.length cl] w (RtP w b (stOf (splitV b))) := by
  have C := hid (fun W (h : Gr w W) => rsplit_any ol cl b W hc (hp.keep h) hb (by omega))
  have CV := hid (fun W (h : Gr w W) => conv_b cl (hp.keep h))
  have RFIT := hid (fun l U => @ref_fit b l U hb hl)
  have HBB := hid hb
  clear hp hc
  obtain ⟨R, hR⟩ : ∃ R, splitV b = R := ⟨_, rfl⟩
  rw [hR] at C RFIT ⊢
  have HLB : Hid ((stOf R).1.length ≤ 2000000) := hid (by
    cases R with
    | none => simp [stOf]
    | some l =>
      have := (splitV_back hb hR).1
      have h2 := len_join l
      rw [this] at h2
      show l.length ≤ _
      omega)
  obtain ⟨q0, hq0⟩ : ∃ q, stOf R = q := ⟨_, rfl⟩
  rw [hq0] at HLB ⊢
  have HQ0 := hid hq0
  obtain ⟨nb, hnb⟩ : ∃ n, b.length = n := ⟨_, rfl⟩
  rw [hnb] at C CV ⊢
  obtain ⟨QQ, hQQ⟩ : ∃ Q : Ending → World → Prop, RtP w b q0 = Q := ⟨_, rfl⟩
  rw [hQQ]
  have HQQ := hid hQQ
  clear hR hb hl hq0 hnb hQQ
  go_enter Tryd.func15, Tryd.ntmps15
  go_wp2_with fail
  refine (C.out _ ((Gr.refl w).alloc _)).mono ?_
  intro e w1 he
  obtain ⟨oa, c, ok, l, hst, rfl, hcc, hat, hg⟩ := spq_st he
  have hst := HQ0.out.symm.trans hst
  subst hst
  obtain ⟨r0, hr0⟩ : ∃ r, w.heap.size = r := ⟨_, rfl⟩
  have hbox : w1.heap[r0]? = some (.cells #[.string ⟨#[]⟩, .slice none 0 0, .slice none 0 0, .int .i64 0, .slice none 0 0] 29 (0, 0)) := by
    rw [hg.block r0 (by rw [← hr0]; simp), ← hr0]
    exact heap_alloc_new _ _
  have hg1 : Gr w w1 := Gr.own hg
  have HRS := hid (rs_new 77 (!ok) hcc hat)
  obtain ⟨p, hp⟩ : ∃ p, w1.heap.size = p := ⟨_, rfl⟩
  have hrp : r0 < p := by rw [← hp]; exact (Array.getElem?_eq_some_iff.1 hbox).1
  rw [hr0]
  rw [hp] at HRS
  clear C he hg hat hcc
  obtain ⟨⟨x0, l0, b0⟩, hT0⟩ : ∃ r, takeR 2 l (!ok) = r := ⟨_, rfl⟩
  have C0 := hid (rtake_any p 2 l (!ok) _ HRS.out)
  rw [hT0] at C0
  have HT0 := hid hT0
  clear hT0
  go_wp2_with fail
  refine C0.out.mono ?_
  rintro e w2 ⟨rfl, hrs, hgo⟩
  simp only at hrs
  unfold V.val
  simp only
  have FD := fun W => field2 x0.t x0.n x0.s x0.b W
  have hga : Gr w1 w2 := (Gr.refl w1).alloc (.cells #[.slice oa l.length c, .bool (!ok)] 77) |>.grown hgo (fun k e => by cases e; omega)
  have htx0 := tx_new x0.s hrs (Nat.le_of_eq hp) hga
  have hll : l0.length ≤ 2000000 := by
    have h1 := takeR_len 2 l (!ok)
    rw [HT0.out] at h1
    exact Nat.le_trans h1 HLB.out
  have HRD : Hid (∀ U q', Rd1 x0.s (numR (l0, b0)).1 (numR (l0, b0)).2 U q' → RefRd (l, !ok) U q') := hid (fun U q' h => rd_ref (by simp only; rw [HT0.out]; exact h))
  have HTP := hid hg1
  go_upto_region 4 with (fail)
  obtain ⟨nm, hnm⟩ : ∃ s, x0.s = s := ⟨_, rfl⟩
  rw [hnm] at HRD htx0
  rw [hnm]
  obtain ⟨q, hq⟩ : ∃ q, w2.heap.size = q := ⟨_, rfl⟩
  rw [hq] at htx0
  rw [hq]
  obtain ⟨w3, hw3⟩ : ∃ W, w2.alloc (.cells #[.string nm, .slice none 0 0, .slice none 0 0, .int .i64 0, .slice none 0 0] 29) = W := ⟨_, rfl⟩
  rw [hw3] at htx0
  rw [hw3]
  have HTX := hid htx0
  clear htx0 hw3 hq hnm hga hgo hrs HRS HT0 hg1 C0 FD
  obtain ⟨base, hbase⟩ : ∃ b, q + 1 = b := ⟨_, rfl⟩
  rw [hbase] at HTX
  have hqb : q < base := by omega
  clear hbase
  obtain ⟨⟨x1, l1, b1⟩, hT1⟩ : ∃ r, takeR 1 l0 b0 = r := ⟨_, rfl⟩
  have C1 := hid (rtake_any p 1 l0 b0 _ HTX.out.r)
  rw [hT1] at C1
  have HT1 := hid hT1
  clear hT1
  go_wp2_with fail
  refine C1.out.mono ?_
  rintro e w4 ⟨rfl, hrs, hgo⟩
  simp only at hrs
  unfold V.val
  simp only
  have FD := fun W => field1 x1.t x1.n x1.s x1.b W
  have HTX := hid (HTX.out.go hrs hgo)
  have HGO := hid hgo
  clear C1 hrs hgo
  have hle : l1.length ≤ 2000000 := by
    have h1 := takeR_len 1 l0 b0
    rw [HT1.out] at h1
    exact Nat.le_trans h1 hll
  have HRD : Hid (∀ U q', Rd1 nm x1.n (l1, b1) U q' → RefRd (l, !ok) U q') := hid (fun U q' h => HRD.out U q' (by unfold numR; simp only; rw [HT1.out]; exact h))
  obtain ⟨n1, hn1⟩ : ∃ n, x1.n = n := ⟨_, rfl⟩
  rw [hn1] at HRD FD
  rw [hn1]
  clear hn1 HT1 HGO
  obtain ⟨F1, hF1⟩ : ∃ F : List Col → Sq → World → Prop, F = fun cs q' W => ∃ v1, TX p q base w1 77 nm v1 (.slice none 0 0) 0 (.slice none 0 0) cs [] [] q'.1 q'.2 W := ⟨_, rfl⟩
  have HF := hid hF1
  have S1 : Hid (LpRel colR (l1, b1) n1 F1 (.int .i64 0) w4) := hid ⟨0, rfl, Nat.zero_le _, fun j hj => by omega, by rw [hF1]; exact ⟨_, HTX.out⟩⟩
  clear hll HTX hF1 HLB
  obtain ⟨qa, hqa⟩ : ∃ q, (l1, b1) = q := ⟨_, rfl⟩
  rw [hqa] at S1 HRD
  have hqa1 : qa.1.length ≤ 2000000 := by rw [← hqa]; exact hle
  clear hle hqa
  go_wp2_with fail
  go_loopw [9] (fun sk wr => LpRel colR qa n1 F1 sk wr) (fun sk _ => qa.1.length + 2 - (intOf sk).toNat)
  case atStart => exact S1.out
  case round =>
    clear S1
    obtain ⟨k, rfl, hk, hpast, hst⟩ := hrel
    rw [HF.out] at hst
    obtain ⟨v1, htx⟩ := hst
    obtain ⟨⟨cs, ⟨ql, bad⟩⟩, hcq⟩ : ∃ r, its colR k qa = r := ⟨_, rfl⟩
    have hlen : cs.length = k := by
      have := its_len colR qa k
      rw [hcq] at this; exact this
    rw [hcq] at htx
    simp only at htx
    have HCQ := hid hcq
    have HPA := hid hpast
    have HTX := hid htx
    have hkz : k ≤ 2000001 := by omega
    obtain ⟨oe, ce, hh, _⟩ := htx.r.ex
    have zp : p < wr.heap.size := (Array.getElem?_eq_some_iff.1 hh).1
    have e1 := Rg.blk_cells hh 1
    simp only [List.getElem?_toArray, List.getElem?_cons_zero, List.getElem?_cons_succ] at e1
    clear hcq hpast htx hh
    go_upto_region 6 with (fail)
    refine head_any 31 (.bool (decide ((k : Int) < n1) && !bad)) ?_ ?_
    · intro Q' HQ0
      have HQ := hid HQ0
      clear HQ0
      by_cases hlt : (k : Int) < n1
      · have g1 : decide ((k : Int) < n1) = true := by rw [decide_eq_true_iff]; exact hlt
        obtain ⟨f, h0, h1, h2, h3, h4, h5, h6, h7, h8⟩ := nth9 (.int .i64 (k : Int)) (.int .i64 n1) (.bool true) (.bool true) (.pointer (some ⟨p, 0, none⟩)) (.pointer (some ⟨p, 0, none⟩)) (.pointer (some ⟨p, 1, none⟩)) (.bool bad) (.bool (!bad))
        have HF9 := HQ.out f
        simp only [modT, h0, h1, h2, h3, h4, h5, h6, h7, h8, Act.put, List.setIfInBounds_toArray, List.set_cons_zero, List.set_cons_succ, Nat.reduceAdd, g1, Bool.true_and] at HF9
        have HF8 := hid HF9
        clear HF9 HQ h0 h1 h2 h3 h4 h5 h6 h7 h8
        go_wp2
        exact HF8.out
      · have g1 : decide ((k : Int) < n1) = false := by rw [decide_eq_false_iff_not]; exact hlt
        obtain ⟨f, h0, h1, h2, h3, h4, h5, h6, h7, h8⟩ := nth9 (.int .i64 (k : Int)) (.int .i64 n1) (.bool false) (.bool false) undef undef undef undef undef
        have HF9 := HQ.out f
        simp only [modT, h0, h1, h2, h3, h4, h5, h6, h7, h8, Act.put, List.setIfInBounds_toArray, List.set_cons_zero, List.set_cons_succ, Nat.reduceAdd, g1, Bool.false_and] at HF9
        have HF8 := hid HF9
        clear HF9 HQ h0 h1 h2 h3 h4 h5 h6 h7 h8
        go_wp2
        exact HF8.out
    intro f
    simp only [modT, Act.put, List.setIfInBounds_toArray, List.set_cons_zero, List.set_cons_succ, Nat.reduceAdd]
    generalize f 0 = z0, f 1 = z1, f 2 = z2, f 3 = z3, f 4 = z4, f 5 = z5, f 6 = z6, f 7 = z7, f 8 = z8
    by_cases hB : (decide ((k : Int) < n1) && !bad) = true
    · rw [hB]
      simp only [Bool.and_eq_true, decide_eq_true_eq, Bool.not_eq_true'] at hB
      obtain ⟨hlt, rfl⟩ := hB
      have hmore := lp_more rdr_col (by omega) HPA.out hlt (by rw [HCQ.out])
      have hkl := hmore.1
      have HMO := hid hmore.2
      clear hmore e1 hlt
      obtain ⟨⟨xa, la, ba⟩, hTa⟩ : ∃ r, takeR 2 ql false = r := ⟨_, rfl⟩
      have Ca := hid (rtake_any p 2 ql false _ HTX.out.r)
      rw [hTa] at Ca
      have HTa := hid hTa
      clear hTa
      go_wp2_with fail
      refine Ca.out.mono ?_
      rintro e wa ⟨rfl, hrs, hgo⟩
      simp only at hrs
      unfold V.val
      simp only
      have FD := fun W => field2 xa.t xa.n xa.s xa.b W
      have HTX := hid (HTX.out.go hrs hgo)
      have HGO := hid hgo
      clear Ca hrs hgo
      obtain ⟨hap0, hap1, hap2, hap3⟩ := HTX.out.apart
      clear HGO
      go_upto_region 9 with (fail)
      have hcell := heap_alloc_new wa (.cells #[.string xa.s, .int .i64 0, .bool false, .bool false] 24)
      have HTX := hid (HTX.out.gr ((Gr.refl _).alloc (.cells #[.string xa.s, .int .i64 0, .bool false, .bool false] 24)))
      obtain ⟨g, hg⟩ : ∃ g, wa.heap.size = g := ⟨_, rfl⟩
      rw [hg] at hcell hap0 hap1 hap2 hap3
      rw [hg]
      obtain ⟨wa2, hwa2⟩ : ∃ W, wa.alloc (.cells #[.string xa.s, .int .i64 0, .bool false, .bool false] 24) = W := ⟨_, rfl⟩
      rw [hwa2] at HTX hcell
      rw [hwa2]
      have HCL := hid hcell
      have HAP := hid (And.intro hap0 (And.intro hap1 (And.intro hap2 hap3)))
      have hpg : p < g := by
        have := HTX.out.z1
        omega
      clear hwa2 hg hcell hap0 hap1 hap2 hap3 FD
      obtain ⟨⟨xb, lb, bb⟩, hTb⟩ : ∃ r, takeR 1 la ba = r := ⟨_, rfl⟩
      have Cb := hid (rtake_any p 1 la ba _ HTX.out.r)
      rw [hTb] at Cb
      have HTb := hid hTb
      clear hTb
      go_wp2_with fail
      refine Cb.out.mono ?_
      rintro e wb ⟨rfl, hrs, hgo⟩
      simp only at hrs
      unfold V.val
      simp only
      have FD := fun W => field1 xb.t xb.n xb.s xb.b W
      have HTX := hid (HTX.out.go hrs hgo)
      have HGO := hid hgo
      clear Cb hrs hgo
      have hcell := blk_go HCL.out HGO.out (by omega)
      have y1 : wb.cell? ⟨g, 1, none⟩ = some (.int .i64 0) := by rw [Rg.blk_cells hcell 1]; rfl
      have fy1 : wb.frozen? ⟨g, 1, none⟩ = false := Rg.blk_free hcell _
      have zg : g < wb.heap.size := lt_of_cell y1
      have HCL := hid hcell
      clear hcell HGO
      go_upto_region 10 with (fail)
      have HTX := hid (HTX.out.other (Go1.set g 1 wb (.int .i64 xb.n)) HAP.out.1 HAP.out.2.1 HAP.out.2.2.1 HAP.out.2.2.2)
      have hcell := box_set wb g 24 [.string xa.s, .int .i64 0, .bool false, .bool false] 1 (.int .i64 xb.n) HCL.out
      obtain ⟨wb2, hwb2⟩ : ∃ W, wb.setCell ⟨g, 1, none⟩ (.int .i64 xb.n) = W := ⟨_, rfl⟩
      rw [hwb2] at HTX hcell
      rw [hwb2]
      have HCL : Hid (wb2.heap[g]? = some (.cells #[.string xa.s, .int .i64 xb.n, .bool false, .bool false] 24 (0, 0))) := hid hcell
      clear hwb2 hcell y1 fy1 zg FD
      obtain ⟨⟨xc, lc, bc⟩, hTc⟩ : ∃ r, takeR 3 lb bb = r := ⟨_, rfl⟩
      have Cc := hid (rtake_any p 3 lb bb _ HTX.out.r)
      rw [hTc] at Cc
      have HTc := hid hTc
      clear hTc
      go_wp2_with fail
      refine Cc.out.mono ?_
      rintro e wc ⟨rfl, hrs, hgo⟩
      simp only at hrs
      unfold V.val
      simp only
      have FD := fun W => field3 xc.t xc.n xc.s xc.b W
      have HTX := hid (HTX.out.go hrs hgo)
      have HGO := hid hgo
      clear Cc hrs hgo
      have hcell := blk_go HCL.out HGO.out (by omega)
      have y2 : wc.cell? ⟨g, 2, none⟩ = some (.bool false) := by rw [Rg.blk_cells hcell 2]; rfl
      have fy2 : wc.frozen? ⟨g, 2, none⟩ = false := Rg.blk_free hcell _
      have zg : g < wc.heap.size := lt_of_cell y2
      have HCL := hid hcell
      clear hcell HGO
      go_upto_region 11 with (fail)
      have HTX := hid (HTX.out.other (Go1.set g 2 wc (.bool xc.b)) HAP.out.1 HAP.out.2.1 HAP.out.2.2.1 HAP.out.2.2.2)
      have hcell := box_set wc g 24 [.string xa.s, .int .i64 xb.n, .bool false, .bool false] 2 (.bool xc.b) HCL.out
      obtain ⟨wc2, hwc2⟩ : ∃ W, wc.setCell ⟨g, 2, none⟩ (.bool xc.b) = W := ⟨_, rfl⟩
      rw [hwc2] at HTX hcell
      rw [hwc2]
      have HCL : Hid (wc2.heap[g]? = some (.cells #[.string xa.s, .int .i64 xb.n, .bool xc.b, .bool false] 24 (0, 0))) := hid hcell
      clear hwc2 hcell y2 fy2 zg FD
      obtain ⟨⟨xd, ld, bd⟩, hTd⟩ : ∃ r, takeR 3 lc bc = r := ⟨_, rfl⟩
      have Cd := hid (rtake_any p 3 lc bc _ HTX.out.r)
      rw [hTd] at Cd
      have HTd := hid hTd
      clear hTd
      go_wp2_with fail
      refine Cd.out.mono ?_
      rintro e wd ⟨rfl, hrs, hgo⟩
      simp only at hrs
      unfold V.val
      simp only
      have FD := fun W => field3 xd.t xd.n xd.s xd.b W
      have HTX := hid (HTX.out.go hrs hgo)
      have HGO := hid hgo
      clear Cd hrs hgo
      have hcell := blk_go HCL.out HGO.out (by omega)
      have y3 : wd.cell? ⟨g, 3, none⟩ = some (.bool false) := by rw [Rg.blk_cells hcell 3]; rfl
      have fy3 : wd.frozen? ⟨g, 3, none⟩ = false := Rg.blk_free hcell _
      have zg : g < wd.heap.size := lt_of_cell y3
      have HCL := hid hcell
      clear hcell HGO
      go_upto_region 12 with (fail)
      have HTX := hid (HTX.out.other (Go1.set g 3 wd (.bool xd.b)) HAP.out.1 HAP.out.2.1 HAP.out.2.2.1 HAP.out.2.2.2)
      have hcell := box_set wd g 24 [.string xa.s, .int .i64 xb.n, .bool xc.b, .bool false] 3 (.bool xd.b) HCL.out
      obtain ⟨wd2, hwd2⟩ : ∃ W, wd.setCell ⟨g, 3, none⟩ (.bool xd.b) = W := ⟨_, rfl⟩
      rw [hwd2] at HTX hcell
      rw [hwd2]
      have HCL : Hid (wd2.heap[g]? = some (.cells #[.string xa.s, .int .i64 xb.n, .bool xc.b, .bool xd.b] 24 (0, 0))) := hid hcell
      clear hwd2 hcell y3 fy3 zg FD
      have HIT : Hid (colR (ql, false) = (⟨xa.s, xb.n, xc.b, xd.b⟩, (ld, bd))) := hid (by
        unfold colR
        simp only
        rw [HTa.out]
        simp only
        rw [HTb.out]
        simp only
        rw [HTc.out]
        simp only
        rw [HTd.out]
        )
      have HST := hid (its_succ colR k qa)
      rw [HCQ.out] at HST
      simp only at HST
      rw [HIT.out] at HST
      simp only at HST
      obtain ⟨x, hx⟩ : ∃ x : Col, x = ⟨xa.s, xb.n, xc.b, xd.b⟩ := ⟨_, rfl⟩
      rw [← hx] at HST
      have e0' : xa.s = x.nm := by rw [hx]
      have e1' : xb.n = x.ty := by rw [hx]
      have e2' : xc.b = x.nn := by rw [hx]
      have e3' : xd.b = x.uq := by rw [hx]
      rw [e0', e1', e2', e3'] at HCL
      have FI : Hid (∀ v' W3, Gz v1 wd2 W3 → W3.ownsRow base 24 4 v' (cs ++ [x]).length (cellsF cF (cs ++ [x])) → (W3.cell? ⟨q, 1, none⟩ = some v1 ∧ W3.frozen? ⟨q, 1, none⟩ = false ∧ q < W3.heap.size) ∧ LpRel colR qa n1 F1 (.int .i64 ((k : Int) + 1)) (W3.setCell ⟨q, 1, none⟩ v')) := hid (fun v' W3 hq h3 => by
        obtain ⟨p1, p2⟩ := HTX.out.put1 hq h3
        have ph := p1.trans HTX.out.h
        refine ⟨⟨by rw [Rg.blk_cells ph 1]; rfl, Rg.blk_free ph _, (Array.getElem?_eq_some_iff.1 ph).1⟩, k + 1, by go_num, by omega, HMO.out, ?_⟩
        rw [HST.out, HF.out]
        exact ⟨_, p2⟩)
      have HO := hid HTX.out.c
      have HZB := HTX.out.z3
      have c1 : wd2.cell? ⟨q, 1, none⟩ = some v1 := by rw [Rg.blk_cells HTX.out.h 1]; rfl
      have z1 := HTX.out.lt
      have y0 : wd2.cell? ⟨g, 0, none⟩ = some (.string x.nm) := by rw [Rg.blk_cells HCL.out 0]; rfl
      have y1 : wd2.cell? ⟨g, 1, none⟩ = some (.int .i64 x.ty) := by rw [Rg.blk_cells HCL.out 1]; rfl
      have y2 : wd2.cell? ⟨g, 2, none⟩ = some (.bool x.nn) := by rw [Rg.blk_cells HCL.out 2]; rfl
      have y3 : wd2.cell? ⟨g, 3, none⟩ = some (.bool x.uq) := by rw [Rg.blk_cells HCL.out 3]; rfl
      have zg : g < wd2.heap.size := lt_of_cell y0
      clear HST HIT hx HTX HMO HTa HTb HTc HTd HCL HAP HPA HCQ HF
      obtain ⟨i0, hi0, hz0, hz1, hz2⟩ := info_parts c_info
      go_wp2_with (at_builtin; refine wpList_append_own _ rfl _ _ 25 rfl base 24 i0 (.agg #[.string ⟨#[]⟩, .int .i64 0, .bool false, .bool false]) 4 32 Tryd.underlying25 hi0 hz0 hz1 hz2 rfl (by decide) _ _ _ rfl (HO.out.alloc _) ⟨wd2.heap.size, 0, none⟩ 1 1 (cF x) rfl rfl ?ma1 ?ma2 ?ma3 ?ma4 ?ma5 ?_)
      case ma1 =>
        intro j u hu
        rw [addN, Nat.zero_add, Rg.blk_cells (heap_alloc_new _ _) j]
        simpa [cF] using hu
      case ma2 => exact cE.one _
      case ma3 => unfold maxLen; omega
      case ma4 => omega
      case ma5 => first | omega | (simp; omega)
      intro v' w8 hown3 hq8 _
      obtain ⟨g', cap', rfl, _, _, _⟩ := own_form hown3 (by omega)
      have hq9 : Gz v1 wd2 w8 := Gz.trans (.of ((Gr.refl _).alloc (.cells (cF x).toArray 24))) hq8
      obtain ⟨⟨c3, f3, z3⟩, hrel'⟩ := FI.out _ w8 hq9 (by rw [List.length_append, cellsF_snoc, hlen]; exact hown3)
      have HR := hid hrel'
      clear hown3 hq8 hq9 FI HO hrel' c1 z1 y0 y1 y2 y3 zg
      go_wp2
      exact ⟨HR.out, by simp [intOf]; omega⟩
    · have hB' : (decide ((k : Int) < n1) && !bad) = false := by simpa using hB
      rw [hB']
      have HRD : Hid (∀ U q', Rd2 nm cs (numR (ql, bad)).1 (numR (ql, bad)).2 U q' → RefRd (l, !ok) U q') := hid (fun U q' h => HRD.out U q' ⟨k, ⟨HPA.out, by
        rw [HCQ.out]
        simp only [Bool.and_eq_false_iff, decide_eq_false_iff_not, Bool.not_eq_false'] at hB'
        rcases hB' with h1 | h1
        · exact .inl (by omega)
        · exact .inr h1⟩, by rw [HCQ.out]; exact h⟩)
      have hcl : cs.length ≤ 2000001 := by omega
      have hll : ql.length ≤ 2000000 := by
        have := rdr_col.its_shorter qa k
        rw [HCQ.out] at this
        exact Nat.le_trans this hqa1
      clear hB hB' HPA HCQ HF hk hkz hlen e1 zp hqa1
      obtain ⟨⟨x2, l2, b2⟩, hT2⟩ : ∃ r, takeR 1 ql bad = r := ⟨_, rfl⟩
      have C2 := hid (rtake_any p 1 ql bad _ HTX.out.r)
      rw [hT2] at C2
      have HT2 := hid hT2
      clear hT2
      go_wp2_with fail
      refine C2.out.mono ?_
      rintro e w5 ⟨rfl, hrs, hgo⟩
      simp only at hrs
      unfold V.val
      simp only
      have FD := fun W => field1 x2.t x2.n x2.s x2.b W
      have HTX := hid (HTX.out.go hrs hgo)
      have HGO := hid hgo
      clear C2 hrs hgo
      have hle : l2.length ≤ 2000000 := by
        have h1 := takeR_len 1 ql bad
        rw [HT2.out] at h1
        exact Nat.le_trans h1 hll
      have HRD : Hid (∀ U q', Rd2 nm cs x2.n (l2, b2) U q' → RefRd (l, !ok) U q') := hid (fun U q' h => HRD.out U q' (by unfold numR; simp only; rw [HT2.out]; exact h))
      obtain ⟨n2, hn2⟩ : ∃ n, x2.n = n := ⟨_, rfl⟩
      rw [hn2] at HRD FD
      rw [hn2]
      clear hn2 HT2 HGO
      obtain ⟨F2, hF2⟩ : ∃ F : List Ix → Sq → World → Prop, F = fun xs q' W => ∃ v2, TX p q base w1 77 nm v1 v2 0 (.slice none 0 0) cs xs [] q'.1 q'.2 W := ⟨_, rfl⟩
      have HF := hid hF2
      have S2 : Hid (LpRel ixR (l2, b2) n2 F2 (.int .i64 0) w5) := hid ⟨0, rfl, Nat.zero_le _, fun j hj => by omega, by rw [hF2]; exact ⟨_, HTX.out⟩⟩
      clear hll HTX hF2
      obtain ⟨qa, hqa⟩ : ∃ q, (l2, b2) = q := ⟨_, rfl⟩
      rw [hqa] at S2 HRD
      have hqa1 : qa.1.length ≤ 2000000 := by rw [← hqa]; exact hle
      clear hle hqa
      go_wp2_with fail
      go_loopw [11] (fun sk wr => LpRel ixR qa n2 F2 sk wr) (fun sk _ => qa.1.length + 2 - (intOf sk).toNat)
      case atStart => exact S2.out
      case round =>
        clear S2
        obtain ⟨k, rfl, hk, hpast, hst⟩ := hrel
        rw [HF.out] at hst
        obtain ⟨v2, htx⟩ := hst
        obtain ⟨⟨xs, ⟨ql, bad⟩⟩, hcq⟩ : ∃ r, its ixR k qa = r := ⟨_, rfl⟩
        have hlen : xs.length = k := by
          have := its_len ixR qa k
          rw [hcq] at this; exact this
        rw [hcq] at htx
        simp only at htx
        have HCQ := hid hcq
        have HPA := hid hpast
        have HTX := hid htx
        have hkz : k ≤ 2000001 := by omega
        obtain ⟨oe, ce, hh, _⟩ := htx.r.ex
        have zp : p < wr.heap.size := (Array.getElem?_eq_some_iff.1 hh).1
        have e1 := Rg.blk_cells hh 1
        simp only [List.getElem?_toArray, List.getElem?_cons_zero, List.getElem?_cons_succ] at e1
        clear hcq hpast htx hh
        go_upto_region 15 with (fail)
        refine head_any 68 (.bool (decide ((k : Int) < n2) && !bad)) ?_ ?_
        · intro Q' HQ0
          have HQ := hid HQ0
          clear HQ0
          by_cases hlt : (k : Int) < n2
          · have g1 : decide ((k : Int) < n2) = true := by rw [decide_eq_true_iff]; exact hlt
            obtain ⟨f, h0, h1, h2, h3, h4, h5, h6, h7, h8⟩ := nth9 (.int .i64 (k : Int)) (.int .i64 n2) (.bool true) (.bool true) (.pointer (some ⟨p, 0, none⟩)) (.pointer (some ⟨p, 0, none⟩)) (.pointer (some ⟨p, 1, none⟩)) (.bool bad) (.bool (!bad))
            have HF9 := HQ.out f
            simp only [modT, h0, h1, h2, h3, h4, h5, h6, h7, h8, Act.put, List.setIfInBounds_toArray, List.set_cons_zero, List.set_cons_succ, Nat.reduceAdd, g1, Bool.true_and] at HF9
            have HF8 := hid HF9
            clear HF9 HQ h0 h1 h2 h3 h4 h5 h6 h7 h8
            go_wp2
            exact HF8.out
          · have g1 : decide ((k : Int) < n2) = false := by rw [decide_eq_false_iff_not]; exact hlt
            obtain ⟨f, h0, h1, h2, h3, h4, h5, h6, h7, h8⟩ := nth9 (.int .i64 (k : Int)) (.int .i64 n2) (.bool false) (.bool false) undef undef undef undef undef
            have HF9 := HQ.out f
            simp only [modT, h0, h1, h2, h3, h4, h5, h6, h7, h8, Act.put, List.setIfInBounds_toArray, List.set_cons_zero, List.set_cons_succ, Nat.reduceAdd, g1, Bool.false_and] at HF9
            have HF8 := hid HF9
            clear HF9 HQ h0 h1 h2 h3 h4 h5 h6 h7 h8
            go_wp2
            exact HF8.out
        intro f
        simp only [modT, Act.put, List.setIfInBounds_toArray, List.set_cons_zero, List.set_cons_succ, Nat.reduceAdd]
        generalize f 0 = z0, f 1 = z1, f 2 = z2, f 3 = z3, f 4 = z4, f 5 = z5, f 6 = z6, f 7 = z7, f 8 = z8
        by_cases hB : (decide ((k : Int) < n2) && !bad) = true
        · rw [hB]
          simp only [Bool.and_eq_true, decide_eq_true_eq, Bool.not_eq_true'] at hB
          obtain ⟨hlt, rfl⟩ := hB
          have hmore := lp_more rdr_ix (by omega) HPA.out hlt (by rw [HCQ.out])
          have hkl := hmore.1
          have HMO := hid hmore.2
          clear hmore e1 hlt
          obtain ⟨⟨xa, la, ba⟩, hTa⟩ : ∃ r, takeR 2 ql false = r := ⟨_, rfl⟩
          have Ca := hid (rtake_any p 2 ql false _ HTX.out.r)
          rw [hTa] at Ca
          have HTa := hid hTa
          clear hTa
          go_wp2_with fail
          refine Ca.out.mono ?_
          rintro e wa ⟨rfl, hrs, hgo⟩
          simp only at hrs
          unfold V.val
          simp only
          have FD := fun W => field2 xa.t xa.n xa.s xa.b W
          have HTX := hid (HTX.out.go hrs hgo)
          have HGO := hid hgo
          clear Ca hrs hgo
          obtain ⟨hap0, hap1, hap2, hap3⟩ := HTX.out.apart
          clear HGO
          go_upto_region 18 with (fail)
          have hcell := heap_alloc_new wa (.cells #[.string xa.s, .int .i64 0, .bool false] 60)
          have HTX := hid (HTX.out.gr ((Gr.refl _).alloc (.cells #[.string xa.s, .int .i64 0, .bool false] 60)))
          obtain ⟨g, hg⟩ : ∃ g, wa.heap.size = g := ⟨_, rfl⟩
          rw [hg] at hcell hap0 hap1 hap2 hap3
          rw [hg]
          obtain ⟨wa2, hwa2⟩ : ∃ W, wa.alloc (.cells #[.string xa.s, .int .i64 0, .bool false] 60) = W := ⟨_, rfl⟩
          rw [hwa2] at HTX hcell
          rw [hwa2]
          have HCL := hid hcell
          have HAP := hid (And.intro hap0 (And.intro hap1 (And.intro hap2 hap3)))
          have hpg : p < g := by
            have := HTX.out.z1
            omega
          clear hwa2 hg hcell hap0 hap1 hap2 hap3 FD
          obtain ⟨⟨xb, lb, bb⟩, hTb⟩ : ∃ r, takeR 1 la ba = r := ⟨_, rfl⟩
          have Cb := hid (rtake_any p 1 la ba _ HTX.out.r)
          rw [hTb] at Cb
          have HTb := hid hTb
          clear hTb
          go_wp2_with fail
          refine Cb.out.mono ?_
          rintro e wb ⟨rfl, hrs, hgo⟩
          simp only at hrs
          unfold V.val
          simp only
          have FD := fun W => field1 xb.t xb.n xb.s xb.b W
          have HTX := hid (HTX.out.go hrs hgo)
          have HGO := hid hgo
          clear Cb hrs hgo
          have hcell := blk_go HCL.out HGO.out (by omega)
          have y1 : wb.cell? ⟨g, 1, none⟩ = some (.int .i64 0) := by rw [Rg.blk_cells hcell 1]; rfl
          have fy1 : wb.frozen? ⟨g, 1, none⟩ = false := Rg.blk_free hcell _
          have zg : g < wb.heap.size := lt_of_cell y1
          have HCL := hid hcell
          clear hcell HGO
          go_upto_region 19 with (fail)
          have HTX := hid (HTX.out.other (Go1.set g 1 wb (.int .i64 xb.n)) HAP.out.1 HAP.out.2.1 HAP.out.2.2.1 HAP.out.2.2.2)
          have hcell := box_set wb g 60 [.string xa.s, .int .i64 0, .bool false] 1 (.int .i64 xb.n) HCL.out
          obtain ⟨wb2, hwb2⟩ : ∃ W, wb.setCell ⟨g, 1, none⟩ (.int .i64 xb.n) = W := ⟨_, rfl⟩
          rw [hwb2] at HTX hcell
          rw [hwb2]
          have HCL : Hid (wb2.heap[g]? = some (.cells #[.string xa.s, .int .i64 xb.n, .bool false] 60 (0, 0))) := hid hcell
          clear hwb2 hcell y1 fy1 zg FD
          obtain ⟨⟨xc, lc, bc⟩, hTc⟩ : ∃ r, takeR 3 lb bb = r := ⟨_, rfl⟩
          have Cc := hid (rtake_any p 3 lb bb _ HTX.out.r)
          rw [hTc] at Cc
          have HTc := hid hTc
          clear hTc
          go_wp2_with fail
          refine Cc.out.mono ?_
          rintro e wc ⟨rfl, hrs, hgo⟩
          simp only at hrs
          unfold V.val
          simp only
          have FD := fun W => field3 xc.t xc.n xc.s xc.b W
          have HTX := hid (HTX.out.go hrs hgo)
          have HGO := hid hgo
          clear Cc hrs hgo
          have hcell := blk_go HCL.out HGO.out (by omega)
          have y2 : wc.cell? ⟨g, 2, none⟩ = some (.bool false) := by rw [Rg.blk_cells hcell 2]; rfl
          have fy2 : wc.frozen? ⟨g, 2, none⟩ = false := Rg.blk_free hcell _
          have zg : g < wc.heap.size := lt_of_cell y2
          have HCL := hid hcell
          clear hcell HGO
          go_upto_region 20 with (fail)
          have HTX := hid (HTX.out.other (Go1.set g 2 wc (.bool xc.b)) HAP.out.1 HAP.out.2.1 HAP.out.2.2.1 HAP.out.2.2.2)
          have hcell := box_set wc g 60 [.string xa.s, .int .i64 xb.n, .bool false] 2 (.bool xc.b) HCL.out
          obtain ⟨wc2, hwc2⟩ : ∃ W, wc.setCell ⟨g, 2, none⟩ (.bool xc.b) = W := ⟨_, rfl⟩
          rw [hwc2] at HTX hcell
          rw [hwc2]
          have HCL : Hid (wc2.heap[g]? = some (.cells #[.string xa.s, .int .i64 xb.n, .bool xc.b] 60 (0, 0))) := hid hcell
          clear hwc2 hcell y2 fy2 zg FD
          have HIT : Hid (ixR (ql, false) = (⟨xa.s, xb.n, xc.b⟩, (lc, bc))) := hid (by
            unfold ixR
            simp only
            rw [HTa.out]
            simp only
            rw [HTb.out]
            simp only
            rw [HTc.out]
            )
          have HST := hid (its_succ ixR k qa)
          rw [HCQ.out] at HST
          simp only at HST
          rw [HIT.out] at HST
          simp only at HST
          obtain ⟨x, hx⟩ : ∃ x : Ix, x = ⟨xa.s, xb.n, xc.b⟩ := ⟨_, rfl⟩
          rw [← hx] at HST
          have e0' : xa.s = x.nm := by rw [hx]
          have e1' : xb.n = x.co := by rw [hx]
          have e2' : xc.b = x.uq := by rw [hx]
          rw [e0', e1', e2'] at HCL
          have FI : Hid (∀ v' W3, Gz v2 wc2 W3 → W3.ownsRow base 60 3 v' (xs ++ [x]).length (cellsF xF (xs ++ [x])) → (W3.cell? ⟨q, 2, none⟩ = some v2 ∧ W3.frozen? ⟨q, 2, none⟩ = false ∧ q < W3.heap.size) ∧ LpRel ixR qa n2 F2 (.int .i64 ((k : Int) + 1)) (W3.setCell ⟨q, 2, none⟩ v')) := hid (fun v' W3 hq h3 => by
            obtain ⟨p1, p2⟩ := HTX.out.put2 hq h3
            have ph := p1.trans HTX.out.h
            refine ⟨⟨by rw [Rg.blk_cells ph 2]; rfl, Rg.blk_free ph _, (Array.getElem?_eq_some_iff.1 ph).1⟩, k + 1, by go_num, by omega, HMO.out, ?_⟩
            rw [HST.out, HF.out]
            exact ⟨_, p2⟩)
          have HO := hid HTX.out.x
          have HZB := HTX.out.z3
          have c1 : wc2.cell? ⟨q, 2, none⟩ = some v2 := by rw [Rg.blk_cells HTX.out.h 2]; rfl
          have z1 := HTX.out.lt
          have y0 : wc2.cell? ⟨g, 0, none⟩ = some (.string x.nm) := by rw [Rg.blk_cells HCL.out 0]; rfl
          have y1 : wc2.cell? ⟨g, 1, none⟩ = some (.int .i64 x.co) := by rw [Rg.blk_cells HCL.out 1]; rfl
          have y2 : wc2.cell? ⟨g, 2, none⟩ = some (.bool x.uq) := by rw [Rg.blk_cells HCL.out 2]; rfl
          have zg : g < wc2.heap.size := lt_of_cell y0
          clear HST HIT hx HTX HMO HTa HTb HTc HCL HAP HPA HCQ HF
          obtain ⟨i0, hi0, hz0, hz1, hz2⟩ := info_parts x_info
          go_wp2_with (at_builtin; refine wpList_append_own _ rfl _ _ 26 rfl base 60 i0 (.agg #[.string ⟨#[]⟩, .int .i64 0, .bool false]) 3 32 Tryd.underlying26 hi0 hz0 hz1 hz2 rfl (by decide) _ _ _ rfl (HO.out.alloc _) ⟨wc2.heap.size, 0, none⟩ 1 1 (xF x) rfl rfl ?ma1 ?ma2 ?ma3 ?ma4 ?ma5 ?_)
          case ma1 =>
            intro j u hu
            rw [addN, Nat.zero_add, Rg.blk_cells (heap_alloc_new _ _) j]
            simpa [xF] using hu
          case ma2 => exact xE.one _
          case ma3 => unfold maxLen; omega
          case ma4 => omega
          case ma5 => first | omega | (simp; omega)
          intro v' w8 hown3 hq8 _
          obtain ⟨g', cap', rfl, _, _, _⟩ := own_form hown3 (by omega)
          have hq9 : Gz v2 wc2 w8 := Gz.trans (.of ((Gr.refl _).alloc (.cells (xF x).toArray 60))) hq8
          obtain ⟨⟨c3, f3, z3⟩, hrel'⟩ := FI.out _ w8 hq9 (by rw [List.length_append, cellsF_snoc, hlen]; exact hown3)
          have HR := hid hrel'
          clear hown3 hq8 hq9 FI HO hrel' c1 z1 y0 y1 y2 zg
          go_wp2
          exact ⟨HR.out, by simp [intOf]; omega⟩
        · have hB' : (decide ((k : Int) < n2) && !bad) = false := by simpa using hB
          rw [hB']
          have HRD : Hid (∀ U q', Rd3 nm cs xs (numR (ql, bad)).1 (numR (numR (ql, bad)).2).1 (numR (numR (ql, bad)).2).2 U q' → RefRd (l, !ok) U q') := hid (fun U q' h => HRD.out U q' ⟨k, ⟨HPA.out, by
            rw [HCQ.out]
            simp only [Bool.and_eq_false_iff, decide_eq_false_iff_not, Bool.not_eq_false'] at hB'
            rcases hB' with h1 | h1
            · exact .inl (by omega)
            · exact .inr h1⟩, by rw [HCQ.out]; exact h⟩)
          have hxl : xs.length ≤ 2000001 := by omega
          have hll : ql.length ≤ 2000000 := by
            have := rdr_ix.its_shorter qa k
            rw [HCQ.out] at this
            exact Nat.le_trans this hqa1
          clear hB hB' HPA HCQ HF hk hkz hlen e1 zp hqa1
          obtain ⟨⟨x3, l3, b3⟩, hT3⟩ : ∃ r, takeR 1 ql bad = r := ⟨_, rfl⟩
          have C3 := hid (rtake_any p 1 ql bad _ HTX.out.r)
          rw [hT3] at C3
          have HT3 := hid hT3
          clear hT3
          go_wp2_with fail
          refine C3.out.mono ?_
          rintro e w6 ⟨rfl, hrs, hgo⟩
          simp only at hrs
          unfold V.val
          simp only
          have FD := fun W => field1 x3.t x3.n x3.s x3.b W
          have HTX := hid (HTX.out.go hrs hgo)
          have HGO := hid hgo
          clear C3 hrs hgo
          have hle : l3.length ≤ 2000000 := by
            have h1 := takeR_len 1 ql bad
            rw [HT3.out] at h1
            exact Nat.le_trans h1 hll
          have HRD : Hid (∀ U q', Rd3 nm cs xs x3.n (numR (l3, b3)).1 (numR (l3, b3)).2 U q' → RefRd (l, !ok) U q') := hid (fun U q' h => HRD.out U q' (by
            have e : numR (ql, bad) = (x3.n, (l3, b3)) := by unfold numR; simp only; rw [HT3.out]
            rw [e]; exact h))
          obtain ⟨hd, hhd⟩ : ∃ n, x3.n = n := ⟨_, rfl⟩
          rw [hhd] at HRD FD
          rw [hhd]
          have c3 : w6.cell? ⟨q, 3, none⟩ = some (.int .i64 0) := by rw [Rg.blk_cells HTX.out.h 3]; rfl
          have f3 : w6.frozen? ⟨q, 3, none⟩ = false := Rg.blk_free HTX.out.h _
          have z3 := HTX.out.lt
          have HTX := hid (HTX.out.puth hd)
          clear hhd HT3 HGO hll
          go_upto_region 22 with (fail)
          obtain ⟨w62, hw62⟩ : ∃ W, w6.setCell ⟨q, 3, none⟩ (.int .i64 hd) = W := ⟨_, rfl⟩
          rw [hw62] at HTX
          rw [hw62]
          clear hw62 c3 f3 z3 FD
          obtain ⟨⟨x4, l4, b4⟩, hT4⟩ : ∃ r, takeR 1 l3 b3 = r := ⟨_, rfl⟩
          have C4 := hid (rtake_any p 1 l3 b3 _ HTX.out.r)
          rw [hT4] at C4
          have HT4 := hid hT4
          clear hT4
          go_wp2_with fail
          refine C4.out.mono ?_
          rintro e w7 ⟨rfl, hrs, hgo⟩
          simp only at hrs
          unfold V.val
          simp only
          have FD := fun W => field1 x4.t x4.n x4.s x4.b W
          have HTX := hid (HTX.out.go hrs hgo)
          have HGO := hid hgo
          clear C4 hrs hgo
          have hl4 : l4.length ≤ 2000000 := by
            have h1 := takeR_len 1 l3 b3
            rw [HT4.out] at h1
            exact Nat.le_trans h1 hle
          have HRD : Hid (∀ U q', Rd3 nm cs xs hd x4.n (l4, b4) U q' → RefRd (l, !ok) U q') := hid (fun U q' h => HRD.out U q' (by unfold numR; simp only; rw [HT4.out]; exact h))
          obtain ⟨n3, hn3⟩ : ∃ n, x4.n = n := ⟨_, rfl⟩
          rw [hn3] at HRD FD
          rw [hn3]
          clear hn3 HT4 HGO
          obtain ⟨F3, hF3⟩ : ∃ F : List Int → Sq → World → Prop, F = fun rs q' W => ∃ v3, TX p q base w1 77 nm v1 v2 hd v3 cs xs rs q'.1 q'.2 W := ⟨_, rfl⟩
          have HF := hid hF3
          have S3 : Hid (LpRel numR (l4, b4) n3 F3 (.int .i64 0) w7) := hid ⟨0, rfl, Nat.zero_le _, fun j hj => by omega, by rw [hF3]; exact ⟨_, HTX.out⟩⟩
          clear hle HTX hF3
          obtain ⟨qa, hqa⟩ : ∃ q, (l4, b4) = q := ⟨_, rfl⟩
          rw [hqa] at S3 HRD
          have hqa1 : qa.1.length ≤ 2000000 := by rw [← hqa]; exact hl4
          clear hl4 hqa
          go_wp2_with fail
          go_loopw [13] (fun sk wr => LpRel numR qa n3 F3 sk wr) (fun sk _ => qa.1.length + 2 - (intOf sk).toNat)
          case atStart => exact S3.out
          case round =>
            clear S3
            obtain ⟨k, rfl, hk, hpast, hst⟩ := hrel
            rw [HF.out] at hst
            obtain ⟨v3, htx⟩ := hst
            obtain ⟨⟨rs, ⟨ql, bad⟩⟩, hcq⟩ : ∃ r, its numR k qa = r := ⟨_, rfl⟩
            have hlen : rs.length = k := by
              have := its_len numR qa k
              rw [hcq] at this; exact this
            rw [hcq] at htx
            simp only at htx
            have HCQ := hid hcq
            have HPA := hid hpast
            have HTX := hid htx
            have hkz : k ≤ 2000001 := by omega
            obtain ⟨oe, ce, hh, _⟩ := htx.r.ex
            have zp : p < wr.heap.size := (Array.getElem?_eq_some_iff.1 hh).1
            have e1 := Rg.blk_cells hh 1
            simp only [List.getElem?_toArray, List.getElem?_cons_zero, List.getElem?_cons_succ] at e1
            clear hcq hpast htx hh
            go_upto_region 24 with (fail)
            refine head_any 105 (.bool (decide ((k : Int) < n3) && !bad)) ?_ ?_
            · intro Q' HQ0
              have HQ := hid HQ0
              clear HQ0
              by_cases hlt : (k : Int) < n3
              · have g1 : decide ((k : Int) < n3) = true := by rw [decide_eq_true_iff]; exact hlt
                obtain ⟨f, h0, h1, h2, h3, h4, h5, h6, h7, h8⟩ := nth9 (.int .i64 (k : Int)) (.int .i64 n3) (.bool true) (.bool true) (.pointer (some ⟨p, 0, none⟩)) (.pointer (some ⟨p, 0, none⟩)) (.pointer (some ⟨p, 1, none⟩)) (.bool bad) (.bool (!bad))
                have HF9 := HQ.out f
                simp only [modT, h0, h1, h2, h3, h4, h5, h6, h7, h8, Act.put, List.setIfInBounds_toArray, List.set_cons_zero, List.set_cons_succ, Nat.reduceAdd, g1, Bool.true_and] at HF9
                have HF8 := hid HF9
                clear HF9 HQ h0 h1 h2 h3 h4 h5 h6 h7 h8
                go_wp2
                exact HF8.out
              · have g1 : decide ((k : Int) < n3) = false := by rw [decide_eq_false_iff_not]; exact hlt
                obtain ⟨f, h0, h1, h2, h3, h4, h5, h6, h7, h8⟩ := nth9 (.int .i64 (k : Int)) (.int .i64 n3) (.bool false) (.bool false) undef undef undef undef undef
                have HF9 := HQ.out f
                simp only [modT, h0, h1, h2, h3, h4, h5, h6, h7, h8, Act.put, List.setIfInBounds_toArray, List.set_cons_zero, List.set_cons_succ, Nat.reduceAdd, g1, Bool.false_and] at HF9
                have HF8 := hid HF9
                clear HF9 HQ h0 h1 h2 h3 h4 h5 h6 h7 h8
                go_wp2
                exact HF8.out
            intro f
            simp only [modT, Act.put, List.setIfInBounds_toArray, List.set_cons_zero, List.set_cons_succ, Nat.reduceAdd]
            generalize f 0 = z0, f 1 = z1, f 2 = z2, f 3 = z3, f 4 = z4, f 5 = z5, f 6 = z6, f 7 = z7, f 8 = z8
            by_cases hB : (decide ((k : Int) < n3) && !bad) = true
            · rw [hB]
              simp only [Bool.and_eq_true, decide_eq_true_eq, Bool.not_eq_true'] at hB
              obtain ⟨hlt, rfl⟩ := hB
              have hmore := lp_more rdr_num (by omega) HPA.out hlt (by rw [HCQ.out])
              have hkl := hmore.1
              have HMO := hid hmore.2
              clear hmore e1 hlt
              go_upto_region 26 with (fail)
              obtain ⟨⟨xa, la, ba⟩, hTa⟩ : ∃ r, takeR 1 ql false = r := ⟨_, rfl⟩
              have HIT : Hid (numR (ql, false) = (xa.n, (la, ba))) := hid (by unfold numR; simp only; rw [hTa])
              have HST := hid (its_succ numR k qa)
              rw [HCQ.out] at HST
              simp only at HST
              rw [HIT.out] at HST
              simp only at HST
              obtain ⟨F, hF⟩ : ∃ F : Nat → World → Prop, F = fun s W => TX p q base w1 77 nm v1 v2 hd v3 cs xs rs (if s = 0 then ql else la) (if s = 0 then false else ba) W := ⟨_, rfl⟩
              have HK : Hid (∀ s W W', F s W → Gr W W' → F s W') := hid (fun s W W' h hg => by rw [hF] at h ⊢; exact h.gr hg)
              have HC : Hid (∀ s W, F s W → W.cell? ⟨q, 4, none⟩ = some v3 ∧ q < W.heap.size) := hid (fun s W h => by rw [hF] at h; exact ⟨by rw [Rg.blk_cells h.h 4]; rfl, h.lt⟩)
              have C1 : Hid (∀ W, F 0 W → Calls Tryd.prog 40 #[.pointer (some ⟨p, 0, none⟩), .int .i64 1] W (fun e w' => ∃ u', e = .returned u' ∧ (u' = .agg #[.int .i64 xa.t, .int .i64 xa.n, .string xa.s, .bool xa.b] ∧ F 1 w'))) := hid (fun W h => by
                rw [hF] at h ⊢
                have C := rtake_any p 1 ql false W h.r
                rw [hTa] at C
                exact C.mono fun e w' ⟨he, hr, hg⟩ => ⟨_, he, rfl, h.go hr hg⟩)
              have HO : Hid (∀ W, F 1 W → W.ownsRow base 3 1 v3 rs.length (cellsF iF rs)) := hid (fun W h => by rw [hF] at h; exact h.i)
              have HZ : Hid (∀ W, F 1 W → base ≤ W.heap.size) := hid (fun W h => by rw [hF] at h; exact h.z3)
              have FI : Hid (∀ W, F 1 W → ∀ v' W3, Gz v3 W W3 → W3.ownsRow base 3 1 v' (rs ++ [xa.n]).length (cellsF iF (rs ++ [xa.n])) → (W3.cell? ⟨q, 4, none⟩ = some v3 ∧ W3.frozen? ⟨q, 4, none⟩ = false ∧ q < W3.heap.size) ∧ LpRel numR qa n3 F3 (.int .i64 ((k : Int) + 1)) (W3.setCell ⟨q, 4, none⟩ v')) := hid (fun W h v' W3 hq h3 => by
                rw [hF] at h
                obtain ⟨p1, p2⟩ := h.put3 hq h3
                have ph := p1.trans h.h
                refine ⟨⟨by rw [Rg.blk_cells ph 4]; rfl, Rg.blk_free ph _, (Array.getElem?_eq_some_iff.1 ph).1⟩, k + 1, by go_num, by omega, HMO.out, ?_⟩
                rw [HST.out, HF.out]
                exact ⟨_, p2⟩)
              have HS0 : Hid (F 0 wr) := hid (by rw [hF]; exact HTX.out)
              have FD := fun W => field1 xa.t xa.n xa.s xa.b W
              clear hF hTa HST HCQ HIT HMO HPA HTX HF
              generalize xa.n = x at *
              refine Rg.region_chain 6 [3, 5] [] (StT 1 5 (iF x) F) [some (.pointer (some ⟨q, 4, none⟩)), some v3, some (.pointer (some ⟨p, 0, none⟩)), some (.agg #[.int .i64 xa.t, .int .i64 x, .string xa.s, .bool xa.b]), some (.int .i64 x), none]
                (fun v => by rw [st_at (by omega)]; exact HK.out 0 _ _ HS0.out ((Gr.refl _).drew)) (by kernel_rfl) (by kernel_rfl) (by kernel_rfl) (by kernel_rfl) (fun _ _ d _ _ h => by cases d <;> exact h) ?_
              intro OPS _ v
              simp only [List.take_succ_cons, List.take_zero, Rg.wpC, Option.getD_some, Option.getD_none, Act.put, List.setIfInBounds_toArray, List.set_cons_zero, List.set_cons_succ, show List.contains [3, 5] 0 = false from rfl, show List.contains [3, 5] 1 = false from rfl, show List.contains [3, 5] 2 = false from rfl, show List.contains [3, 5] 3 = true from rfl, show List.contains [3, 5] 4 = false from rfl, show List.contains [3, 5] 5 = true from rfl, Bool.false_eq_true, if_false, if_true, Nat.reduceAdd]
              refine ⟨?_, ?_, ?_, ?_, ?_, ?_, ?_⟩
              · refine sc_still (by rfl) (by rfl) (fun s W _ hS => ?_)
                obtain ⟨j, hj⟩ := st_any hS
                obtain ⟨c1, z1⟩ := HC.out j W hj
                go_simp
              · refine sc_still (by rfl) (by rfl) (fun s W _ hS => ?_)
                obtain ⟨j, hj⟩ := st_any hS
                obtain ⟨c1, z1⟩ := HC.out j W hj
                go_simp
              · refine sc_still (by rfl) (by rfl) (fun s W _ hS => ?_)
                go_simp
              · refine sc_call (by rfl) (by rfl) (fun W hS => ?_)
                rw [st_at (by omega)] at hS
                go_simp
                refine (C1.out W hS).mono ?_
                rintro e w' ⟨u, rfl, hu, hf⟩
                exact ⟨u, rfl, hu, by rw [st_at (by omega)]; exact hf⟩
              · refine sc_still (by rfl) (by rfl) (fun s W _ hS => ?_)
                go_simp
              · refine sc_new (by rfl) (by rfl) (fun W hS => ?_)
                rw [st_at (by omega)] at hS
                go_simp
                rw [st_end (by omega)]
                refine ⟨HK.out 1 _ _ hS ((Gr.refl _).alloc _), ?_⟩
                rw [upd_same]
                exact one_new W (iF x) 3
              · intro W hS
                rw [st_end (by omega)] at hS
                obtain ⟨h4, g, hg, hcs⟩ := hS
                generalize v 5 = vv at *
                subst hg
                simp only [List.drop_succ_cons, List.drop_zero]
                have HOW := hid (HO.out W h4)
                have HFI := hid (FI.out W h4)
                have HZB := hid (HZ.out W h4)
                clear HO FI HS0 HK HC HZ C1 FD
                obtain ⟨i0, hi0, hz0, hz1, hz2⟩ := info_parts i_info
                go_wp2_with (at_builtin; refine wpList_append_own _ rfl _ _ 27 rfl base 3 i0 (.int .i64 0) 1 8 Tryd.underlying27 hi0 hz0 hz1 hz2 rfl (by decide) _ _ _ rfl HOW.out ⟨g, 0, none⟩ 1 1 (iF x) rfl rfl ?ma1 ?ma2 ?ma3 ?ma4 ?ma5 ?_)
                case ma1 =>
                  intro j u hu
                  rw [addN, Nat.zero_add]
                  exact hcs j u hu
                case ma2 => exact iE.one _
                case ma3 => unfold maxLen; omega
                case ma4 => omega
                case ma5 => exact HZB.out
                intro v' w8 hown3 hq8 _
                obtain ⟨g', cap', rfl, _, _, _⟩ := own_form hown3 (by omega)
                obtain ⟨⟨c3, f3, z3⟩, hrel'⟩ := HFI.out _ w8 hq8 (by rw [List.length_append, cellsF_snoc, hlen]; exact hown3)
                have HR := hid hrel'
                clear hown3 hq8 HFI HOW hcs h4 hrel'
                go_wp2
                exact ⟨HR.out, by simp [intOf]; omega⟩
            · have hB' : (decide ((k : Int) < n3) && !bad) = false := by simpa using hB
              rw [hB']
              have HREF : Hid (RefRd (l, !ok) (mkT nm cs xs hd rs) (ql, bad)) := hid (HRD.out _ _ ⟨k, ⟨HPA.out, by
                rw [HCQ.out]
                simp only [Bool.and_eq_false_iff, decide_eq_false_iff_not, Bool.not_eq_false'] at hB'
                rcases hB' with h1 | h1
                · exact .inl (by omega)
                · exact .inr h1⟩, by rw [HCQ.out], by rw [HCQ.out]⟩)
              have hrl : rs.length ≤ 2000001 := by omega
              obtain ⟨oe, ce, hh, _⟩ := HTX.out.r.ex
              have e0 := Rg.blk_cells hh 0
              simp only [List.getElem?_toArray, List.getElem?_cons_zero, List.getElem?_cons_succ] at e0
              have hbx : wr.heap[r0]? = some (.cells #[.string ⟨#[]⟩, .slice none 0 0, .slice none 0 0, .int .i64 0, .slice none 0 0] 29 (0, 0)) := by
                rw [HTX.out.g.block r0 (by rw [hp]; exact hrp)]
                exact hbox
              have HBX := hid hbx
              have HGW := hid (HTP.out.trans HTX.out.g)
              have HR0 := hid (Nat.le_of_eq hr0)
              have HB1 := hid hbox
              have HRP := hid hrp
              have HRW := hid hr0
              clear hB hB' HPA HCQ HF hk hkz hlen hqa1 HRD hh hbx hbox hrp hr0
              have hemp : ∀ W, Go1 r0 wr W → ¬ ((ql, bad) = (([] : List V), false) ∧ joinV (schL (mkT nm cs xs hd rs)) = b) → QQ (.returned (.tuple #[.agg #[.string ⟨#[]⟩, .slice none 0 0, .slice none 0 0, .int .i64 0, .slice none 0 0], .bool false])) W := fun W hW hne => by
                rw [← HQQ.out]
                exact ⟨none, ⟨_, _, HREF.out, .inr ⟨hne, rfl⟩⟩, HGW.out.grown hW (fun k e => by cases e; exact HR0.out), noT, ⟨.inl rfl, .inl rfl, .inl rfl, Nat.zero_le _, Nat.zero_le _, Nat.zero_le _⟩, rfl, rfl⟩
              have HEM := hid hemp
              clear hemp
              have PH : Hid (∀ W, Gr wr W → ¬ ((ql, bad) = (([] : List V), false) ∧ joinV (schL (mkT nm cs xs hd rs)) = b) → True) := hid (fun _ _ _ => trivial)
              cases bad with
              | true =>
                have HNE : Hid (¬ (((ql, true) : Sq) = ([], false) ∧ joinV (schL (mkT nm cs xs hd rs)) = b)) := hid (fun h => by cases h.1)
                clear HTX HREF PH e0
                go_upto_region 27 with (fail)
                refine Rg.region_text 19 (Below.drew (Below.refl _ _)) (by kernel_rfl) (by kernel_rfl) (fun _ _ d _ _ h => by cases d <;> exact h) ?_
                simp only [List.append_eq, List.cons_append, List.nil_append, List.take_succ_cons, List.take_zero, List.drop_succ_cons, List.drop_zero]
                repeat (first
                    | (refine Rg.wpDets_skip (by rfl) ?_; simp only [Act.put, List.setIfInBounds_toArray, List.set_cons_zero, List.set_cons_succ])
                    | (refine Rg.wpDets_step ?_ (by rfl) (fun w hS => ?_) ?_
                       rotate_left
                       · have hc := Gr.cells hS
                         have hf := Gr.frees hS
                         go_simp
                         first
                         | (refine ⟨?_, Below.refl _ _⟩; with_reducible rfl)
                       simp only [Act.put, List.setIfInBounds_toArray, List.set_cons_zero, List.set_cons_succ]))
                refine Rg.wpDets_nil ?_
                refine Rg.wpFlts_nil ?_
                refine Rg.wpLays_nil ?_
                intro w9 hK
                have hg : Gr _ w9 := hK.up
                have hc := Gr.cells hg
                have hf := Gr.frees hg
                have hz := Gr.size hg
                try simp only [World.size_alloc, World.size_setCell, World.size_drew] at hz
                try have : 0 < w9.heap.size := by omega
                try have : w.heap.size < w9.heap.size := by omega
                try have : w.heap.size + 1 < w9.heap.size := by omega
                try have : w.heap.size + 1 + 1 < w9.heap.size := by omega
                try have : w.heap.size + 1 + 1 + 1 < w9.heap.size := by omega
                try have : w1.heap.size < w9.heap.size := by omega
                try have : w1.heap.size + 1 < w9.heap.size := by omega
                try have : w2.heap.size < w9.heap.size := by omega
                try have : w2.heap.size + 1 < w9.heap.size := by omega
                try have : w3.heap.size < w9.heap.size := by omega
                try have : w3.heap.size + 1 < w9.heap.size := by omega
                try have : w4.heap.size < w9.heap.size := by omega
                try have : w4.heap.size + 1 < w9.heap.size := by omega
                try have : w5.heap.size < w9.heap.size := by omega
                try have : w5.heap.size + 1 < w9.heap.size := by omega
                try have : w6.heap.size < w9.heap.size := by omega
                try have : w6.heap.size + 1 < w9.heap.size := by omega
                try have : w7.heap.size < w9.heap.size := by omega
                try have : w7.heap.size + 1 < w9.heap.size := by omega
                try have : w8.heap.size < w9.heap.size := by omega
                try have : w8.heap.size + 1 < w9.heap.size := by omega
                have hb9 := blk_gr HBX.out hg
                have x0 := Rg.blk_cells hb9 0
                have x1 := Rg.blk_cells hb9 1
                have x2 := Rg.blk_cells hb9 2
                have x3 := Rg.blk_cells hb9 3
                have x4 := Rg.blk_cells hb9 4
                simp only [List.getElem?_toArray, List.getElem?_cons_zero, List.getElem?_cons_succ] at x0 x1 x2 x3 x4
                have y0 := Rg.blk_free hb9 0
                have y1 := Rg.blk_free hb9 1
                have y2 := Rg.blk_free hb9 2
                have y3 := Rg.blk_free hb9 3
                have y4 := Rg.blk_free hb9 4
                have zr : r0 < w9.heap.size := lt_of_cell x0
                have HB9 := hid hb9
                have HG9 := hid (Go1.of (p := r0) hg)
                clear hb9 hg
                go_wp2
                have B5 := box_all HB9.out (.string ⟨#[]⟩) (.slice none 0 0) (.slice none 0 0) (.int .i64 0) (.slice none 0 0)
                have G5 : Go1 r0 w9 _ := ((((Go1.set r0 0 w9 (.string ⟨#[]⟩)).trans (Go1.set r0 1 _ (.slice none 0 0))).trans (Go1.set r0 2 _ (.slice none 0 0))).trans (Go1.set r0 3 _ (.int .i64 0))).trans (Go1.set r0 4 _ (.slice none 0 0))
                generalize (((((w9.setCell ⟨r0, 0, none⟩ (.string ⟨#[]⟩)).setCell ⟨r0, 1, none⟩ (.slice none 0 0)).setCell ⟨r0, 2, none⟩ (.slice none 0 0)).setCell ⟨r0, 3, none⟩ (.int .i64 0)).setCell ⟨r0, 4, none⟩ (.slice none 0 0)) = W8 at B5 G5 ⊢
                have k0 := Rg.blk_cells B5 0
                have k1 := Rg.blk_cells B5 1
                have k2 := Rg.blk_cells B5 2
                have k3 := Rg.blk_cells B5 3
                have k4 := Rg.blk_cells B5 4
                simp only [List.getElem?_toArray, List.getElem?_cons_zero, List.getElem?_cons_succ] at k0 k1 k2 k3 k4
                refine bodyPost_ret (by simp [results, Tryd.results15, go_sem, k0, k1, k2, k3, k4]; try rfl) rfl (HEM.out _ (HG9.out.trans G5) HNE.out)
              | false =>
                by_cases hq0 : ql = []
                · subst hq0
                  have HFT := hid (show (joinV (schL (mkT nm cs xs hd rs))).length ≤ 2000000 ∧ (∀ v ∈ schL (mkT nm cs xs hd rs), VOk v) ∧ byteI (joinV (schL (mkT nm cs xs hd rs))) ∧ cs.length ≤ 2000000 ∧ xs.length ≤ 2000000 ∧ rs.length ≤ 2000000 by
                    have h0 := HQ0.out
                    have hR : R = some l ∧ ok = true := by
                      cases R with
                      | none =>
                        simp only [stOf, Prod.mk.injEq] at h0
                        obtain ⟨rfl, h1⟩ := h0
                        have h2 := (ref_back (l := []) (b := !ok) (by simp) (fun v hv => by simp at hv) HREF.out).1
                        rw [← h1] at h2; cases h2
                      | some l0 =>
                        simp only [stOf, Prod.mk.injEq] at h0
                        obtain ⟨rfl, h1⟩ := h0
                        exact ⟨rfl, by simpa using h1.symm⟩
                    obtain ⟨e1, e2⟩ := hR
                    have h3 := HREF.out
                    rw [e2] at h3
                    exact RFIT.out l _ e1 h3)
                  obtain ⟨oc, cc, ox, cx, od, cr, ev1, ev2, ev3, _, _, _, htf⟩ := HTX.out.fin
                  subst ev1 ev2 ev3
                  have HTF := hid htf
                  have C17 : Hid (∀ W, Gr wr W → Calls Tryd.prog 17 #[.agg #[.string nm, .slice oc cs.length cc, .slice ox xs.length cx, .int .i64 hd, .slice od rs.length cr]] W (RetB (joinV (schL (mkT nm cs xs hd rs))) W)) := hid (fun W h => by
                    obtain ⟨f1, f2, f3, f4, f5, f6⟩ := HFT.out
                    exact rschema_any ⟨nm, oc, cs, cc, ox, xs, cx, hd, od, rs, cr⟩ W ((HTF.out.gr h).at q cc cx cr ⟨by omega, by omega, by omega⟩) ⟨f4, f5, f6⟩ f2 (by show (joinV (schL (mkT nm cs xs hd rs))).length ≤ _; omega))
                  have HCV : Hid (∀ W, Gr wr W → (convert 30 9 (.slice ol nb cl)).run Tryd.prog W = .ok (.string (strOfNums b)) W) := hid (fun W h => CV.out W (HGW.out.trans h))
                  have HEQ : Hid ((!((strOfNums (joinV (schL (mkT nm cs xs hd rs)))).toList == (strOfNums b).toList)) = false ↔ joinV (schL (mkT nm cs xs hd rs)) = b) := hid (by
                    constructor
                    · intro h
                      refine str_inj HFT.out.2.2.1 HBB.out ?_
                      have h1 : (strOfNums (joinV (schL (mkT nm cs xs hd rs)))).toList = (strOfNums b).toList := by simpa using h
                      rw [ByteArray.toList_eq, ByteArray.toList_eq] at h1
                      exact h1
                    · intro h; rw [h]; simp)
                  have d0 : wr.cell? ⟨q, 0, none⟩ = some (.string nm) := by rw [Rg.blk_cells htf.h 0]; rfl
                  have d1 : wr.cell? ⟨q, 1, none⟩ = some (.slice oc cs.length cc) := by rw [Rg.blk_cells htf.h 1]; rfl
                  have d2 : wr.cell? ⟨q, 2, none⟩ = some (.slice ox xs.length cx) := by rw [Rg.blk_cells htf.h 2]; rfl
                  have d3 : wr.cell? ⟨q, 3, none⟩ = some (.int .i64 hd) := by rw [Rg.blk_cells htf.h 3]; rfl
                  have d4 : wr.cell? ⟨q, 4, none⟩ = some (.slice od rs.length cr) := by rw [Rg.blk_cells htf.h 4]; rfl
                  have zq := htf.lt
                  simp only [List.length_nil] at e0
                  clear HTX htf CV RFIT HFT HBB PH
                  obtain ⟨R1, hR1⟩ : ∃ R, joinV (schL (mkT nm cs xs hd rs)) = R := ⟨_, rfl⟩
                  have HR1 := hid hR1
                  rw [hR1] at C17 HEQ HEM
                  clear hR1
                  go_upto_region 27 with (fail)
                  refine Rg.region_facts (W := wr) 19 [] [(15, [14])] [(14, GBs R1)] (fun _ => false) [14]
                    [some (.pointer (some ⟨p, 0, none⟩)), some (.pointer (some ⟨p, 0, none⟩)), some (.pointer (some ⟨p, 1, none⟩)), some (.bool false), some (.bool false), some (.pointer (some ⟨p, 0, none⟩)), some (.pointer (some ⟨p, 0, none⟩)), some (.pointer (some ⟨p, 0, none⟩)), some (.slice oe 0 ce), some (.int .i64 0), some (.bool false), some (.bool false), some (.bool false), some (.agg #[.string nm, .slice oc cs.length cc, .slice ox xs.length cx, .int .i64 hd, .slice od rs.length cr]), none, some (.string (strOfNums R1)), some (.slice ol nb cl), some (.string (strOfNums b)), some (.bool (!((strOfNums R1).toList == (strOfNums b).toList)))]
                    (Below.drew (Below.refl _ _)) (by kernel_rfl) (by kernel_rfl) ⟨rfl, trivial⟩ (gbs_keep1 _ _) (fun _ _ d _ _ h => by cases d <;> exact h) ?_
                  intro v
                  simp only [List.take_succ_cons, List.take_zero, Rg.wpF, Option.getD_some, Option.getD_none, Act.put, List.setIfInBounds_toArray, List.set_cons_zero, List.set_cons_succ]
                  refine ⟨?_, ?_, ?_, ?_, ?_, ?_, ?_, ?_, ?_, ?_, ?_, ?_, ?_, ?_, ?_, ?_, ?_, ?_, ?_, ?_⟩
                  · refine sf_det (by rfl) (by rfl) (fun w' hS hF => ?_)
                    have hc := Gr.cells hS
                    have hf := Gr.frees hS
                    go_simp
                    first
                    | exact Below.refl _ _
                    | (refine ⟨?_, Below.refl _ _⟩; with_reducible rfl)
                  · refine sf_det (by rfl) (by rfl) (fun w' hS hF => ?_)
                    have hc := Gr.cells hS
                    have hf := Gr.frees hS
                    go_simp
                    first
                    | exact Below.refl _ _
                    | (refine ⟨?_, Below.refl _ _⟩; with_reducible rfl)
                  · refine sf_det (by rfl) (by rfl) (fun w' hS hF => ?_)
                    have hc := Gr.cells hS
                    have hf := Gr.frees hS
                    go_simp
                    first
                    | exact Below.refl _ _
                    | (refine ⟨?_, Below.refl _ _⟩; with_reducible rfl)
                  · refine sf_det (by rfl) (by rfl) (fun w' hS hF => ?_)
                    have hc := Gr.cells hS
                    have hf := Gr.frees hS
                    go_simp
                    first
                    | exact Below.refl _ _
                    | (refine ⟨?_, Below.refl _ _⟩; with_reducible rfl)
                  · refine sf_det (by rfl) (by rfl) (fun w' hS hF => ?_)
                    have hc := Gr.cells hS
                    have hf := Gr.frees hS
                    go_simp
                    first
                    | exact Below.refl _ _
                    | (refine ⟨?_, Below.refl _ _⟩; with_reducible rfl)
                  · refine sf_det (by rfl) (by rfl) (fun w' hS hF => ?_)
                    have hc := Gr.cells hS
                    have hf := Gr.frees hS
                    go_simp
                    first
                    | exact Below.refl _ _
                    | (refine ⟨?_, Below.refl _ _⟩; with_reducible rfl)
                  · refine sf_det (by rfl) (by rfl) (fun w' hS hF => ?_)
                    have hc := Gr.cells hS
                    have hf := Gr.frees hS
                    go_simp
                    first
                    | exact Below.refl _ _
                    | (refine ⟨?_, Below.refl _ _⟩; with_reducible rfl)
                  · refine sf_det (by rfl) (by rfl) (fun w' hS hF => ?_)
                    have hc := Gr.cells hS
                    have hf := Gr.frees hS
                    go_simp
                    first
                    | exact Below.refl _ _
                    | (refine ⟨?_, Below.refl _ _⟩; with_reducible rfl)
                  · refine sf_det (by rfl) (by rfl) (fun w' hS hF => ?_)
                    have hc := Gr.cells hS
                    have hf := Gr.frees hS
                    go_simp
                    first
                    | exact Below.refl _ _
                    | (refine ⟨?_, Below.refl _ _⟩; with_reducible rfl)
                  · refine sf_det (by rfl) (by rfl) (fun w' hS hF => ?_)
                    have hc := Gr.cells hS
                    have hf := Gr.frees hS
                    go_simp
                    first
                    | exact Below.refl _ _
                    | (refine ⟨?_, Below.refl _ _⟩; with_reducible rfl)
                  · refine sf_det (by rfl) (by rfl) (fun w' hS hF => ?_)
                    have hc := Gr.cells hS
                    have hf := Gr.frees hS
                    go_simp
                    first
                    | exact Below.refl _ _
                    | (refine ⟨?_, Below.refl _ _⟩; with_reducible rfl)
                  · refine sf_det (by rfl) (by rfl) (fun w' hS hF => ?_)
                    have hc := Gr.cells hS
                    have hf := Gr.frees hS
                    go_simp
                    first
                    | exact Below.refl _ _
                    | (refine ⟨?_, Below.refl _ _⟩; with_reducible rfl)
                  · refine sf_det (by rfl) (by rfl) (fun w' hS hF => ?_)
                    have hc := Gr.cells hS
                    have hf := Gr.frees hS
                    go_simp
                    first
                    | exact Below.refl _ _
                    | (refine ⟨?_, Below.refl _ _⟩; with_reducible rfl)
                  · refine sf_det (by rfl) (by rfl) (fun w' hS hF => ?_)
                    have hc := Gr.cells hS
                    have hf := Gr.frees hS
                    go_simp
                    first
                    | exact Below.refl _ _
                    | (refine ⟨?_, Below.refl _ _⟩; with_reducible rfl)
                  · refine sf_free (by rfl) (by rfl) (fun w' hS hF => ?_)
                    go_simp
                    refine (C17.out _ hS).mono ?_
                    rintro e w'' ⟨oa', c', rfl, hcc, hB, hg⟩
                    exact ⟨_, rfl, ⟨oa', c', rfl, hB⟩, hg⟩
                  · refine sf_det (by rfl) (by rfl) (fun w' hS hF => ?_)
                    obtain ⟨oa', c', e, hB⟩ := hF.1
                    have cv := conv_b c' hB
                    rw [e]
                    go_simp
                    first
                    | exact Below.refl _ _
                    | (refine ⟨?_, Below.refl _ _⟩; with_reducible rfl)
                  · refine sf_det (by rfl) (by rfl) (fun w' hS hF => ?_)
                    have hc := Gr.cells hS
                    have hf := Gr.frees hS
                    go_simp
                    first
                    | exact Below.refl _ _
                    | (refine ⟨?_, Below.refl _ _⟩; with_reducible rfl)
                  · refine sf_det (by rfl) (by rfl) (fun w' hS hF => ?_)
                    have cv := HCV.out _ hS
                    go_simp
                    first
                    | exact Below.refl _ _
                    | (refine ⟨?_, Below.refl _ _⟩; with_reducible rfl)
                  · refine sf_det (by rfl) (by rfl) (fun w' hS hF => ?_)
                    have hc := Gr.cells hS
                    have hf := Gr.frees hS
                    go_simp
                    first
                    | exact Below.refl _ _
                    | (refine ⟨?_, Below.refl _ _⟩; with_reducible rfl)
                  · intro w9 hK
                    have hg : Gr wr w9 := hK.up
                    clear hK
                    simp only [List.drop_succ_cons, List.drop_zero]
                    by_cases hJ : R1 = b
                    · have q1 := HEQ.out.2 hJ
                      rw [q1]
                      have HJ := hid hJ
                      have H6 := HTF.out.gr hg
                      have hb6 := blk_gr HBX.out hg
                      have x0 := Rg.blk_cells hb6 0
                      have x1 := Rg.blk_cells hb6 1
                      have x2 := Rg.blk_cells hb6 2
                      have x3 := Rg.blk_cells hb6 3
                      have x4 := Rg.blk_cells hb6 4
                      have u0 := Rg.blk_cells H6.h 0
                      have u1 := Rg.blk_cells H6.h 1
                      have u2 := Rg.blk_cells H6.h 2
                      have u3 := Rg.blk_cells H6.h 3
                      have u4 := Rg.blk_cells H6.h 4
                      simp only [List.getElem?_toArray, List.getElem?_cons_zero, List.getElem?_cons_succ] at x0 x1 x2 x3 x4 u0 u1 u2 u3 u4
                      have y0 := Rg.blk_free hb6 0
                      have y1 := Rg.blk_free hb6 1
                      have y2 := Rg.blk_free hb6 2
                      have y3 := Rg.blk_free hb6 3
                      have y4 := Rg.blk_free hb6 4
                      have zr : r0 < w9.heap.size := lt_of_cell x0
                      have zq9 := H6.lt
                      have HB6 := hid hb6
                      have H66 := hid H6
                      have hz1 := H6.z
                      have hrq : r0 < q := by have := HRP.out; omega
                      have HRQ := hid hrq
                      clear hb6 H6 hz1 hJ q1 hg d0 d1 d2 d3 d4 e0 e1
                      go_wp2
                      have B5 := box_all HB6.out (.string nm) (.slice oc cs.length cc) (.slice ox xs.length cx) (.int .i64 hd) (.slice od rs.length cr)
                      have G5 : Go1 r0 w9 _ := ((((Go1.set r0 0 w9 (.string nm)).trans (Go1.set r0 1 _ (.slice oc cs.length cc))).trans (Go1.set r0 2 _ (.slice ox xs.length cx))).trans (Go1.set r0 3 _ (.int .i64 hd))).trans (Go1.set r0 4 _ (.slice od rs.length cr))
                      generalize (((((w9.setCell ⟨r0, 0, none⟩ (.string nm)).setCell ⟨r0, 1, none⟩ (.slice oc cs.length cc)).setCell ⟨r0, 2, none⟩ (.slice ox xs.length cx)).setCell ⟨r0, 3, none⟩ (.int .i64 hd)).setCell ⟨r0, 4, none⟩ (.slice od rs.length cr)) = W8 at B5 G5 ⊢
                      have k0 := Rg.blk_cells B5 0
                      have k1 := Rg.blk_cells B5 1
                      have k2 := Rg.blk_cells B5 2
                      have k3 := Rg.blk_cells B5 3
                      have k4 := Rg.blk_cells B5 4
                      simp only [List.getElem?_toArray, List.getElem?_cons_zero, List.getElem?_cons_succ] at k0 k1 k2 k3 k4
                      have FIN : QQ (.returned (.tuple #[.agg #[.string nm, .slice oc cs.length cc, .slice ox xs.length cx, .int .i64 hd, .slice od rs.length cr], .bool true])) W8 := by
                        rw [← HQQ.out]
                        refine ⟨some (mkT nm cs xs hd rs), ⟨_, _, HREF.out, .inl ⟨⟨rfl, ?_⟩, rfl⟩⟩, ?_⟩
                        · rw [HR1.out]; exact HJ.out
                        refine ⟨(HTP.out.trans H66.out.g).grown G5 (fun k e => by cases e; exact HR0.out), ⟨nm, oc, cs, cc, ox, xs, cx, hd, od, rs, cr⟩, ⟨at_go H66.out.c G5 (fun g o k e => ?_), at_go H66.out.x G5 (fun g o k e => ?_), at_go H66.out.r G5 (fun g o k e => ?_), by show cs.length ≤ _; omega, by show xs.length ≤ _; omega, by show rs.length ≤ _; omega⟩, rfl, rfl⟩
                        · have := H66.out.c1 g o k e
                          have := HRQ.out
                          omega
                        · have := H66.out.x1 g o k e
                          have := HRQ.out
                          omega
                        · have := H66.out.r1 g o k e
                          have := HRQ.out
                          omega
                      refine bodyPost_ret (by simp [results, Tryd.results15, go_sem, k0, k1, k2, k3, k4]; try rfl) rfl FIN
                    · have q1 : (!((strOfNums R1).toList == (strOfNums b).toList)) = true := by
                        cases h : (!((strOfNums R1).toList == (strOfNums b).toList)) with
                        | true => rfl
                        | false => exact absurd (HEQ.out.1 h) hJ
                      rw [q1]
                      have HNE : Hid (¬ ((([] : List V), false) = ((([] : List V), false) : Sq) ∧ R1 = b)) := hid (fun h => hJ h.2)
                      clear hJ q1 d0 d1 d2 d3 d4 e0 e1
                      have hb9 := blk_gr HBX.out hg
                      have x0 := Rg.blk_cells hb9 0
                      have x1 := Rg.blk_cells hb9 1
                      have x2 := Rg.blk_cells hb9 2
                      have x3 := Rg.blk_cells hb9 3
                      have x4 := Rg.blk_cells hb9 4
                      simp only [List.getElem?_toArray, List.getElem?_cons_zero, List.getElem?_cons_succ] at x0 x1 x2 x3 x4
                      have y0 := Rg.blk_free hb9 0
                      have y1 := Rg.blk_free hb9 1
                      have y2 := Rg.blk_free hb9 2
                      have y3 := Rg.blk_free hb9 3
                      have y4 := Rg.blk_free hb9 4
                      have zr : r0 < w9.heap.size := lt_of_cell x0
                      have HB9 := hid hb9
                      have HG9 := hid (Go1.of (p := r0) hg)
                      clear hb9 hg
                      go_wp2
                      have B5 := box_all HB9.out (.string ⟨#[]⟩) (.slice none 0 0) (.slice none 0 0) (.int .i64 0) (.slice none 0 0)
                      have G5 : Go1 r0 w9 _ := ((((Go1.set r0 0 w9 (.string ⟨#[]⟩)).trans (Go1.set r0 1 _ (.slice none 0 0))).trans (Go1.set r0 2 _ (.slice none 0 0))).trans (Go1.set r0 3 _ (.int .i64 0))).trans (Go1.set r0 4 _ (.slice none 0 0))
                      generalize (((((w9.setCell ⟨r0, 0, none⟩ (.string ⟨#[]⟩)).setCell ⟨r0, 1, none⟩ (.slice none 0 0)).setCell ⟨r0, 2, none⟩ (.slice none 0 0)).setCell ⟨r0, 3, none⟩ (.int .i64 0)).setCell ⟨r0, 4, none⟩ (.slice none 0 0)) = W8 at B5 G5 ⊢
                      have k0 := Rg.blk_cells B5 0
                      have k1 := Rg.blk_cells B5 1
                      have k2 := Rg.blk_cells B5 2
                      have k3 := Rg.blk_cells B5 3
                      have k4 := Rg.blk_cells B5 4
                      simp only [List.getElem?_toArray, List.getElem?_cons_zero, List.getElem?_cons_succ] at k0 k1 k2 k3 k4
                      refine bodyPost_ret (by simp [results, Tryd.results15, go_sem, k0, k1, k2, k3, k4]; try rfl) rfl (HEM.out _ (HG9.out.trans G5) HNE.out)
                · have HNE : Hid (¬ (((ql, false) : Sq) = ([], false) ∧ joinV (schL (mkT nm cs xs hd rs)) = b)) := hid (fun h => hq0 (by have h1 := h.1; cases h1; rfl))
                  have hpos := List.length_pos_iff.2 hq0
                  obtain ⟨nq, hnq⟩ : ∃ n, ql.length = n := ⟨_, rfl⟩
                  rw [hnq] at e0 hpos
                  have g2 : (0 : Int) < (nq : Int) := by omega
                  have g3 : decide ((0 : Int) < (nq : Int)) = true := by rw [decide_eq_true_iff]; exact g2
                  have g4 : decide (0 < nq) = true := by rw [decide_eq_true_iff]; exact hpos
                  clear HTX HREF PH hq0 hnq
                  go_upto_region 27 with (fail)
                  refine Rg.region_text 19 (Below.drew (Below.refl _ _)) (by kernel_rfl) (by kernel_rfl) (fun _ _ d _ _ h => by cases d <;> exact h) ?_
                  simp only [List.append_eq, List.cons_append, List.nil_append, List.take_succ_cons, List.take_zero, List.drop_succ_cons, List.drop_zero]
                  repeat (first
                      | (refine Rg.wpDets_skip (by rfl) ?_; simp only [Act.put, List.setIfInBounds_toArray, List.set_cons_zero, List.set_cons_succ])
                      | (refine Rg.wpDets_step ?_ (by rfl) (fun w hS => ?_) ?_
                         rotate_left
                         · have hc := Gr.cells hS
                           have hf := Gr.frees hS
                           go_simp
                           first
                           | (refine ⟨?_, Below.refl _ _⟩; with_reducible rfl)
                         simp only [Act.put, List.setIfInBounds_toArray, List.set_cons_zero, List.set_cons_succ]))
                  refine Rg.wpDets_nil ?_
                  refine Rg.wpFlts_nil ?_
                  refine Rg.wpLays_nil ?_
                  intro w9 hK
                  have hg : Gr _ w9 := hK.up
                  have hc := Gr.cells hg
                  have hf := Gr.frees hg
                  have hz := Gr.size hg
                  try simp only [World.size_alloc, World.size_setCell, World.size_drew] at hz
                  try have : 0 < w9.heap.size := by omega
                  try have : w.heap.size < w9.heap.size := by omega
                  try have : w.heap.size + 1 < w9.heap.size := by omega
                  try have : w.heap.size + 1 + 1 < w9.heap.size := by omega
                  try have : w.heap.size + 1 + 1 + 1 < w9.heap.size := by omega
                  try have : w1.heap.size < w9.heap.size := by omega
                  try have : w1.heap.size + 1 < w9.heap.size := by omega
                  try have : w2.heap.size < w9.heap.size := by omega
                  try have : w2.heap.size + 1 < w9.heap.size := by omega
                  try have : w3.heap.size < w9.heap.size := by omega
                  try have : w3.heap.size + 1 < w9.heap.size := by omega
                  try have : w4.heap.size < w9.heap.size := by omega
                  try have : w4.heap.size + 1 < w9.heap.size := by omega
                  try have : w5.heap.size < w9.heap.size := by omega
                  try have : w5.heap.size + 1 < w9.heap.size := by omega
                  try have : w6.heap.size < w9.heap.size := by omega
                  try have : w6.heap.size + 1 < w9.heap.size := by omega
                  try have : w7.heap.size < w9.heap.size := by omega
                  try have : w7.heap.size + 1 < w9.heap.size := by omega
                  try have : w8.heap.size < w9.heap.size := by omega
                  try have : w8.heap.size + 1 < w9.heap.size := by omega
                  have hb9 := blk_gr HBX.out hg
                  have x0 := Rg.blk_cells hb9 0
                  have x1 := Rg.blk_cells hb9 1
                  have x2 := Rg.blk_cells hb9 2
                  have x3 := Rg.blk_cells hb9 3
                  have x4 := Rg.blk_cells hb9 4
                  simp only [List.getElem?_toArray, List.getElem?_cons_zero, List.getElem?_cons_succ] at x0 x1 x2 x3 x4
                  have y0 := Rg.blk_free hb9 0
                  have y1 := Rg.blk_free hb9 1
                  have y2 := Rg.blk_free hb9 2
                  have y3 := Rg.blk_free hb9 3
                  have y4 := Rg.blk_free hb9 4
                  have zr : r0 < w9.heap.size := lt_of_cell x0
                  have HB9 := hid hb9
                  have HG9 := hid (Go1.of (p := r0) hg)
                  clear hb9 hg
                  go_wp2
                  have B5 := box_all HB9.out (.string ⟨#[]⟩) (.slice none 0 0) (.slice none 0 0) (.int .i64 0) (.slice none 0 0)
                  have G5 : Go1 r0 w9 _ := ((((Go1.set r0 0 w9 (.string ⟨#[]⟩)).trans (Go1.set r0 1 _ (.slice none 0 0))).trans (Go1.set r0 2 _ (.slice none 0 0))).trans (Go1.set r0 3 _ (.int .i64 0))).trans (Go1.set r0 4 _ (.slice none 0 0))
                  generalize (((((w9.setCell ⟨r0, 0, none⟩ (.string ⟨#[]⟩)).setCell ⟨r0, 1, none⟩ (.slice none 0 0)).setCell ⟨r0, 2, none⟩ (.slice none 0 0)).setCell ⟨r0, 3, none⟩ (.int .i64 0)).setCell ⟨r0, 4, none⟩ (.slice none 0 0)) = W8 at B5 G5 ⊢
                  have k0 := Rg.blk_cells B5 0
                  have k1 := Rg.blk_cells B5 1
                  have k2 := Rg.blk_cells B5 2
                  have k3 := Rg.blk_cells B5 3
                  have k4 := Rg.blk_cells B5 4
                  simp only [List.getElem?_toArray, List.getElem?_cons_zero, List.getElem?_cons_succ] at k0 k1 k2 k3 k4
                  refine bodyPost_ret (by simp [results, Tryd.results15, go_sem, k0, k1, k2, k3, k4]; try rfl) rfl (HEM.out _ (HG9.out.trans G5) HNE.out)
end Go.Proofs.YtacbhkmkknicoaaDoor

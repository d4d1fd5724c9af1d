/- redo: the walk of RedoCounts. -/
import Derived.Test.YtmanokhadppeeaaH2
import Derived.Test.YtmanokhadppeeaaCn
import Derived.Test.YtmanokhadppeeaaSp
import Derived.Test.YtmanokhadppeeaaW4
namespace Go.Proofs.Ytmanokhadppeeaa
open Go.RowKit
set_option linter.unusedSimpArgs false
set_option linter.unusedVariables false
attribute [local go_sem] Rg.leads_value Rg.leads_skip Rg.leads_enter Rg.brings_value Rg.brings_skip Rg.brings_enter Rg.bringsG_value Rg.bringsG_enter
theorem mod_in (y : Int) (n : Nat) (h : 0 < n) : ∃ K : Nat, K < n ∧ (y.tmod (n : Int) + (n : Int)) % (n : Int) = (K : Int) := by
  have h4 := Int.emod_nonneg (y.tmod n + n) (show (n : Int) ≠ 0 by omega)
  have h5 := Int.emod_lt_of_pos (y.tmod n + n) (show (0 : Int) < n by omega)
  exact ⟨((y.tmod n + n) % n).toNat, by omega, by omega⟩
theorem and_c (x : Int) : ∃ C : Nat, C ≤ 65535 ∧ bits .and .i64 x 65535 = (C : Int) := by
  have h : (BitVec.ofInt 64 x &&& BitVec.ofInt 64 65535).toNat = (BitVec.ofInt 64 x).toNat % 65536 := by
    rw [BitVec.toNat_and]
    exact Nat.and_two_pow_sub_one_eq_mod _ 16
  refine ⟨(BitVec.ofInt 64 x).toNat % 65536, by omega, ?_⟩
  show IntKind.i64.wrap ((BitVec.ofInt 64 x &&& BitVec.ofInt 64 65535).toNat : Int) = _
  rw [h]
  have h4 : (BitVec.ofInt 64 x).toNat % 65536 < 65536 := Nat.mod_lt _ (by omega)
  generalize (BitVec.ofInt 64 x).toNat % 65536 = m at h4 ⊢
  rw [IntKind.wrap_i64]; omega
/-- the checkpoint's line -/
structure CkOk (wx : World) (C : Nat) (c : Ln) : Prop where
  kind : c.kind = 7
  ts : c.ts = []
  bs : c.bs = []
  es : c.es = []
  ds : c.ds = [⟨9, 2⟩]
  cnt : c.cnt = (C : Int)
  od : ∃ g, c.od = some ⟨g, 0, none⟩ ∧ Ty 36 wx g ∧ DAt wx c.od c.ds
theorem CkOk.gr {w w' : World} {C : Nat} {c : Ln} (h : CkOk w C c) (hg : Gr w w') : CkOk w' C c := by
  obtain ⟨g, e, ht, hd⟩ := h.od
  exact ⟨h.kind, h.ts, h.bs, h.es, h.ds, h.cnt, g, e, ht.gr hg, hd.keep hg⟩
theorem CkOk.gz {w w' : World} {C : Nat} {c : Ln} {v : Value} {base e n m : Nat} {xs : List Value} (h : CkOk w C c) (hg : Gz v w w') (ho : w.ownsRow base e n v m xs) (he : 36 ≠ e) : CkOk w' C c := by
  obtain ⟨g, e1, ht, hd⟩ := h.od
  have hne := ht.ne ho he
  refine ⟨h.kind, h.ts, h.bs, h.es, h.ds, h.cnt, g, e1, ht.gz hg hne, ?_⟩
  rcases hd with h1 | ⟨b, off, e2, hb, hr⟩
  · exact .inl h1
  · rw [e1] at e2
    cases e2
    exact .inr ⟨g, 0, e1, Nat.lt_of_lt_of_le hb hg.size, fun k hk j u hu => hg.cell (hr k hk j u hu) (fun g' hv e => hne (by rw [hv, e]))⟩
/-- the log with the checkpoint's line, as far as it goes -/
def MB (base : Nat) (L : List Ln) (K C : Nat) (fl : Bool) (i : Nat) (v : Value) (wx : World) : Prop := ∃ M : List Ln, wx.ownsRow base 34 12 v M.length (cellsF nF M) ∧ M.length ≤ i + 1 ∧ (fl = false → M = L.take i) ∧ (fl = true → ∃ c, M = L.take K ++ c :: (L.take i).drop K ∧ CkOk wx C c)
theorem MB.gr {base : Nat} {L : List Ln} {K C : Nat} {fl : Bool} {i : Nat} {v : Value} {w w' : World} (h : MB base L K C fl i v w) (hg : Gr w w') : MB base L K C fl i v w' := by
  obtain ⟨M, h1, h2, h3, h4⟩ := h
  exact ⟨M, own_keep h1 hg, h2, h3, fun hf => by obtain ⟨c, e, hc⟩ := h4 hf; exact ⟨c, e, hc.gr hg⟩⟩
def C3a (w1 : World) (base : Nat) (L : List Ln) (K C : Nat) (s12 s13 s14 : Value) (wr : World) : Prop := ∃ i : Nat, s14 = .int .i64 (i : Int) ∧ i ≤ L.length ∧ Gr w1 wr ∧ s13 = .int .i64 ((C : Int) + (cmtC ((L.take i).drop K) : Int)) ∧ MB base L K C (decide (K < i)) i s12 wr
def C3b (w2 : World) (D : List Dy) (s18 s19 : Value) (wr : World) : Prop := ∃ i : Nat, s19 = .int .i64 (i : Int) ∧ i ≤ D.length ∧ Gr w2 wr ∧ s18 = .bool ((D.take i).any fun d => d.page == 9)
def C3c (w2 : World) (L : List Ln) (K : Nat) (p : Int) (s20 s21 : Value) (wr : World) : Prop := ∃ j : Nat, s21 = .int .i64 ((j : Int) - 1) ∧ K ≤ j ∧ j ≤ L.length ∧ Gr w2 wr ∧ s20 = .int .i64 (firstC (L.drop j) p)
set_option maxHeartbeats 4000000 in
set_option maxRecDepth 100000 in
theorem counts_walk (os : Option Addr) (cs : Nat) (steps : List Sp) (at' cn : Int) (w : World) (hl : steps.length ≤ 9223372036854775807) (hS : StAt w os steps) :
    Calls Try.prog 3 #[.slice os steps.length cs, .int .i64 at', .int .i64 cn] w (Yes w) := by
  have HIC := hid (hist_any os cs steps w hl hS)
  obtain ⟨R, hR⟩ : ∃ R, histF 0 h0 (steps.take 60) = R := ⟨_, rfl⟩
  have HH : Hid (HI R) := hid (by rw [← hR]; exact HI.fold _ _ _ HI.zero)
  rw [hR] at HIC
  obtain ⟨C, hC, hCe⟩ := and_c cn
  clear hS hR
  go_enter Try.func3, Try.ntmps3
  go_wp2_with fail
  refine HIC.out.mono ?_
  rintro e w1 ⟨v, zs, rfl, hlog, h60, hrow, hok, hg1⟩
  obtain ⟨o7, c7, rfl, hat7, hn7⟩ := own_at0 zE hrow
  have HLA : Hid (LAt w1 o7 (zs.map Az.ln)) := hid (by
    refine ⟨?_, fun x hx => ?_⟩
    · rcases hat7 with h1 | ⟨b, off, e1, hb, hrw⟩
      · exact .inl (by rw [h1]; rfl)
      · refine .inr ⟨b, off, e1, hb, fun k hk j u hu => ?_⟩
        have hk' : k < zs.length := by simpa using hk
        refine hrw k hk' j u ?_
        rw [List.getElem_map] at hu
        exact hu
    · obtain ⟨z, hz, rfl⟩ := List.mem_map.1 hx
      exact ⟨(hok z hz).1.1, (hok z hz).2.1, .inl rfl, .inl rfl⟩)
  have HLG : Hid (∀ x ∈ zs.map Az.ln, LnG x) := hid (fun x hx => by
    obtain ⟨z, hz, rfl⟩ := List.mem_map.1 hx
    have := HH.out.ok z.c (by rw [← hlog]; exact List.mem_map_of_mem hz)
    exact ⟨this.kind, this.txn, this.page, this.lsn⟩)
  have HLB : Hid (∀ x ∈ zs.map Az.ln, x.lsn ≤ 600) := hid (fun x hx => by
    obtain ⟨z, hz, rfl⟩ := List.mem_map.1 hx
    obtain ⟨q, hq, rfl⟩ := List.getElem_of_mem hz
    have e1 : zs.length = R.log.length := by rw [← hlog, List.length_map]
    have e2 : R.log[q]'(by omega) = zs[q].c := by simp [← hlog]
    have := HH.out.lsn q (by omega)
    rw [e2] at this
    show zs[q].c.lsn ≤ 600
    omega)
  have HLT : Hid (∀ x ∈ zs.map Az.ln, x.ts = [] ∧ x.ds = []) := hid (fun x hx => by
    obtain ⟨z, hz, rfl⟩ := List.mem_map.1 hx
    exact ⟨rfl, rfl⟩)
  have HG1 := hid hg1
  have eL : zs.length = (zs.map Az.ln).length := by simp
  rw [eL] at h60 ⊢
  clear hrow hok hlog hat7 hn7 HH HIC eL hg1
  generalize zs.map Az.ln = L at *
  clear zs R
  go_upto_region 3 with (fail)
  by_cases hz : L = []
  · subst hz
    have AN : Hid (Calls Try.prog 8 #[.slice o7 0 c7] w1 fun e w' => ∃ ot ct od cd, e = .returned (.tuple #[.slice ot 0 ct, .slice od 0 cd, .int .i64 0]) ∧ Gr w1 w') := hid (by
      refine (analyze_any o7 c7 [] w1 HLA.out (by simp) (by simp) (by simp [anR, an0]) (by simp [anR, an0])).mono ?_
      rintro e w' ⟨ot, ct, od, cd, rfl, _, _, hg⟩
      exact ⟨ot, ct, od, cd, rfl, hg⟩)
    simp only [List.length_nil]
    go_wp2_with fail
    refine AN.out.mono ?_
    rintro e w2 ⟨ot, ct, od, cd, rfl, hg2⟩
    go_wp2_with fail
    refine (awake_any _).mono ?_
    rintro e w3 ⟨rfl, hg3⟩
    go_wp2
    go_ret
    exact ⟨rfl, (HG1.out.trans hg2).trans hg3⟩
  · have hpos : 0 < L.length := List.length_pos_iff.2 hz
    have hne0 : ¬ L.length = 0 := by omega
    have gz : ((L.length : Int) == 0) = false := by rw [beq_eq_false_iff_ne]; omega
    have gz2 : ¬ (L.length : Int) = 0 := by omega
    obtain ⟨K, hKl, hKe⟩ := mod_in at' L.length hpos
    have hb : -(L.length : Int) < at'.tmod L.length ∧ at'.tmod L.length < L.length := ⟨Int.lt_tmod_of_pos at' (by omega), Int.tmod_lt_of_pos at' (by omega)⟩
    go_upto_region 6 with (fail)
    go_cut [11] from 51 to 60 (fun s11 wx => s11 = .int .i64 (K : Int) ∧ wx = w1)
    case first =>
      go_wp2
      go_meet
      exact ⟨by rw [hKe], rfl⟩
    case rest =>
      obtain ⟨rfl, hw⟩ := hcut
      subst hw
      rename World => wb
      have S0 : Hid (C3a wb wb.heap.size L K C (.slice none 0 0) (.int .i64 (C : Int)) (.int .i64 0) wb) := hid ⟨0, rfl, Nat.zero_le _, Gr.refl _, by simp [cmtC], [], World.ownsRow_nil _ _ _ _, by simp, fun _ => by simp, fun hf => by simp at hf⟩
      clear hCe
      clear hb
      clear hKe
      clear gz
      clear gz2
      go_wp2_with fail
      go_loopw [12, 13, 14] (fun s12 s13 s14 wr => C3a wb wb.heap.size L K C s12 s13 s14 wr) (fun _ _ s14 _ => L.length - (intOf s14).toNat)
      case atStart => exact S0.out
      case round =>
        clear S0
        obtain ⟨i, rfl, hi, hg, rfl, hM⟩ := hrel
        have HM := hid hM
        clear hM
        by_cases hlt : i < L.length
        · obtain ⟨b, off, rfl, c0, c1, c2, c3, c4, c5, c6, c7', c8, c9, c10, c11⟩ := n_get (HLA.out.keep hg) i hlt
          have hgx := HLG.out _ (List.getElem_mem hlt)
          have hlb := HLB.out _ (List.getElem_mem hlt)
          have hbw : b < wb.heap.size := by
            obtain ⟨b', off', e', d, -⟩ := n_get HLA.out i hlt
            cases e'
            exact lt_of_cell d
          have hbb := lt_of_cell c0
          have hT : Hid (L.take (i + 1) = L.take i ++ [L[i]]) := hid (take_snoc L i hlt)
          have hcm : Hid (cmtC ((L.take (i + 1)).drop K) = cmtC ((L.take i).drop K) + (if K ≤ i ∧ L[i].kind = 4 then 1 else 0)) := hid (by
            rw [hT.out]
            by_cases hK : K ≤ i
            · rw [List.drop_append_of_le_length (by rw [List.length_take]; omega)]
              unfold cmtC
              rw [List.filter_append, List.length_append]
              by_cases hk : L[i].kind = 4
              · simp [hk, hK]
              · have hk4 : (L[i].kind == 4) = false := by simpa using hk
                simp [hk, hk4]
            · rw [List.drop_eq_nil_of_le (by simp; omega), List.drop_eq_nil_of_le (by simp; omega), if_neg (fun h => hK h.1)]; rfl)
          have hcb : cmtC ((L.take i).drop K) ≤ 60 := by
            refine Nat.le_trans (List.length_filter_le _ _) ?_
            rw [List.length_drop, List.length_take]; omega
          generalize L[i] = x at *
          have g1 : decide ((L.length : Int) ≤ (i : Int)) = false := by rw [decide_eq_false_iff_not]; omega
          have g2 : (i : Int) < (L.length : Int) := by omega
          have g3 : (0 : Int) ≤ (i : Int) := by omega
          have hx0 := hgx.lsn
          obtain ⟨eb, heb⟩ : ∃ q, ((i : Int) == (K : Int)) = q := ⟨_, rfl⟩
          go_upto_if 70 with (fail)
          obtain ⟨i0, hi0, hz0, hz1, hz2⟩ := info_parts n_info
          have hwb := hg.size
          go_cut [12] from 71 to 84 (fun s12 wx => Hid (MB wb.heap.size L K C (decide (K ≤ i)) i s12 wx) ∧ Hid (Gr wr wx ∨ ∃ v, Gz v wr wx ∧ ∀ g, v.ownBlock = some g → wb.heap.size ≤ g) ∧ Hid (Gr wb wx))
          case first =>
            by_cases hik : i = K
            · have e1 : eb = true := by rw [← heb, hik]; simp
              subst e1
              obtain ⟨M, hM1, hM2, hM3, hM4⟩ := HM.out
              have hMt : M = L.take i := hM3 (by simp; omega)
              have hMl : M.length = i := by rw [hMt, List.length_take]; omega
              have HM1 := hid hM1
              have HMT := hid hMt
              have HIK := hid hik
              have hM60 : M.length ≤ 60 := by omega
              have HML := hid hMl
              clear heb hM1 hM2 hM3 hM4 hMt hcm hT HM hik hMl
              go_wp2_with (at_builtin; refine wpList_append_own _ rfl _ _ 23 rfl wb.heap.size 34 i0 _ 12 160 Try.underlying23 hi0 hz0 hz1 hz2 rfl (by decide) _ _ _ rfl ((HM1.out.alloc _).alloc _) ⟨wr.heap.size + 1, 0, none⟩ 1 1 (nF { lsn := x.lsn - 5, kind := 7, txn := 0, prev := 0, next := 0, page := 0, off := 0, ob := none, bs := [], cb := 0, oa := none, es := [], ca := 0, ot := none, ts := [], ct := 0, od := some ⟨wr.heap.size, 0, none⟩, ds := [⟨9, 2⟩], cd := 1, cnt := (C : Int) }) rfl rfl ?mc1 ?mc2 ?mc3 ?mc4 ?mc5 ?_)
              case mc1 =>
                intro q u hu
                first
                | (rw [addN, Nat.zero_add, show wr.heap.size + 1 = (wr.alloc (.cells #[.int .i64 9, .int .i64 2] 36)).heap.size by simp, Rg.blk_cells (heap_alloc_new _ _) q]; simpa [nF, rF] using hu)
                | simpa [nF, rF] using hu
              case mc2 => exact nE.one _
              case mc3 => unfold maxLen; omega
              case mc4 => omega
              case mc5 => first | omega | (simp; omega)
              intro v' w7 hown hg7 _
              have hik := HIK.out
              have hA : ((wr.alloc (.cells #[.int .i64 9, .int .i64 2] 36)).alloc (.cells (nF { lsn := x.lsn - 5, kind := 7, txn := 0, prev := 0, next := 0, page := 0, off := 0, ob := none, bs := [], cb := 0, oa := none, es := [], ca := 0, ot := none, ts := [], ct := 0, od := some ⟨wr.heap.size, 0, none⟩, ds := [⟨9, 2⟩], cd := 1, cnt := (C : Int) }).toArray 34)).grownBy w7 u12.ownBlock := hg7
              have ga : Gr wr (wr.alloc (.cells #[.int .i64 9, .int .i64 2] 36)) := (Gr.refl _).alloc _
              have ck : CkOk (wr.alloc (.cells #[.int .i64 9, .int .i64 2] 36)) C { lsn := x.lsn - 5, kind := 7, txn := 0, prev := 0, next := 0, page := 0, off := 0, ob := none, bs := [], cb := 0, oa := none, es := [], ca := 0, ot := none, ts := [], ct := 0, od := some ⟨wr.heap.size, 0, none⟩, ds := [⟨9, 2⟩], cd := 1, cnt := (C : Int) } := by
                refine ⟨rfl, rfl, rfl, rfl, rfl, rfl, wr.heap.size, rfl, Ty.new _ _ _, .inr ⟨wr.heap.size, 0, rfl, by simp, fun q hq j u hu => ?_⟩⟩
                obtain rfl : q = 0 := by simpa using hq
                have hj : j < 2 := by rw [← dE.len ⟨9, 2⟩]; exact (List.getElem?_eq_some_iff.1 hu).1
                rw [Nat.zero_mul, Nat.add_zero, Nat.zero_add, Rg.blk_cells (heap_alloc_new _ _) j]
                simpa [dF] using hu
              have gb := (Gr.refl (wr.alloc (.cells #[.int .i64 9, .int .i64 2] 36))).alloc (.cells (nF { lsn := x.lsn - 5, kind := 7, txn := 0, prev := 0, next := 0, page := 0, off := 0, ob := none, bs := [], cb := 0, oa := none, es := [], ca := 0, ot := none, ts := [], ct := 0, od := some ⟨wr.heap.size, 0, none⟩, ds := [⟨9, 2⟩], cd := 1, cnt := (C : Int) }).toArray 34)
              have ck2 := (ck.gr gb).gz (v := u12) hA ((HM1.out.alloc _).alloc _) (by decide)
              have HMB : Hid (MB wb.heap.size L K C (decide (K ≤ i)) i v' w7) := hid ⟨M ++ [{ lsn := x.lsn - 5, kind := 7, txn := 0, prev := 0, next := 0, page := 0, off := 0, ob := none, bs := [], cb := 0, oa := none, es := [], ca := 0, ot := none, ts := [], ct := 0, od := some ⟨wr.heap.size, 0, none⟩, ds := [⟨9, 2⟩], cd := 1, cnt := (C : Int) }], by rw [List.length_append, cellsF_snoc]; exact hown, by rw [List.length_append, HML.out]; simp, fun hf => by simp at hf; omega, fun _ => ⟨_, by rw [HMT.out, ← hik, List.drop_eq_nil_of_le (by rw [List.length_take]; omega)], ck2⟩⟩
              have HGZ : Hid (Gr wr w7 ∨ ∃ v, Gz v wr w7 ∧ ∀ g, v.ownBlock = some g → wb.heap.size ≤ g) := hid (.inr ⟨u12, Gz.trans (.of (ga.trans gb)) hg7, fun g hgg => (HM1.out.lt g hgg).1⟩)
              have HGU : Hid (Gr wb w7) := hid (Gz.up hg (Gz.trans (.of (ga.trans gb)) hg7) HM1.out)
              clear hown hg7 hA ga ck gb ck2 HM1 HMT hik HIK HML
              go_wp2
              go_meet
              exact ⟨HMB, HGZ, HGU⟩
            · have e1 : eb = false := by rw [← heb, beq_eq_false_iff_ne]; omega
              subst e1
              have e2 : decide (K < i) = decide (K ≤ i) := by
                by_cases h : K < i
                · rw [decide_eq_true h, decide_eq_true (by omega)]
                · rw [decide_eq_false h, decide_eq_false (by omega)]
              have HM2 : Hid (MB wb.heap.size L K C (decide (K ≤ i)) i u12 wr) := hid (by rw [← e2]; exact HM.out)
              have HG2 := hid hg
              clear heb e2 HM hcm hT
              go_wp2
              go_meet
              exact ⟨HM2, hid (.inl (Gr.refl _)), HG2⟩
          case rest =>
            obtain ⟨HM2, HGZ, HGU⟩ := hcut
            have keepc : ∀ {q : Nat} {u : Value}, wr.cell? ⟨b, q, none⟩ = some u → wc.cell? ⟨b, q, none⟩ = some u := fun hc => by
              rcases HGZ.out with h | ⟨v, h, hv⟩
              · exact h.keep hc
              · exact h.cell hc (fun g' hg' e => by have := hv g' hg'; omega)
            have c0 := keepc c0
            have c1 := keepc c1
            have c2 := keepc c2
            have c3 := keepc c3
            have c4 := keepc c4
            have c5 := keepc c5
            have c6 := keepc c6
            have c7' := keepc c7'
            have c8 := keepc c8
            have c9 := keepc c9
            have c10 := keepc c10
            have c11 := keepc c11
            have hbb := lt_of_cell c0
            obtain ⟨M, hM1, hM2, hM3, hM4⟩ := HM2.out
            have HM1 := hid hM1
            have HM3 := hid hM3
            have HM4 := hid hM4
            have hwb := HGU.out.size
            clear hM1 hM3 hM4 HM HM2 HGZ keepc heb hg
            go_wp2_with (at_builtin; refine wpList_append_own _ rfl _ _ 23 rfl wb.heap.size 34 i0 _ 12 160 Try.underlying23 hi0 hz0 hz1 hz2 rfl (by decide) _ _ _ rfl (HM1.out.alloc _) ⟨wc.heap.size, 0, none⟩ 1 1 (nF x) rfl rfl ?nd1 ?nd2 ?nd3 ?nd4 ?nd5 ?_)
            case nd1 =>
              intro q u hu
              first
              | (rw [addN, Nat.zero_add, Rg.blk_cells (heap_alloc_new _ _) q]; simpa [nF, rF] using hu)
              | simpa [nF, rF] using hu
            case nd2 => exact nE.one _
            case nd3 => unfold maxLen; omega
            case nd4 => omega
            case nd5 => first | omega | (simp; omega)
            intro v' w7 hown hg7 _
            have ga : Gr wc (wc.alloc (.cells (nF x).toArray 34)) := (Gr.refl _).alloc _
            have hA : (wc.alloc (.cells (nF x).toArray 34)).grownBy w7 u12.ownBlock := hg7
            have hkf : decide (K ≤ i) = decide (K < i + 1) := by
              by_cases h : K ≤ i
              · rw [decide_eq_true h, decide_eq_true (by omega)]
              · rw [decide_eq_false h, decide_eq_false (by omega)]
            have HMB : Hid (MB wb.heap.size L K C (decide (K < i + 1)) (i + 1) v' w7) := hid (by
              rw [← hkf]
              refine ⟨M ++ [x], by rw [List.length_append, cellsF_snoc]; exact hown, by rw [List.length_append]; simp; omega, fun hf => ?_, fun hf => ?_⟩
              · rw [HM3.out hf, hT.out]
              · obtain ⟨c, hc1, hc2⟩ := HM4.out hf
                have hKi : K ≤ i := by simpa using hf
                refine ⟨c, ?_, (hc2.gr ga).gz (v := u12) hA (HM1.out.alloc _) (by decide)⟩
                rw [hc1, hT.out, List.drop_append_of_le_length (by rw [List.length_take]; omega)]
                simp)
            have GU := Gz.up HGU.out (Gz.trans (.of ga) hg7) HM1.out
            have c1 : w7.cell? ⟨b, off + i * 12 + 1, none⟩ = some (.int .i64 x.kind) := by
              refine World.grownBy.cell hA (ga.keep c1) (fun e => ?_)
              have := (HM1.out.lt b e.symm).1
              omega
            have hbb := lt_of_cell c1
            have HGUU := hid GU
            clear hown hg7 hA ga hkf GU HM1 HM3 HM4 HGU c0 c2 c3 c4 c5 c6 c7' c8 c9 c10 c11 hT
            have hcm2 := hcm.out
            by_cases hKi : K ≤ i
            · have gk : decide ((K : Int) ≤ (i : Int)) = true := by rw [decide_eq_true_iff]; omega
              by_cases h4 : x.kind = 4
              · have g4 : (x.kind == 4) = true := by simpa using h4
                have FI : Hid (C3a wb wb.heap.size L K C v' (.int .i64 ((C : Int) + (cmtC ((L.take i).drop K) : Int) + 1)) (.int .i64 ((i : Int) + 1)) w7) := hid ⟨i + 1, by go_num, by omega, HGUU.out, by rw [hcm2, if_pos ⟨hKi, h4⟩]; congr 1, HMB.out⟩
                clear hcm hcm2 HMB HGUU h4
                go_wp2
                exact ⟨FI.out, by simp [intOf]; omega⟩
              · have g4 : (x.kind == 4) = false := by simpa using h4
                have FI : Hid (C3a wb wb.heap.size L K C v' (.int .i64 ((C : Int) + (cmtC ((L.take i).drop K) : Int))) (.int .i64 ((i : Int) + 1)) w7) := hid ⟨i + 1, by go_num, by omega, HGUU.out, by rw [hcm2, if_neg (fun h => h4 h.2)]; rfl, HMB.out⟩
                clear hcm hcm2 HMB HGUU h4
                go_wp2
                exact ⟨FI.out, by simp [intOf]; omega⟩
            · have gk : decide ((K : Int) ≤ (i : Int)) = false := by rw [decide_eq_false_iff_not]; omega
              have FI : Hid (C3a wb wb.heap.size L K C v' (.int .i64 ((C : Int) + (cmtC ((L.take i).drop K) : Int))) (.int .i64 ((i : Int) + 1)) w7) := hid ⟨i + 1, by go_num, by omega, HGUU.out, by rw [hcm2, if_neg (fun h => hKi h.1)]; rfl, HMB.out⟩
              clear hcm hcm2 HMB HGUU
              go_wp2
              exact ⟨FI.out, by simp [intOf]; omega⟩
        · obtain rfl : i = L.length := by omega
          have g1 : decide ((L.length : Int) ≤ (L.length : Int)) = true := by rw [decide_eq_true_iff]; omega
          have heL : L.take L.length = L := List.take_length
          obtain ⟨M, hM1, hM2, -, hM4⟩ := HM.out
          obtain ⟨c, hMe, hck⟩ := hM4 (by simp; exact hKl)
          rw [heL] at hMe
          obtain ⟨oM, cM, rfl, hatM, hnM⟩ := own_at0 nE hM1
          have hmem : ∀ x ∈ M, x ∈ L ∨ x = c := fun x hx => by
            rw [hMe] at hx
            rcases List.mem_append.1 hx with h | h
            · exact .inl (List.mem_of_mem_take h)
            · rcases List.mem_cons.1 h with h | h
              · exact .inr h
              · exact .inl (List.mem_of_mem_drop h)
          have HLM : LAt wr oM M := ⟨hatM, fun x hx => by
            rcases hmem x hx with h | h
            · exact (HLA.out.keep hg).ok x h
            · subst h
              obtain ⟨g, e, _, hd⟩ := hck.od
              exact ⟨by rw [hck.bs]; exact .inl rfl, by rw [hck.es]; exact .inl rfl, by rw [hck.ts]; exact .inl rfl, hd⟩⟩
          have hAI : AI (C : Int) (L.drop K) (anR M) := by
            rw [hMe, anR_check _ _ _ hck.kind, hck.ts, hck.ds, hck.cnt]
            have := AI.fold (cnt := (C : Int)) ⟨by omega, by omega⟩ (L.drop K) [] _ (AI.start _) (by simp) (fun x hx => HLG.out x (List.mem_of_mem_drop hx)) (by simp; omega)
            simpa using this
          have AN := analyze_any oM cM M wr HLM (by omega) (fun x hx => by
            rcases hmem x hx with h | h
            · rw [(HLT.out x h).1, (HLT.out x h).2]; exact ⟨Nat.zero_le _, Nat.zero_le _⟩
            · subst h; rw [hck.ts, hck.ds]; exact ⟨Nat.zero_le _, by simp⟩) (by have := hAI.tsl; omega) (by have := hAI.dsl; omega)
          rw [heL]
          have hn : (anR M).n = (C : Int) + (cmtC (L.drop K) : Int) := hAI.n
          have hdl := hAI.dsl
          have hsl : (sortF (fun x : Dy => x.page) (anR M).ds).length = (anR M).ds.length := sort_len _ _ _ _
          have hsp := sort_perm (fun x : Dy => x.page) (anR M).ds
          have HDD : Hid (∀ d ∈ sortF (fun x : Dy => x.page) (anR M).ds, d = ⟨9, 2⟩ ∨ (0 ≤ d.page ∧ d.page ≤ 3 ∧ firstC (L.drop K) d.page = d.lsn ∧ d.lsn ≠ 0)) := hid (fun d hd => hAI.dd d (hsp.mem_iff.1 hd))
          have HNI : Hid ((⟨9, 2⟩ : Dy) ∈ sortF (fun x : Dy => x.page) (anR M).ds) := hid (hsp.mem_iff.2 hAI.nine)
          rw [← hsl, hn] at AN
          rw [← hsl] at hdl
          generalize sortF (fun x : Dy => x.page) (anR M).ds = D at *
          generalize (anR M).ts.length = tl at *
          have HAN := hid AN
          have HGR := hid hg
          clear AN hn hsl hsp hAI HLM hmem hM1 hM2 hM4 hMe hck hatM hnM HM heL hg
          generalize (C : Int) + (cmtC (L.drop K) : Int) = CC at *
          generalize M.length = ml at *
          go_wp2_with fail
          refine HAN.out.mono ?_
          rintro e w2 ⟨ot, ct, od, cd, rfl, -, hD, hg2⟩
          have HDA := hid hD
          have HLA := hid (HLA.out.keep (HGR.out.trans hg2))
          have HG2 := hid ((HG1.out.trans HGR.out).trans hg2)
          have S0 : Hid (C3b w2 D (.bool false) (.int .i64 0) w2) := hid ⟨0, rfl, Nat.zero_le _, Gr.refl _, rfl⟩
          clear hD HAN HGR hg2 HG1
          go_wp2_with fail
          go_loopw [18, 19] (fun s18 s19 wr => C3b w2 D s18 s19 wr) (fun _ s19 _ => D.length - (intOf s19).toNat)
          case atStart => exact S0.out
          case round =>
            clear S0
            obtain ⟨i, rfl, hi, hg, rfl⟩ := hrel
            obtain ⟨nb, hnb⟩ : ∃ q, ((D.take i).any fun d => d.page == 9) = q := ⟨_, rfl⟩
            rw [hnb]
            have HNB := hid hnb
            clear hnb
            by_cases hlt : i < D.length
            · obtain ⟨b2, off2, rfl, d0, d1⟩ := d_get (HDA.out.keep hg) i hlt
              have hdd := HDD.out _ (List.getElem_mem hlt)
              have zd := lt_of_cell d0
              have hT : Hid (((D.take (i + 1)).any fun d => d.page == 9) = (nb || (D[i].page == 9))) := hid (by
                rw [take_snoc D i hlt, List.any_append, HNB.out]
                simp)
              generalize D[i] = d at *
              have g1 : decide ((D.length : Int) ≤ (i : Int)) = false := by rw [decide_eq_false_iff_not]; omega
              have g2 : (i : Int) < (D.length : Int) := by omega
              have g3 : (0 : Int) ≤ (i : Int) := by omega
              by_cases h9 : d.page = 9
              · have hd9 : d = ⟨9, 2⟩ := by
                  rcases hdd with h | h
                  · exact h
                  · omega
                subst hd9
                have FI : Hid (∀ W, Gr w2 W → C3b w2 D (.bool true) (.int .i64 ((i : Int) + 1)) W) := hid (fun W hW => ⟨i + 1, by go_num, by omega, hW, by rw [hT.out]; simp⟩)
                have HG := hid hg
                clear hT HNB hdd h9 hg
                go_wp2
                exact ⟨FI.out _ HG.out, by simp [intOf]; omega⟩
              · obtain ⟨hp0, hp3, hfl, hl0⟩ : 0 ≤ d.page ∧ d.page ≤ 3 ∧ firstC (L.drop K) d.page = d.lsn ∧ d.lsn ≠ 0 := by
                  rcases hdd with h | h
                  · rw [h] at h9; exact absurd rfl h9
                  · exact h
                have g9 : (d.page == 9) = false := by simpa using h9
                have FI : Hid (∀ W, Gr w2 W → C3b w2 D (.bool nb) (.int .i64 ((i : Int) + 1)) W) := hid (fun W hW => ⟨i + 1, by go_num, by omega, hW, by rw [hT.out, g9, Bool.or_false]⟩)
                have HFL := hid hfl
                have HG := hid hg
                rename World => wo
                have S0 : Hid (C3c wo L K d.page (.int .i64 0) (.int .i64 ((L.length : Int) - 1)) wo) := hid ⟨L.length, rfl, by omega, Nat.le_refl _, Gr.refl _, by rw [List.drop_length]; rfl⟩
                clear hT HNB hdd h9 hfl hg
                go_wp2_with fail
                go_loopw [20, 21] (fun s20 s21 wq => C3c wo L K d.page s20 s21 wq) (fun _ s21 _ => (intOf s21 + 1).toNat)
                case atStart => exact S0.out
                case round =>
                  clear S0
                  obtain ⟨j, rfl, hKj, hjl, hgj, rfl⟩ := hrel
                  have d0 := hgj.keep d0
                  have d1 := hgj.keep d1
                  have zd := lt_of_cell d0
                  by_cases hjK : j = K
                  · have gj : decide ((K : Int) ≤ (j : Int) - 1) = false := by rw [decide_eq_false_iff_not]; omega
                    have ef : firstC (L.drop j) d.page = d.lsn := by rw [hjK]; exact HFL.out
                    rw [ef]
                    have gl0 : (d.lsn == 0) = false := by simpa using hl0
                    have FX := hid (FI.out _ (HG.out.trans hgj))
                    clear FI ef HFL hjK
                    go_wp2
                    exact ⟨FX.out, by simp [intOf]; omega⟩
                  · obtain ⟨m, rfl⟩ : ∃ m, j = m + 1 := ⟨j - 1, by omega⟩
                    have hml : m < L.length := by omega
                    have em : (((m + 1 : Nat) : Int) - 1) = (m : Int) := by omega
                    rw [em]
                    obtain ⟨b, off, rfl, c0, c1, c2, c3, c4, c5, c6, c7', c8, c9, c10, c11⟩ := n_get (HLA.out.keep (HG.out.trans hgj)) m hml
                    have hbb := lt_of_cell c0
                    have hF : Hid (firstC (L.drop m) d.page = if mB d.page L[m] = true then L[m].lsn else firstC (L.drop (m + 1)) d.page) := hid (by rw [List.drop_eq_getElem_cons hml, firstC_cons])
                    generalize L[m] = x at *
                    have gj : decide ((K : Int) ≤ (m : Int)) = true := by rw [decide_eq_true_iff]; omega
                    have gj2 : K ≤ m := by omega
                    have i2 : (m : Int) < (L.length : Int) := by omega
                    have i3 : (0 : Int) ≤ (m : Int) := by omega
                    have i1 : decide ((L.length : Int) ≤ (m : Int)) = false := by rw [decide_eq_false_iff_not]; omega
                    obtain ⟨fo, hfo⟩ : ∃ q, firstC (L.drop (m + 1)) d.page = q := ⟨_, rfl⟩
                    rw [hfo] at hF ⊢
                    have FY : Hid (∀ W v, Gr wo W → v = (if mB d.page x = true then x.lsn else fo) → C3c wo L K d.page (.int .i64 v) (.int .i64 ((m : Int) - 1)) W) := hid (fun W v hW hv => ⟨m, rfl, by omega, by omega, hW, by rw [hF.out, hv]⟩)
                    clear hfo hF FI HFL em
                    go_upto_region 29 with (fail)
                    obtain ⟨W4, hW4⟩ : ∃ W4, W4 = wr.alloc (.cells #[.int .i64 x.kind, .int .i64 x.txn, .int .i64 x.prev, .int .i64 x.next, .int .i64 x.page, .int .i64 x.off, .slice x.ob x.bs.length x.cb, .slice x.oa x.es.length x.ca, .slice x.ot x.ts.length x.ct, .slice x.od x.ds.length x.cd, .int .i64 x.cnt] 32) := ⟨_, rfl⟩
                    have g4 : Gr wr W4 := by rw [hW4]; exact (Gr.refl _).alloc _
                    have v0 : W4.cell? ⟨wr.heap.size, 0, none⟩ = some (.int .i64 x.kind) := by rw [hW4, Rg.blk_cells (heap_alloc_new _ _) 0]; rfl
                    have v4 : W4.cell? ⟨wr.heap.size, 4, none⟩ = some (.int .i64 x.page) := by rw [hW4, Rg.blk_cells (heap_alloc_new _ _) 4]; rfl
                    rw [← hW4]
                    have c0 := g4.keep c0
                    have d0 := g4.keep d0
                    have hbb := lt_of_cell c0
                    have zd := lt_of_cell d0
                    have zv := lt_of_cell v0
                    have hgj0 := hgj.trans g4
                    clear hW4 g4 c1 c2 c3 c4 c5 c6 c7' c8 c9 c10 c11 d1
                    generalize wr.heap.size = uB at *
                    obtain ⟨pb, hpb⟩ : ∃ q, (x.page == d.page) = q := ⟨_, rfl⟩
                    by_cases k2 : x.kind = 2
                    · have q2 : (x.kind == 2) = true := by simpa using k2
                      have hmb : mB d.page x = pb := by unfold mB chB; rw [q2, hpb]; rfl
                      have HMB := hid hmb
                      clear k2 hmb
                      go_upto_region 29 with (fail)
                      refine Rg.region_text 17 (Below.drew (Below.refl _ _)) (by kernel_rfl) (by kernel_rfl) (fun _ _ d _ _ h => by cases d <;> exact h) ?_
                      simp only [List.append_eq, List.cons_append, List.nil_append, List.take_succ_cons, List.take_zero, List.drop_succ_cons, List.drop_zero]
                      repeat (first
                          | (refine Rg.wpDets_skip (by rfl) ?_; simp only [Act.put, List.setIfInBounds_toArray, List.set_cons_zero, List.set_cons_succ])
                          | (refine Rg.wpDets_step ?_ (by rfl) (fun w hS => ?_) ?_
                             rotate_left
                             · have hc := Gr.cells hS
                               have hf := Gr.frees hS
                               go_simp
                               first
                               | (refine ⟨?_, Below.refl _ _⟩; with_reducible rfl)
                             simp only [Act.put, List.setIfInBounds_toArray, List.set_cons_zero, List.set_cons_succ]))
                      refine Rg.wpDets_nil ?_
                      refine Rg.wpFlts_nil ?_
                      refine Rg.wpLays_nil ?_
                      intro w1 hK
                      have hg : Gr _ w1 := hK.up
                      have hc := Gr.cells hg
                      have hf := Gr.frees hg
                      have hz := Gr.size hg
                      try simp only [World.size_alloc, World.size_setCell, World.size_drew] at hz
                      try have : 0 < w1.heap.size := by omega
                      try have : w.heap.size < w1.heap.size := by omega
                      try have : w.heap.size + 1 < w1.heap.size := by omega
                      try have : w.heap.size + 1 + 1 < w1.heap.size := by omega
                      try have : w.heap.size + 1 + 1 + 1 < w1.heap.size := by omega
                      have c0 := hg.keep c0
                      have hbb := lt_of_cell c0
                      have HGJ := hid (hgj0.trans hg)
                      cases pb
                      · have FZ := hid (FY.out w1 fo HGJ.out (by rw [HMB.out]; rfl))
                        clear FY HMB
                        go_wp2
                        exact ⟨FZ.out, by simp [intOf]⟩
                      · have FZ := hid (FY.out w1 x.lsn HGJ.out (by rw [HMB.out]; rfl))
                        clear FY HMB
                        go_wp2
                        exact ⟨FZ.out, by simp [intOf]⟩
                    · have q2 : (x.kind == 2) = false := by simpa using k2
                      by_cases k3 : x.kind = 3
                      · have q3 : (x.kind == 3) = true := by simpa using k3
                        have hmb : mB d.page x = pb := by unfold mB chB; rw [q2, q3, hpb]; rfl
                        have HMB := hid hmb
                        clear k2 k3 hmb
                        go_upto_region 29 with (fail)
                        refine Rg.region_text 17 (Below.drew (Below.refl _ _)) (by kernel_rfl) (by kernel_rfl) (fun _ _ d _ _ h => by cases d <;> exact h) ?_
                        simp only [List.append_eq, List.cons_append, List.nil_append, List.take_succ_cons, List.take_zero, List.drop_succ_cons, List.drop_zero]
                        repeat (first
                            | (refine Rg.wpDets_skip (by rfl) ?_; simp only [Act.put, List.setIfInBounds_toArray, List.set_cons_zero, List.set_cons_succ])
                            | (refine Rg.wpDets_step ?_ (by rfl) (fun w hS => ?_) ?_
                               rotate_left
                               · have hc := Gr.cells hS
                                 have hf := Gr.frees hS
                                 go_simp
                                 first
                                 | (refine ⟨?_, Below.refl _ _⟩; with_reducible rfl)
                               simp only [Act.put, List.setIfInBounds_toArray, List.set_cons_zero, List.set_cons_succ]))
                        refine Rg.wpDets_nil ?_
                        refine Rg.wpFlts_nil ?_
                        refine Rg.wpLays_nil ?_
                        intro w1 hK
                        have hg : Gr _ w1 := hK.up
                        have hc := Gr.cells hg
                        have hf := Gr.frees hg
                        have hz := Gr.size hg
                        try simp only [World.size_alloc, World.size_setCell, World.size_drew] at hz
                        try have : 0 < w1.heap.size := by omega
                        try have : w.heap.size < w1.heap.size := by omega
                        try have : w.heap.size + 1 < w1.heap.size := by omega
                        try have : w.heap.size + 1 + 1 < w1.heap.size := by omega
                        try have : w.heap.size + 1 + 1 + 1 < w1.heap.size := by omega
                        have c0 := hg.keep c0
                        have hbb := lt_of_cell c0
                        have HGJ := hid (hgj0.trans hg)
                        cases pb
                        · have FZ := hid (FY.out w1 fo HGJ.out (by rw [HMB.out]; rfl))
                          clear FY HMB
                          go_wp2
                          exact ⟨FZ.out, by simp [intOf]⟩
                        · have FZ := hid (FY.out w1 x.lsn HGJ.out (by rw [HMB.out]; rfl))
                          clear FY HMB
                          go_wp2
                          exact ⟨FZ.out, by simp [intOf]⟩
                      · have q3 : (x.kind == 3) = false := by simpa using k3
                        have hmb : mB d.page x = false := by unfold mB chB; rw [q2, q3]; rfl
                        have HMB := hid hmb
                        clear k2 k3 hmb hpb pb
                        go_upto_region 29 with (fail)
                        refine Rg.region_text 17 (Below.drew (Below.refl _ _)) (by kernel_rfl) (by kernel_rfl) (fun _ _ d _ _ h => by cases d <;> exact h) ?_
                        simp only [List.append_eq, List.cons_append, List.nil_append, List.take_succ_cons, List.take_zero, List.drop_succ_cons, List.drop_zero]
                        repeat (first
                            | (refine Rg.wpDets_skip (by rfl) ?_; simp only [Act.put, List.setIfInBounds_toArray, List.set_cons_zero, List.set_cons_succ])
                            | (refine Rg.wpDets_step ?_ (by rfl) (fun w hS => ?_) ?_
                               rotate_left
                               · have hc := Gr.cells hS
                                 have hf := Gr.frees hS
                                 go_simp
                                 first
                                 | (refine ⟨?_, Below.refl _ _⟩; with_reducible rfl)
                               simp only [Act.put, List.setIfInBounds_toArray, List.set_cons_zero, List.set_cons_succ]))
                        refine Rg.wpDets_nil ?_
                        refine Rg.wpFlts_nil ?_
                        refine Rg.wpLays_nil ?_
                        intro w1 hK
                        have hg : Gr _ w1 := hK.up
                        have hc := Gr.cells hg
                        have hf := Gr.frees hg
                        have hz := Gr.size hg
                        try simp only [World.size_alloc, World.size_setCell, World.size_drew] at hz
                        try have : 0 < w1.heap.size := by omega
                        try have : w.heap.size < w1.heap.size := by omega
                        try have : w.heap.size + 1 < w1.heap.size := by omega
                        try have : w.heap.size + 1 + 1 < w1.heap.size := by omega
                        try have : w.heap.size + 1 + 1 + 1 < w1.heap.size := by omega
                        have HGJ := hid (hgj0.trans hg)
                        have FZ := hid (FY.out w1 fo HGJ.out (by rw [HMB.out]; rfl))
                        clear FY HMB
                        go_wp2
                        exact ⟨FZ.out, by simp [intOf]⟩
            · obtain rfl : i = D.length := by omega
              have hnt : nb = true := by
                rw [← HNB.out, List.take_length, List.any_eq_true]
                exact ⟨_, HNI.out, rfl⟩
              subst hnt
              have g1 : decide ((D.length : Int) ≤ (D.length : Int)) = true := by rw [decide_eq_true_iff]; omega
              have HG := hid (HG2.out.trans hg)
              go_wp2_with fail
              refine (awake_any _).mono ?_
              rintro e w6 ⟨rfl, hg6⟩
              go_wp2
              go_ret
              exact ⟨rfl, HG.out.trans hg6⟩
end Go.Proofs.Ytmanokhadppeeaa

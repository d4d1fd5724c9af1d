/- row: the reference's SameRows; the walk of RowLent. -/
import Derived.Test.YtacbhkmkknicoaaDoorSo8
import Derived.Test.YtacbhkmkknicoaaDoorAw
import Derived.Laws.AppendOwnNone
namespace Go.Proofs.YtacbhkmkknicoaaDoor
open Go.RowKit
set_option linter.unusedSimpArgs false
set_option linter.unusedVariables false
attribute [local go_sem] Rg.leads_value Rg.leads_skip Rg.leads_enter Rg.brings_value Rg.brings_skip Rg.brings_enter Rg.bringsG_value Rg.bringsG_enter Rg.still_value Rg.still_skip Rg.bringsS_value Rg.bringsS_skip Rg.bringsS_enter rwV
theorem veqB_refl (a : V) : veqB a a = true := by simp [veqB]
theorem sameB_refl : ∀ l : List V, sameB l l = true
  | [] => rfl
  | a :: r => by simp [sameB, veqB_refl, sameB_refl r]
theorem append_none' {P : Program} {w : World} {ops : Array Oper} {rest : List Oper} {o : Oper} {a : Act} {Q : Exit → Act → World → Prop} (hgd : o.guard = none) (s x : Operand) (t : TypeId)
    (ho : o.op = .call { callee := .builtin .append, args := #[s, x], argTypes := #[t, t] })
    (base : Nat) (e : TypeId) (i : TypeInfo) (size : Nat) (ht : P.underlying t = some (.slice e)) (hi : P.info? e = some i)
    (v : Value) (n : Nat) (xs : List Value) (hs : a.eval s = v) (hown : w.ownsRow base e size v n xs) (hx : a.eval x = .slice none 0 0)
    (h : ∀ v' w', Hid (v' = v) → Hid (w' = w) → wpList P ops Q rest (a.put o.dst v') w') : wpList P ops Q (o :: rest) a w :=
  wpList_append_own_none hgd s x t ho base e i size ht hi v n xs hs hown hx (h v w rfl rfl)
set_option maxHeartbeats 8000000 in
set_option maxRecDepth 100000 in
theorem samerows_any (oa : Option Addr) (ca : Nat) (a : List Rw) (ob : Option Addr) (cb : Nat) (b : List Rw) (w : World) (hl : a.length ≤ 1000000) (hp : RAt w oa a) (hq : RAt w ob b) (ha : ∀ r ∈ a, VAt w r.oa r.l ∧ r.l.length ≤ 9223372036854775807) (hb : ∀ r ∈ b, VAt w r.oa r.l ∧ r.l.length ≤ 9223372036854775807) (he : a.map (·.l) = b.map (·.l)) :
    Calls Tryd.prog 20 #[.slice oa a.length ca, .slice ob b.length cb] w fun e w' => e = .returned (.bool true) ∧ Gr w w' := by
  have hll : b.length = a.length := by
    have := congrArg List.length he
    simpa using this.symm
  have HP := hid hp
  have HQ := hid hq
  have HA := hid ha
  have HB := hid hb
  have HE := hid he
  obtain ⟨N, hN⟩ : ∃ N, a.length = N := ⟨_, rfl⟩
  rw [hll, hN]
  rw [hN] at hl hll
  have HLA := hid hN
  have HLB := hid hll
  clear hp hq ha hb he hN hll
  go_enter Tryd.func20, Tryd.ntmps20
  go_wp2_with fail
  go_loopw [5] (fun s5 wr => ∃ k : Nat, s5 = .int .i64 (k : Int) ∧ k ≤ N ∧ Gr w wr) (fun s5 _ => N - (intOf s5).toNat)
  case atStart => exact ⟨0, rfl, Nat.zero_le _, Gr.refl _⟩
  case round =>
    obtain ⟨k, rfl, hk, hg⟩ := hrel
    have HG := hid hg
    clear hg
    by_cases hlt : k < N
    · have hka : k < a.length := by rw [HLA.out]; exact hlt
      have hkb : k < b.length := by rw [HLB.out]; exact hlt
      obtain ⟨b1, off1, rfl, c0⟩ := r_get (HP.out.keep HG.out) k hka
      obtain ⟨b2, off2, rfl, c1⟩ := r_get (HQ.out.keep HG.out) k hkb
      have hx := HA.out _ (List.getElem_mem hka)
      have hy := HB.out _ (List.getElem_mem hkb)
      have hxy : a[k].l = b[k].l := by
        have h1 : (a.map (·.l))[k]? = (b.map (·.l))[k]? := by rw [HE.out]
        simpa [hka, hkb] using h1
      have g1 : decide ((k : Int) < (N : Int)) = true := by rw [decide_eq_true_iff]; omega
      have g1' : decide (k < N) = true := by rw [decide_eq_true_iff]; exact hlt
      have g2 : (k : Int) < (N : Int) := by omega
      have g3 : (0 : Int) ≤ (k : Int) := by omega
      have SM : ∀ W, Rg.Up wr W → Calls Tryd.prog 23 #[.slice a[k].oa a[k].l.length a[k].c, .slice b[k].oa b[k].l.length b[k].c] W fun e w' => e = .returned (.bool true) ∧ Gr W w' := fun W hW => by
        have := same_any a[k].oa a[k].c a[k].l b[k].oa b[k].c b[k].l W hx.2 hy.2 (hx.1.keep (Gr.trans HG.out hW)) (hy.1.keep (Gr.trans HG.out hW))
        rw [hxy, sameB_refl] at this
        rw [hxy]
        exact this
      generalize a[k] = x at *
      generalize b[k] = y at *
      have hb1 := lt_of_cell c0
      have hb2 := lt_of_cell c1
      clear hx hy hxy hka hkb
      go_upto_region 6 with (fail)
      refine Rg.region_text 9 (Below.drew (Below.refl _ _)) (by kernel_rfl) (by kernel_rfl) (fun _ _ d _ _ h => by cases d <;> exact h) ?_
      simp only [List.append_eq, List.cons_append, List.nil_append, List.take_succ_cons, List.take_zero, List.drop_succ_cons, List.drop_zero]
      repeat (first
          | (refine Rg.wpDets_skip (by rfl) ?_; simp only [Act.put, List.setIfInBounds_toArray, List.set_cons_zero, List.set_cons_succ])
          | (refine Rg.wpDets_step ?_ (by rfl) (fun w hS => ?_) ?_
             rotate_left
             · have hc := Gr.cells hS
               have hf := Gr.frees hS
               go_simp
               first
               | (refine ⟨?_, Below.refl _ _⟩; with_reducible rfl)
               | ((with_reducible refine (SM _ hS).mono ?_); rintro e w' ⟨rfl, hg⟩; refine ⟨?_, hg⟩; with_reducible rfl)
             simp only [Act.put, List.setIfInBounds_toArray, List.set_cons_zero, List.set_cons_succ]))
      refine Rg.wpDets_nil ?_
      refine Rg.wpFlts_nil ?_
      refine Rg.wpLays_nil ?_
      intro w9 hK
      have hg : Gr _ w9 := hK.up
      have hc := Gr.cells hg
      have hf := Gr.frees hg
      have hz := Gr.size hg
      try simp only [World.size_alloc, World.size_setCell, World.size_drew] at hz
      try have : 0 < w9.heap.size := by omega
      try have : w.heap.size < w9.heap.size := by omega
      try have : w.heap.size + 1 < w9.heap.size := by omega
      try have : w.heap.size + 1 + 1 < w9.heap.size := by omega
      try have : w.heap.size + 1 + 1 + 1 < w9.heap.size := by omega
      try have : w1.heap.size < w9.heap.size := by omega
      try have : w1.heap.size + 1 < w9.heap.size := by omega
      try have : w2.heap.size < w9.heap.size := by omega
      try have : w2.heap.size + 1 < w9.heap.size := by omega
      try have : w3.heap.size < w9.heap.size := by omega
      try have : w3.heap.size + 1 < w9.heap.size := by omega
      try have : w4.heap.size < w9.heap.size := by omega
      try have : w4.heap.size + 1 < w9.heap.size := by omega
      try have : w5.heap.size < w9.heap.size := by omega
      try have : w5.heap.size + 1 < w9.heap.size := by omega
      try have : w6.heap.size < w9.heap.size := by omega
      try have : w6.heap.size + 1 < w9.heap.size := by omega
      try have : w7.heap.size < w9.heap.size := by omega
      try have : w7.heap.size + 1 < w9.heap.size := by omega
      try have : w8.heap.size < w9.heap.size := by omega
      try have : w8.heap.size + 1 < w9.heap.size := by omega
      have FI : Hid (∃ k' : Nat, (Value.int .i64 ((k : Int) + 1)) = .int .i64 (k' : Int) ∧ k' ≤ N ∧ Gr w w9) := hid ⟨k + 1, by go_num, by omega, HG.out.trans hg⟩
      clear SM hg HG c0 c1
      go_wp2
      exact ⟨FI.out, by simp [intOf]; omega⟩
    · have g1 : decide ((k : Int) < (N : Int)) = false := by rw [decide_eq_false_iff_not]; omega
      have g1' : decide (k < N) = false := by rw [decide_eq_false_iff_not]; exact hlt
      go_wp2
      first | exact ⟨rfl, HG.out⟩ | (go_ret; exact ⟨rfl, HG.out⟩)
theorem Rm.set {base : Nat} {w : World} {r : Rw} (h : Rm base w r) (b k : Nat) (v : Value) : Rm base (w.setCell ⟨b, k, none⟩ v) r := by
  rcases h with h0 | ⟨b', off, cur, e, hb, hh, hc⟩
  · exact .inl h0
  · by_cases hbb : b' = b
    · subst hbb
      exact .inr ⟨b', off, cur.setIfInBounds k v, e, hb, by simp [World.setCell, Array.getElem?_modify, hh], by simpa using hc⟩
    · exact .inr ⟨b', off, cur, e, hb, by rw [Below.heap_setCell _ _ _ b' hbb]; exact hh, hc⟩
theorem Rm.gr {base : Nat} {w w' : World} {r : Rw} (h : Rm base w r) (hg : Gr w w') : Rm base w' r := by
  rcases h with h0 | ⟨b', off, cur, e, hb, hh, hc⟩
  · exact .inl h0
  · exact .inr ⟨b', off, cur, e, hb, by rw [hg.block b' (Array.getElem?_eq_some_iff.1 hh).1]; exact hh, hc⟩
/-- what stands while the rows told are overwritten -/
structure Wt (ws : World) (g n : Nat) (d : List Rw) (i : Nat) (w : World) : Prop where
  gr : Gr ws w
  rm : ∀ r ∈ d, Rm ws.heap.size w r
  hg : ws.heap.size ≤ g
  hd : ∃ cur, w.heap[g]? = some (.cells cur 35 (0, 0)) ∧ n ≤ cur.size
  c : ∀ k, i ≤ k → k < n → w.cell? ⟨g, k, none⟩ = some (rwV (gx d k))
theorem Wt.keep {ws w w' : World} {g n i : Nat} {d : List Rw} (h : Wt ws g n d i w) (hg : Gr w w') : Wt ws g n d i w' := by
  obtain ⟨cur, hh, hc⟩ := h.hd
  exact ⟨h.gr.trans hg, fun r hr => (h.rm r hr).gr hg, h.hg, ⟨cur, by rw [hg.block g (Array.getElem?_eq_some_iff.1 hh).1]; exact hh, hc⟩, fun k h1 h2 => hg.keep (h.c k h1 h2)⟩
/-- a cell of a row is overwritten -/
theorem Wt.row {ws w : World} {g n i b : Nat} {d : List Rw} {cur0 : Array Value} (h : Wt ws g n d i w) (hb : ws.heap.size ≤ b) (hh : w.heap[b]? = some (.cells cur0 32 (0, 0))) (k : Nat) (v : Value) :
    Wt ws g n d i (w.setCell ⟨b, k, none⟩ v) ∧ (w.setCell ⟨b, k, none⟩ v).heap[b]? = some (.cells (cur0.setIfInBounds k v) 32 (0, 0)) := by
  obtain ⟨cur, hg, hc⟩ := h.hd
  have hne : g ≠ b := fun e => by subst e; rw [hh] at hg; simp at hg
  refine ⟨⟨h.gr.setCell hb v, fun r hr => (h.rm r hr).set b k v, h.hg, ⟨cur, by rw [Below.heap_setCell _ _ _ g hne]; exact hg, hc⟩, fun k' h1 h2 => ?_⟩, by simp [World.setCell, Array.getElem?_modify, hh]⟩
  rw [World.cell?_of_block (w := w) (Below.heap_setCell _ _ _ g hne)]
  exact h.c k' h1 h2
/-- a row is struck -/
theorem Wt.strike {ws w : World} {g n i : Nat} {d : List Rw} (h : Wt ws g n d i w) (v : Value) : Wt ws g n d (i + 1) (w.setCell ⟨g, i, none⟩ v) := by
  obtain ⟨cur, hg, hc⟩ := h.hd
  refine ⟨h.gr.setCell h.hg v, fun r hr => (h.rm r hr).set g i v, h.hg, ⟨cur.setIfInBounds i v, by simp [World.setCell, Array.getElem?_modify, hg], by simpa using hc⟩, fun k h1 h2 => ?_⟩
  have := h.c k (by omega) h2
  rw [Rg.blk_cells hg k] at this
  have hh2 : (w.setCell ⟨g, i, none⟩ v).heap[g]? = some (.cells (cur.setIfInBounds i v) 35 (0, 0)) := by simp [World.setCell, Array.getElem?_modify, hg]
  rw [Rg.blk_cells hh2 k]
  rw [Array.getElem?_setIfInBounds_ne (by omega)]
  exact this
theorem gx_mem (d : List Rw) (i : Nat) (h : i < d.length) : gx d i ∈ d := get_mem! d i h
set_option maxHeartbeats 8000000 in
set_option maxRecDepth 100000 in
theorem lent_walk (oa : Option Addr) (c : Nat) (l : List Rw) (m : Int) (w : World) (hl : l.length ≤ 9223372036854775807) (hp : RAt w oa l) (hr : ∀ r ∈ l, RwI w r) (hm : w.cell? ⟨0, 0, none⟩ = some (.int .i64 m)) :
    Calls Tryd.prog 6 #[.slice oa l.length c] w fun e w' => e = .returned (.bool true) ∧ Gr w w' := by
  have AW := hid (fun W (hW : Gr w W) => awake_any m W (hW.keep hm))
  have HP := hid hp
  have HR := hid hr
  clear hp hr hm
  by_cases h40 : 40 < l.length
  · have g1 : decide ((40 : Int) < (l.length : Int)) = true := by rw [decide_eq_true_iff]; omega
    have g2 : decide (40 < l.length) = true := by rw [decide_eq_true_iff]; exact h40
    clear HP HR
    generalize l.length = N at *
    go_enter Tryd.func6, Tryd.ntmps6
    go_wp2_with fail
    refine (AW.out _ (Gr.refl _)).mono ?_
    rintro e w1 ⟨rfl, hg⟩
    have HG := hid hg
    clear hg AW
    go_wp2
    go_ret
    exact ⟨rfl, HG.out⟩
  · have g1 : decide ((40 : Int) < (l.length : Int)) = false := by rw [decide_eq_false_iff_not]; omega
    have g2 : decide (40 < l.length) = false := by rw [decide_eq_false_iff_not]; exact h40
    have hl4 : l.length ≤ 40 := by omega
    have SRT := hid (fun W (hW : Gr w W) => sort_any oa c l W hl4 (HP.out.keep hW) (fun r hr => ⟨(HR.out r hr).1.keep hW, (HR.out r hr).2⟩))
    clear h40 hl
    obtain ⟨N, hN⟩ : ∃ N, l.length = N := ⟨_, rfl⟩
    rw [hN] at hl4 g1 g2 SRT ⊢
    have HN := hid hN
    clear hN
    go_enter Tryd.func6, Tryd.ntmps6
    go_wp2_with fail
    go_loopw [4, 3] (fun s4 s3 wr => ∃ (k : Nat) (d : List Rw), s4 = .int .i64 (k : Int) ∧ k ≤ N ∧ d.map (·.l) = (l.take k).map (·.l) ∧ wr.ownsRow w.heap.size 35 1 s3 d.length (cellsF rF d) ∧ (∀ r ∈ d, RwN w.heap.size wr r) ∧ Gr w wr) (fun s4 _ _ => N - (intOf s4).toNat)
    case atStart => exact ⟨0, [], rfl, Nat.zero_le _, rfl, World.ownsRow_nil _ _ _ _, fun r hr => by simp at hr, Gr.refl _⟩
    case round =>
      obtain ⟨k, d, rfl, hk, hmap, hown, hrw, hg⟩ := hrel
      have hdl : d.length = k := by
        have h1 := congrArg List.length hmap
        have h2 := HN.out
        simp at h1
        omega
      have HM := hid hmap
      have HO := hid hown
      have HRW := hid hrw
      have HG := hid hg
      clear hmap hown hrw hg
      by_cases hlt : k < N
      · have hkl : k < l.length := by rw [HN.out]; exact hlt
        obtain ⟨b, off, rfl, c0⟩ := r_get (HP.out.keep HG.out) k hkl
        have hbb := lt_of_cell c0
        have hri := HR.out _ (List.getElem_mem hkl)
        have HK : Hid ((l.take (k + 1)).map (·.l) = (l.take k).map (·.l) ++ [l[k].l]) := hid (by rw [List.take_add_one, List.getElem?_eq_getElem hkl, List.map_append]; rfl)
        have q1 : decide ((k : Int) < (N : Int)) = true := by rw [decide_eq_true_iff]; omega
        have q1' : decide (k < N) = true := by rw [decide_eq_true_iff]; exact hlt
        have q2 : (k : Int) < (N : Int) := by omega
        have q3 : (0 : Int) ≤ (k : Int) := by omega
        have HXA : Hid (VAt wr l[k].oa l[k].l) := hid (hri.1.keep HG.out)
        have hxl := hri.2.1
        have hxc := hri.2.2.2
        generalize l[k] = x at *
        obtain ⟨xo, xl, xc⟩ := x
        simp only at c0 HXA hxl hxc HK
        obtain ⟨i1, hi1, hy0, hy1, hy2⟩ := info_parts v_info
        obtain ⟨i0, hi0, hz0, hz1, hz2⟩ := info_parts r_info
        clear hri hkl
        -- what is left once the copy stands
        have hz : w.heap.size ≤ wr.heap.size := HG.out.size
        have REST : Hid (∀ (v : Value) (w1 : World), Gr wr w1 → w1.ownsRow wr.heap.size 32 4 v xl.length (cellsF vF xl) → ∃ r : Rw, v = rwV r ∧ ∀ (v' : Value) (w3 : World), w3.ownsRow w.heap.size 35 1 v' (k + 1) (cellsF rF d ++ rF r) → (w1.alloc (.cells (rF r).toArray 35)).grownBy w3 (Value.ownBlock u3) → ∃ (k' : Nat) (d' : List Rw), (Value.int .i64 ((k : Int) + 1)) = .int .i64 (k' : Int) ∧ k' ≤ N ∧ d'.map (·.l) = (l.take k').map (·.l) ∧ w3.ownsRow w.heap.size 35 1 v' d'.length (cellsF rF d') ∧ (∀ r ∈ d', RwN w.heap.size w3 r) ∧ Gr w w3) := hid (fun v w1 hg1 hv => by
          obtain ⟨r, rfl, hrl, hrn, _⟩ := own_rwn hv hxl
          refine ⟨r, rfl, fun v' w3 hown3 hq8 => ?_⟩
          have HO1 := own_keep HO.out hg1
          have ga : Gr w1 (w1.alloc (.cells (rF r).toArray 35)) := (Gr.refl _).alloc _
          have oz := oth_gz hq8 (HO1.alloc (.cells (rF r).toArray 35))
          refine ⟨k + 1, d ++ [r], by go_num, by omega, ?_, ?_, ?_, ?_⟩
          · rw [List.map_append, HM.out, HK.out, ← hrl]; rfl
          · rw [List.length_append, cellsF_snoc, hdl]; exact hown3
          · intro x hx
            rcases List.mem_append.1 hx with hx | hx
            · exact ((HRW.out x hx).oth (oth_gr (hg1.trans ga))).oth oz
            · rw [List.mem_singleton.1 hx]
              exact ((hrn.mono HG.out.size).oth (oth_gr ga)).oth oz
          · exact Gz.up ((HG.out.trans hg1).trans ga) hq8 (HO1.alloc _))
        have HO2 := hid (fun (w1 : World) (hg1 : Gr wr w1) => own_keep HO.out hg1)
        have HZZ := hid hz
        clear HO HM HRW HK
        cases xo with
        | none =>
          have h0 : xl = [] := by
            rcases HXA.out with h | ⟨b', off', h, _⟩
            · exact h
            · cases h
          have hc0 : xc = 0 := hxc rfl
          subst h0 hc0
          simp only [List.length_nil] at c0 REST
          clear HXA hxc hxl
          go_wp2_with (at_builtin; refine append_none' rfl _ _ 35 rfl wr.heap.size 32 i1 4 Tryd.underlying35 hi1 _ _ _ rfl (World.ownsRow_lit wr #[] 0 (Nat.le_refl _) (by decide) rfl) rfl ?_)
          intro v w1 hv hw
          obtain ⟨r, hr1, hr2⟩ := REST.out v w1 (by rw [hw.out]; exact (Gr.refl _).alloc _) (by rw [hv.out, hw.out]; exact World.ownsRow_lit wr #[] 0 (Nat.le_refl _) (by decide) rfl)
          have hg1 : Gr wr w1 := by rw [hw.out]; exact (Gr.refl _).alloc _
          subst hr1
          have HO1 := hid (HO2.out w1 hg1)
          have HR2 := hid hr2
          have hz1' : w.heap.size ≤ w1.heap.size := Nat.le_trans hz hg1.size
          clear REST hr2 hv hw hg1 c0 hbb HO2
          (try unfold rwV)
          go_wp2_with (at_builtin; refine wpList_append_own _ rfl _ _ 48 rfl w.heap.size 35 i0 (.slice none 0 0) 1 24 Tryd.underlying48 hi0 hz0 hz1 hz2 rfl (by decide) _ _ _ rfl (HO1.out.alloc _) ⟨w1.heap.size, 0, none⟩ 1 1 (rF r) rfl rfl ?ma1 ?ma2 ?ma3 ?ma4 ?ma5 ?_)
          case ma1 =>
            intro q u hu
            rw [addN, Nat.zero_add, Rg.blk_cells (heap_alloc_new _ _) q]
            simpa [rF, rwV] using hu
          case ma2 => exact rE.one _
          case ma3 => unfold maxLen; omega
          case ma4 => omega
          case ma5 => first | omega | (simp; omega)
          intro v' w3 hown3 hq8 _
          have FI := hid (HR2.out v' w3 hown3 hq8)
          clear hown3 hq8 HO1 HR2
          go_wp2
          exact ⟨FI.out, by simp [intOf]; omega⟩
        | some ad =>
          have hcc : ∀ W, Gr wr W → ∀ j u, (cellsF vF xl)[j]? = some u → W.cell? (ad.add j) = some u := by
            intro W hW
            rcases HXA.out.keep hW with h | ⟨b', off', h, hb', hr'⟩
            · subst h; intro j u hu; simp [cellsF] at hu
            · cases h; exact hr'.cells vE
          have HCC := hid hcc
          clear hcc HXA hxc
          go_wp2_with (at_builtin; refine wpList_append_own _ rfl _ _ 35 rfl wr.heap.size 32 i1 (.agg #[.int .i64 0, .int .i64 0, .string ⟨#[]⟩, .bool false]) 4 40 Tryd.underlying35 hi1 hy0 hy1 hy2 rfl (by decide) _ _ _ rfl (World.ownsRow_lit wr #[] 0 (Nat.le_refl _) (by decide) rfl) ad xl.length xc (cellsF vF xl) rfl (vE.cells_len xl) ?c1 ?c2 ?c3 ?c4 ?c5 ?_)
          case c1 => exact HCC.out _ ((Gr.refl wr).alloc _)
          case c2 => exact vE.cells_one xl
          case c3 => unfold maxLen; omega
          case c4 => omega
          all_goals try (case c5 => simp)
          intro v w1 hown2 hg2 _
          have hown2 : w1.ownsRow wr.heap.size 32 4 v xl.length (cellsF vF xl) := by simpa using hown2
          have hg1 : Gr wr w1 := ((Gr.refl wr).alloc _).grown hg2 (fun b hb => by simp [Value.ownBlock] at hb; omega)
          obtain ⟨r, hr1, hr2⟩ := REST.out v w1 hg1 hown2
          subst hr1
          have HO1 := hid (HO2.out w1 hg1)
          have HR2 := hid hr2
          have hz1' : w.heap.size ≤ w1.heap.size := Nat.le_trans hz hg1.size
          clear REST hr2 hg1 c0 hbb HO2 hown2 hg2 HCC
          (try unfold rwV)
          go_wp2_with (at_builtin; refine wpList_append_own _ rfl _ _ 48 rfl w.heap.size 35 i0 (.slice none 0 0) 1 24 Tryd.underlying48 hi0 hz0 hz1 hz2 rfl (by decide) _ _ _ rfl (HO1.out.alloc _) ⟨w1.heap.size, 0, none⟩ 1 1 (rF r) rfl rfl ?ma1 ?ma2 ?ma3 ?ma4 ?ma5 ?_)
          case ma1 =>
            intro q u hu
            rw [addN, Nat.zero_add, Rg.blk_cells (heap_alloc_new _ _) q]
            simpa [rF, rwV] using hu
          case ma2 => exact rE.one _
          case ma3 => unfold maxLen; omega
          case ma4 => omega
          case ma5 => first | omega | (simp; omega)
          intro v' w3 hown3 hq8 _
          have FI := hid (HR2.out v' w3 hown3 hq8)
          clear hown3 hq8 HO1 HR2
          go_wp2
          exact ⟨FI.out, by simp [intOf]; omega⟩
      · have hkN : k = N := by omega
        subst hkN
        have q1 : decide ((k : Int) < (k : Int)) = false := by rw [decide_eq_false_iff_not]; omega
        have hM2 : d.map (·.l) = l.map (·.l) := by
          have h1 := HM.out
          rw [show l.take k = l by rw [← HN.out]; exact List.take_length] at h1
          exact h1
        obtain ⟨ob, cb, rfl, hat, _, _⟩ := own_at rE HO.out
        have SR : Hid (∀ W, Gr wr W → Calls Tryd.prog 20 #[.slice oa k c, .slice ob k cb] W fun e w' => e = .returned (.bool true) ∧ Gr W w') := hid (fun W hW => by
          have h1 := samerows_any oa c l ob cb d W (by rw [HN.out]; omega) (HP.out.keep (HG.out.trans hW)) (hat.keep hW) (fun r hr => ⟨(HR.out r hr).1.keep (HG.out.trans hW), by have := (HR.out r hr).2.1; omega⟩) (fun r hr => ⟨(HRW.out r hr).1.keep hW, (HRW.out r hr).2.1⟩) hM2.symm
          rw [HN.out, hdl] at h1
          exact h1)
        have S2 := hid (SRT.out wr HG.out)
        rw [hdl]
        clear hat hM2 HM HO HRW SRT HP HR hdl hlt
        go_wp2_with fail
        refine S2.out.mono ?_
        rintro e w2 ⟨oa', d0, rfl, hmp, hg2, hrn, hcase⟩
        have hd0 : d0.length = k := by
          have h1 := congrArg List.length hmp
          have h2 := HN.out
          simp at h1
          omega
        clear S2
        obtain ⟨ws, rfl⟩ : ∃ ws, ws = wr := ⟨_, rfl⟩
        rcases hcase with h0 | ⟨g, cur, rfl, hgb, hcur, hcz, hcell⟩
        · subst h0
          have hk0 : k = 0 := by simpa using hd0.symm
          subst hk0
          simp only [List.length_nil]
          have HGF := hid hg2
          clear hmp hrn hd0 hg2
          go_wp2_with fail
          refine wp_loop_rounds 1 ?_
          rw [rounds_succ]
          go_wp2_with fail
          refine (SR.out _ HGF.out).mono ?_
          rintro e w7 ⟨rfl, hg7⟩
          have HG7 := hid (HGF.out.trans hg7)
          clear hg7
          go_wp2_with fail
          refine (AW.out _ (HG.out.trans HG7.out)).mono ?_
          rintro e w8 ⟨rfl, hg8⟩
          have HG8 := hid ((HG.out.trans HG7.out).trans hg8)
          clear hg8
          go_wp2
          go_ret
          exact ⟨rfl, HG8.out⟩
        · have hlS : (stF d0).length = k := by rw [(stF_perm d0 (by omega)).length_eq]; exact hd0
          have hWt : Wt ws g k (stF d0) 0 w2 := ⟨hg2, fun r hr => (hrn r hr).2.2.2, hgb, ⟨cur, hcur, by rw [← hd0]; exact hcz⟩, fun j _ hj => hcell j (by rw [hd0]; exact hj)⟩
          have HWT := hid hWt
          have HLN : Hid (∀ r ∈ stF d0, r.l.length ≤ 9223372036854775807) := hid (fun r hr => (hrn r hr).2.1)
          generalize stF d0 = D at *
          rw [hd0]
          have HLS := hid hlS
          clear hmp hrn hcell hcur hcz hgb hWt hd0 hlS hg2
          go_wp2_with fail
          go_loopw [6] (fun s6 wq => ∃ i : Nat, s6 = .int .i64 (i : Int) ∧ i ≤ k ∧ Wt ws g k D i wq) (fun s6 _ => k - (intOf s6).toNat)
          case atStart => exact ⟨0, rfl, Nat.zero_le _, HWT.out⟩
          case round =>
            clear HWT
            obtain ⟨i, rfl, hi, hw⟩ := hrel
            have HW := hid hw
            clear hw
            by_cases hik : i < k
            · have p1 : decide ((i : Int) < (k : Int)) = true := by rw [decide_eq_true_iff]; omega
              have p2 : decide (i < k) = true := by rw [decide_eq_true_iff]; exact hik
              have p3 : (i : Int) < (k : Int) := by omega
              have p4 : (0 : Int) ≤ (i : Int) := by omega
              have HMEM : Hid (gx D i ∈ D) := hid (gx_mem D i (by rw [HLS.out]; exact hik))
              obtain ⟨X, hX⟩ : ∃ X, gx D i = X := ⟨_, rfl⟩
              have HXE := hid hX
              rw [hX] at HMEM
              obtain ⟨xo, xl, xc⟩ := X
              have CI : Hid (∀ W, Wt ws g k D i W → W.cell? ⟨g, i, none⟩ = some (.slice xo xl.length xc) ∧ W.frozen? ⟨g, i, none⟩ = false ∧ g < W.heap.size) := hid (fun W h => by
                have h1 := h.c i (Nat.le_refl _) hik
                rw [HXE.out] at h1
                obtain ⟨cur, h2, _⟩ := h.hd
                exact ⟨h1, Rg.blk_free h2 _, (Array.getElem?_eq_some_iff.1 h2).1⟩)
              have CR : Hid (∀ W, Wt ws g k D i W → Rm ws.heap.size W ⟨xo, xl, xc⟩) := hid (fun W h => h.rm _ HMEM.out)
              clear hX
              go_wp2_with fail
              go_loopw [7] (fun s7 wz => ∃ j : Nat, s7 = .int .i64 (j : Int) ∧ j ≤ xl.length ∧ Wt ws g k D i wz) (fun s7 _ => xl.length - (intOf s7).toNat)
              case atStart => exact ⟨0, rfl, Nat.zero_le _, HW.out⟩
              case round =>
                clear HW
                obtain ⟨j, rfl, hj, hw⟩ := hrel
                obtain ⟨c0, f0, z0⟩ := CI.out _ hw
                have HW := hid hw
                clear hw
                obtain ⟨L, hL⟩ : ∃ L, xl.length = L := ⟨_, rfl⟩
                have HL := hid hL
                have hLB : xl.length ≤ 9223372036854775807 := HLN.out _ HMEM.out
                rw [hL] at hj c0 hLB ⊢
                have CI2 : Hid (∀ W, Wt ws g k D i W → W.cell? ⟨g, i, none⟩ = some (.slice xo L xc) ∧ W.frozen? ⟨g, i, none⟩ = false ∧ g < W.heap.size) := hid (fun W h => by rw [← HL.out]; exact CI.out W h)
                clear hL
                by_cases hjl : j < L
                · have r1 : decide ((j : Int) < (L : Int)) = true := by rw [decide_eq_true_iff]; omega
                  have r2 : decide (j < L) = true := by rw [decide_eq_true_iff]; exact hjl
                  have r3 : (j : Int) < (L : Int) := by omega
                  have r4 : (0 : Int) ≤ (j : Int) := by omega
                  have hrm := CR.out _ HW.out
                  rcases hrm with h0 | ⟨b, off, cur0, hxo, hb, hh, hcz⟩
                  · exfalso
                    have h1 := HL.out
                    simp only at h0
                    rw [h0] at h1
                    simp at h1
                    omega
                  · simp only at hxo
                    subst hxo
                    have HBB : Hid (∀ W, Wt ws g k D i W → ∃ cur, W.heap[b]? = some (.cells cur 32 (0, 0)) ∧ off + L * 4 ≤ cur.size) := hid (fun W h => by
                      rcases CR.out W h with h0 | ⟨b', off', cur', e, _, hh', hc'⟩
                      · exfalso
                        have h1 := HL.out
                        simp only at h0
                        rw [h0] at h1
                        simp at h1
                        omega
                      · cases e
                        refine ⟨cur', hh', ?_⟩
                        rw [← HL.out]
                        exact hc')
                    have HB := hid hb
                    clear hh hcz hb CI CR
                    go_upto_region 15 with (fail)
                    refine Rg.region_chain 7 [5] [] (fun s _ W => Wt ws g k D i W) [some (.slice (some ⟨g, 0, none⟩) k k), some (.int .i64 (i : Int)), some (.pointer (some ⟨g, i, none⟩)), some (.slice (some ⟨b, off, none⟩) L xc), some (.int .i64 (j : Int)), some (.agg #[.int .i64 1, .int .i64 99, .string ⟨#[]⟩, .bool false]), some (.pointer (some ⟨b, off + j * 4, none⟩))]
                      (fun v => HW.out.keep ((Gr.refl _).drew)) (by kernel_rfl) (by kernel_rfl) (by kernel_rfl) (by kernel_rfl) (fun _ _ d _ _ h => by cases d <;> exact h) ?_
                    intro OPS _ v
                    simp only [List.take_succ_cons, List.take_zero, Rg.wpC, Option.getD_some, Option.getD_none, Act.put, List.setIfInBounds_toArray, List.set_cons_zero, List.set_cons_succ, show List.contains [5] 0 = false from rfl, show List.contains [5] 1 = false from rfl, show List.contains [5] 2 = false from rfl, show List.contains [5] 3 = false from rfl, show List.contains [5] 4 = false from rfl, show List.contains [5] 5 = true from rfl, show List.contains [5] 6 = false from rfl, Bool.false_eq_true, if_false, if_true, Nat.reduceAdd]
                    refine ⟨?_, ?_, ?_, ?_, ?_, ?_, ?_, ?_⟩
                    · refine sc_still (by rfl) (by rfl) (fun s W _ hS => ?_)
                      go_simp
                    · refine sc_still (by rfl) (by rfl) (fun s W _ hS => ?_)
                      go_simp
                    · refine sc_still (by rfl) (by rfl) (fun s W _ hS => ?_)
                      obtain ⟨c1, f1, z1⟩ := CI2.out _ hS
                      go_simp
                    · refine sc_still (by rfl) (by rfl) (fun s W _ hS => ?_)
                      obtain ⟨c1, f1, z1⟩ := CI2.out _ hS
                      go_simp
                    · refine sc_still (by rfl) (by rfl) (fun s W _ hS => ?_)
                      go_simp
                    · refine sc_call (by rfl) (by rfl) (fun W hS => ?_)
                      go_simp
                      refine (int_any 99 W).mono ?_
                      rintro e w' ⟨rfl, hg⟩
                      exact ⟨_, rfl, rfl, hS.keep hg⟩
                    · refine sc_still (by rfl) (by rfl) (fun s W _ hS => ?_)
                      go_simp
                    · intro W hS
                      simp only [List.drop_succ_cons, List.drop_zero]
                      obtain ⟨cur, hh, hcz⟩ := HBB.out W hS
                      obtain ⟨o, ho⟩ : ∃ o, off + j * 4 = o := ⟨_, rfl⟩
                      rw [ho]
                      have hoz : o + 3 < cur.size := by omega
                      have u0 : ∃ u, W.cell? ⟨b, o, none⟩ = some u := ⟨cur[o]'(by omega), by rw [Rg.blk_cells hh o, Array.getElem?_eq_getElem (by omega)]⟩
                      have u1 : ∃ u, W.cell? ⟨b, o + 1, none⟩ = some u := ⟨cur[o + 1]'(by omega), by rw [Rg.blk_cells hh (o + 1), Array.getElem?_eq_getElem (by omega)]⟩
                      have u2 : ∃ u, W.cell? ⟨b, o + 2, none⟩ = some u := ⟨cur[o + 2]'(by omega), by rw [Rg.blk_cells hh (o + 2), Array.getElem?_eq_getElem (by omega)]⟩
                      have u3' : ∃ u, W.cell? ⟨b, o + 3, none⟩ = some u := ⟨cur[o + 3]'(by omega), by rw [Rg.blk_cells hh (o + 3), Array.getElem?_eq_getElem (by omega)]⟩
                      obtain ⟨y0, u0⟩ := u0
                      obtain ⟨y1, u1⟩ := u1
                      obtain ⟨y2, u2⟩ := u2
                      obtain ⟨y3, u3'⟩ := u3'
                      have f0 := Rg.blk_free hh o
                      have f1 := Rg.blk_free hh (o + 1)
                      have f2 := Rg.blk_free hh (o + 2)
                      have f3 := Rg.blk_free hh (o + 3)
                      have zb : b < W.heap.size := (Array.getElem?_eq_some_iff.1 hh).1
                      obtain ⟨m1, n1⟩ := hS.row HB.out hh o (.int .i64 1)
                      obtain ⟨m2, n2⟩ := m1.row HB.out n1 (o + 1) (.int .i64 99)
                      obtain ⟨m3, n3⟩ := m2.row HB.out n2 (o + 2) (.string ⟨#[]⟩)
                      obtain ⟨m4, n4⟩ := m3.row HB.out n3 (o + 3) (.bool false)
                      have FI : Hid (∃ j' : Nat, (Value.int .i64 ((j : Int) + 1)) = .int .i64 (j' : Int) ∧ j' ≤ L ∧ Wt ws g k D i ((((W.setCell ⟨b, o, none⟩ (.int .i64 1)).setCell ⟨b, o + 1, none⟩ (.int .i64 99)).setCell ⟨b, o + 2, none⟩ (.string ⟨#[]⟩)).setCell ⟨b, o + 3, none⟩ (.bool false))) := hid ⟨j + 1, by go_num, by omega, m4⟩
                      have hlx := HL.out
                      have hLj : j < L ∧ L ≤ 1000000000000000 ∨ True := .inr trivial
                      clear m1 m2 m3 m4 n1 n2 n3 n4 hS hh hcz ho hLj
                      clear hlx
                      go_wp2
                      exact ⟨FI.out, by simp [intOf]; omega⟩
                · have r1 : decide ((j : Int) < (L : Int)) = false := by rw [decide_eq_false_iff_not]; omega
                  have r2 : decide (j < L) = false := by rw [decide_eq_false_iff_not]; exact hjl
                  have FI : Hid (∃ i' : Nat, (Value.int .i64 ((i : Int) + 1)) = .int .i64 (i' : Int) ∧ i' ≤ k ∧ Wt ws g k D i' (wr.setCell ⟨g, i, none⟩ (.slice none 0 0))) := hid ⟨i + 1, by go_num, by omega, HW.out.strike _⟩
                  clear HW CI CR
                  go_wp2
                  exact ⟨FI.out, by simp [intOf]; omega⟩
            · have p1 : decide ((i : Int) < (k : Int)) = false := by rw [decide_eq_false_iff_not]; omega
              have p2 : decide (i < k) = false := by rw [decide_eq_false_iff_not]; exact hik
              have HGF := hid HW.out.gr
              clear HW
              go_wp2_with fail
              refine (SR.out _ HGF.out).mono ?_
              rintro e w7 ⟨rfl, hg7⟩
              have HG7 := hid (HGF.out.trans hg7)
              clear hg7
              go_wp2_with fail
              refine (AW.out _ (HG.out.trans HG7.out)).mono ?_
              rintro e w8 ⟨rfl, hg8⟩
              have HG8 := hid ((HG.out.trans HG7.out).trans hg8)
              clear hg8
              go_wp2
              go_ret
              exact ⟨rfl, HG8.out⟩
end Go.Proofs.YtacbhkmkknicoaaDoor

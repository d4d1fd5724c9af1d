/- row: copies of rows; row.Sort. -/
import Derived.Test.YtacbhkmkknicoaaDoorSo6
import Derived.Lib.SliceRun
namespace Go.Proofs.YtacbhkmkknicoaaDoor
open Go.RowKit
set_option linter.unusedSimpArgs false
set_option linter.unusedVariables false
attribute [local go_sem] Rg.leads_value Rg.leads_skip Rg.leads_enter Rg.brings_value Rg.brings_skip Rg.brings_enter Rg.bringsG_value Rg.bringsG_enter rwV
theorem r_info : (Tryd.prog.info? 35).map (fun i => (i.zero, i.size, i.bytes)) = some (some (.slice none 0 0), 1, 24) := by kernel_rfl
/-- a row in a block of its own, at or behind base -/
def Rm (base : Nat) (w : World) (r : Rw) : Prop := r.l = [] ∨ ∃ b off cur, r.oa = some ⟨b, off, none⟩ ∧ base ≤ b ∧ w.heap[b]? = some (.cells cur 32 (0, 0)) ∧ off + r.l.length * 4 ≤ cur.size
/-- a row that is read, in new memory -/
def RwN (base : Nat) (w : World) (r : Rw) : Prop := VAt w r.oa r.l ∧ r.l.length ≤ 9223372036854775807 ∧ r.l.length ≤ r.c ∧ Rm base w r
/-- blocks of other types stand -/
def Oth (T : TypeId) (w w' : World) : Prop := w.heap.size ≤ w'.heap.size ∧ ∀ (b : Nat) (cur : Array Value) (T' : TypeId), w.heap[b]? = some (Obj.cells cur T' (0, 0)) → T' ≠ T → w'.heap[b]? = some (Obj.cells cur T' (0, 0))
theorem RwN.oth {base : Nat} {w w' : World} {r : Rw} (h : RwN base w r) (hg : Oth 35 w w') : RwN base w' r := by
  obtain ⟨h1, h2, h3, h4⟩ := h
  rcases h4 with h0 | ⟨b, off, cur, e, hb, hh, hc⟩
  · exact ⟨.inl h0, h2, h3, .inl h0⟩
  · have hk := hg.2 b cur 32 hh (by decide)
    refine ⟨?_, h2, h3, .inr ⟨b, off, cur, e, hb, hk, hc⟩⟩
    rcases h1 with h0 | ⟨b', off', e', hb', hr⟩
    · exact .inl h0
    · have e2 := e.symm.trans e'
      cases e2
      refine .inr ⟨b, off, e', (Array.getElem?_eq_some_iff.1 hk).1, fun i hi j u hu => ?_⟩
      rw [World.cell?_of_block (w := w) (hk.trans hh.symm)]
      exact hr i hi j u hu
theorem oth_gr {w w' : World} {T : TypeId} (h : Gr w w') : Oth T w w' := ⟨h.size, fun b cur T' hb _ => by rw [h.block b (Array.getElem?_eq_some_iff.1 hb).1]; exact hb⟩
theorem oth_gz {w w' : World} {v : Value} {base n m : Nat} {xs : List Value} (h : Gz v w w') (ho : w.ownsRow base 35 n v m xs) : Oth 35 w w' := by
  refine ⟨h.size, fun b cur T' hb hT => ?_⟩
  rw [h.block b (Array.getElem?_eq_some_iff.1 hb).1 (fun e => ?_)]
  · exact hb
  · rcases ho.2 with ⟨rfl, _⟩ | ⟨g', cap', cur', rfl, _, hh, _⟩
    · simp [Value.ownBlock] at e
    · simp [Value.ownBlock] at e
      subst e
      rw [hb] at hh
      simp at hh
      exact hT hh.2
theorem oth_go {w w' : World} {g : Nat} {cur : Array Value} {T : TypeId} (h : Go1 g w w') (hh : w.heap[g]? = some (.cells cur T (0, 0))) : Oth T w w' := by
  refine ⟨h.size, fun b cur' T' hb hT => ?_⟩
  rw [h.block b (Array.getElem?_eq_some_iff.1 hb).1 (fun e => ?_)]
  · exact hb
  · cases e
    rw [hb] at hh
    simp at hh
    exact hT hh.2
theorem RwN.mono {b1 b2 : Nat} {w : World} {r : Rw} (h : RwN b1 w r) (hb : b2 ≤ b1) : RwN b2 w r := by
  obtain ⟨h1, h2, h3, h4⟩ := h
  refine ⟨h1, h2, h3, ?_⟩
  rcases h4 with h0 | ⟨b, off, cur, e, hb', hh, hc⟩
  · exact .inl h0
  · exact .inr ⟨b, off, cur, e, Nat.le_trans hb hb', hh, hc⟩
/-- a row of values of one's own is such a row -/
theorem own_rwn {w : World} {base : Nat} {v : Value} {l : List V} (h : w.ownsRow base 32 4 v l.length (cellsF vF l)) (hl : l.length ≤ 1000000) : ∃ r : Rw, v = rwV r ∧ r.l = l ∧ RwN base w r ∧ (r.oa = none → r.c = 0) := by
  obtain ⟨oa, c, e, hat, h0⟩ := own_at0 vE h
  obtain ⟨oa', c', e', _, hc, _⟩ := own_at vE h
  rw [e] at e'
  cases e'
  refine ⟨⟨oa, l, c⟩, e, rfl, ⟨hat, by show l.length ≤ _; omega, hc, ?_⟩, h0⟩
  rcases h.2 with ⟨e2, hz⟩ | ⟨g, cap, cur, e2, hb, hh, hcap, _, hs, _⟩
  · exact .inl (List.eq_nil_of_length_eq_zero hz)
  · rw [e] at e2
    cases e2
    exact .inr ⟨g, 0, cur, rfl, hb, hh, by rw [hs]; show 0 + l.length * 4 ≤ _; omega⟩
theorem rnil (W : World) (oa : Option Addr) (n c : Nat) : (binOp .eql 35 (.slice oa n c) (.slice none 0 0)).run Tryd.prog W = .ok (.bool oa.isNone) W := Lib.run_eql_slice_nil W 35 32 oa n c 0 0 Tryd.underlying35
set_option maxHeartbeats 4000000 in
set_option maxRecDepth 100000 in
theorem rclone (oa : Option Addr) (c : Nat) (l : List V) (w : World) (hl : l.length ≤ 1000000) (hp : VAt w oa l) :
    Calls Tryd.prog 62 #[.slice oa l.length c] w fun e w' => ∃ v, e = .returned v ∧ w'.ownsRow w.heap.size 32 4 v l.length (cellsF vF l) ∧ Gr w w' := by
  obtain ⟨i0, hi, hz0, hz1, hz2⟩ := info_parts v_info
  have NN := fun (W : World) (oa : Option Addr) (n c : Nat) => rnil W oa n c
  cases oa with
  | none =>
    have h0 : l = [] := by
      rcases hp with h | ⟨b, off, h, _⟩
      · exact h
      · cases h
    subst h0
    simp only [List.length_nil]
    go_enter Tryd.func62, Tryd.ntmps62
    go_wp2
    go_ret
    exact ⟨_, rfl, World.ownsRow_nil _ _ _ _, Gr.refl _⟩
  | some ad =>
    have hc : ∀ W, Gr w W → ∀ j u, (cellsF vF l)[j]? = some u → W.cell? (ad.add j) = some u := by
      intro W hW
      rcases hp.keep hW with h | ⟨b, off, h, hb, hr⟩
      · subst h; intro j u hu; simp [cellsF] at hu
      · cases h; exact hr.cells vE
    have Hc := hid hc
    clear hc hp
    go_enter Tryd.func62, Tryd.ntmps62
    go_wp2_with (at_builtin; refine wpList_append_own _ rfl _ _ 35 rfl w.heap.size 32 i0 (.agg #[.int .i64 0, .int .i64 0, .string ⟨#[]⟩, .bool false]) 4 40 Tryd.underlying35 hi hz0 hz1 hz2 rfl (by decide) _ _ _ rfl (World.ownsRow_lit w #[] 0 (Nat.le_refl _) (by decide) rfl) ad l.length c (cellsF vF l) rfl (vE.cells_len l) ?c1 ?c2 ?c3 ?c4 ?c5 ?_)
    case c1 => exact Hc.out _ ((Gr.refl w).alloc _)
    case c2 => exact vE.cells_one l
    case c3 => unfold maxLen; omega
    case c4 => omega
    case c5 => simp
    intro v' w2 hown2 hg2 _
    have hown2 : w2.ownsRow w.heap.size 32 4 v' l.length (cellsF vF l) := by simpa using hown2
    have hg3 : Gr w w2 := ((Gr.refl w).alloc _).grown hg2 (fun b hb => by simp [Value.ownBlock] at hb; omega)
    have H := hid hown2
    clear hown2 hg2
    go_wp2
    go_ret
    exact ⟨_, rfl, H.out, hg3⟩
theorem clipV (oa : Option Addr) (n c : Nat) (w : World) (hn : n ≤ c) : Calls Tryd.prog 61 #[.slice oa n c] w fun e w' => e = .returned (.slice oa n n) ∧ w' = w := by
  go_enter Tryd.func61, Tryd.ntmps61
  go_wp2
  go_ret
  exact ⟨rfl, rfl⟩
theorem clipR (oa : Option Addr) (n c : Nat) (w : World) (hn : n ≤ c) : Calls Tryd.prog 50 #[.slice oa n c] w fun e w' => e = .returned (.slice oa n n) ∧ w' = w := by
  go_enter Tryd.func50, Tryd.ntmps50
  go_wp2
  go_ret
  exact ⟨rfl, rfl⟩
set_option maxHeartbeats 4000000 in
set_option maxRecDepth 100000 in
theorem copied_any (x : Rw) (w : World) (hl : x.l.length ≤ 1000000) (hp : VAt w x.oa x.l) :
    Calls Tryd.prog 48 #[rwV x] w fun e w' => ∃ r : Rw, e = .returned (rwV r) ∧ r.l = x.l ∧ RwN w.heap.size w' r ∧ Gr w w' := by
  have C := hid (rclone x.oa x.c x.l w hl hp)
  unfold rwV
  clear hp
  go_enter Tryd.func48, Tryd.ntmps48
  go_wp2_with fail
  refine C.out.mono ?_
  rintro e w1 ⟨v, rfl, hown, hg⟩
  obtain ⟨r, rfl, hrl, hrw, _⟩ := own_rwn hown hl
  have CL := clipV r.oa r.l.length r.c w1 hrw.2.2.1
  have HRW := hid hrw
  have HRL := hid hrl
  have HG := hid hg
  clear hown hrw hrl hg C
  unfold rwV
  go_wp2_with fail
  refine CL.mono ?_
  rintro e w2 ⟨rfl, rfl⟩
  go_wp2
  go_ret
  obtain ⟨h1, h2, h3, h4⟩ := HRW.out
  exact ⟨⟨r.oa, r.l, r.l.length⟩, rfl, HRL.out, ⟨h1, h2, Nat.le_refl _, h4⟩, HG.out⟩
end Go.Proofs.YtacbhkmkknicoaaDoor

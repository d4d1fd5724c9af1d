/- redo: the walk of RedoTwice. -/
import Derived.Test.YtmanokhadppeeaaHd
import Derived.Test.YtmanokhadppeeaaW4
namespace Go.Proofs.Ytmanokhadppeeaa
open Go.RowKit Go.Maps
set_option linter.unusedSimpArgs false
set_option linter.unusedVariables false
attribute [local go_sem] Rg.leads_value Rg.leads_skip Rg.leads_enter Rg.brings_value Rg.brings_skip Rg.brings_enter Rg.bringsG_value Rg.bringsG_enter
def T6a (w3 : World) (TS : List Tx) (B : Nat) (s9 : Value) (wr : World) : Prop := ∃ (i : Nat) (q : List Int), s9 = .int .i64 (i : Int) ∧ i ≤ TS.length ∧ Gr w3 wr ∧ q.length = 6 ∧ wr.ownsRow w3.heap.size 55 1 (.slice (some ⟨B, 0, none⟩) 6 6) 6 (cellsF iF q)
theorem at_ne {α : Type} {f : α → List Value} {k : Nat} {w w' : World} {oa : Option Addr} {l : List α} {v : Value} (h : AtF f k w oa l) (hg : Gz v w w') (hne : ∀ g o q, oa = some ⟨g, o, q⟩ → v.ownBlock ≠ some g) : AtF f k w' oa l := by
  rcases h with h | ⟨b, off, e1, hb, hr⟩
  · exact .inl h
  · exact .inr ⟨b, off, e1, Nat.lt_of_lt_of_le hb hg.size, fun i hi j u hu => hg.cell (hr i hi j u hu) (fun g' hv e2 => hne b off none e1 (by rw [hv, e2]))⟩
theorem ty_ne {e : TypeId} {w w' : World} {oa : Option Addr} {v : Value} (h : ∀ g o q, oa = some ⟨g, o, q⟩ → Ty e w g) (hg : Gz v w w') (hne : ∀ g o q, oa = some ⟨g, o, q⟩ → v.ownBlock ≠ some g) : ∀ g o q, oa = some ⟨g, o, q⟩ → Ty e w' g :=
  fun g o q e1 => (h g o q e1).gz hg (hne g o q e1)
theorem Mt.snoc {N : List Ln} {s : List Oc} {x : Ln} {o : Oc} (h : Mt N s) (hx : x.kind = o.kind ∧ x.txn = o.txn ∧ x.page = o.page) : Mt (N ++ [x]) (s ++ [o]) := by
  refine ⟨by rw [List.length_append, List.length_append, h.1]; rfl, fun i hi hi' => ?_⟩
  by_cases e : i < N.length
  · have e' : i < s.length := by rw [← h.1]; exact e
    rw [List.getElem_append_left e, List.getElem_append_left e']
    exact h.2 i e e'
  · have hl := h.1
    simp only [List.length_append, List.length_singleton] at hi
    have : i = N.length := by omega
    subst this
    rw [List.getElem_append_right (Nat.le_refl _), List.getElem_append_right (by omega)]
    simp [hl, hx]
/-- the log with what was undone behind it, as far as it goes -/
structure F2 (w : World) (L : List Ln) (s : List Oc) (ou : Option Addr) (zs : List (Oc × Option Addr × Nat)) (B : Nat) (i : Nat) (v3 : Value) (wr : World) : Prop where
  n : ∃ N : List Ln, N.length = i ∧ Mt N (s.take i) ∧ (∀ j (h : j < N.length), N[j].lsn = 10 * (((L.length + j : Nat) : Int) + 1)) ∧ wr.ownsRow w.heap.size 34 12 v3 (L ++ N).length (cellsF nF (L ++ N)) ∧ ∀ x ∈ N, LnB wr x ∧ x.bs = []
  l : ∀ x ∈ L, LnB wr x
  u : AtF rF 11 wr ou (zs.map fun z : Oc × Option Addr × Nat => zLn z.1 z.2.1 z.2.2)
  ty : ∀ g o q, ou = some ⟨g, o, q⟩ → Ty 32 wr g
  z : ∀ z ∈ zs, BOk wr z.2.1 z.1.es
  q : ∃ q : List Int, q.length = 6 ∧ wr.ownsRow w.heap.size 55 1 (.slice (some ⟨B, 0, none⟩) 6 6) 6 (cellsF iF q)
  up : Gr w wr
def T6b (w : World) (L : List Ln) (s : List Oc) (ou : Option Addr) (zs : List (Oc × Option Addr × Nat)) (B : Nat) (s3 s10 : Value) (wr : World) : Prop := ∃ i : Nat, s10 = .int .i64 (i : Int) ∧ i ≤ s.length ∧ F2 w L s ou zs B i s3 wr
theorem okI_of {n : Int} (h : -9223372036854775808 ≤ n ∧ n ≤ 9223372036854775807) : okI n := WalkArith.wf_i64 (by omega)
theorem loser_nil : ∀ ts : List Tx, (∀ e ∈ ts, e.st = 2) → loserR ts = []
  | [], _ => rfl
  | t :: r, h => by
    unfold loserR
    rw [if_pos (h t (by simp)), loser_nil r (fun e he => h e (by simp [he]))]
def T6d (wX : World) (n : Nat) (s19 : Value) (wr : World) : Prop := ∃ i : Nat, s19 = .int .i64 (i : Int) ∧ i ≤ n ∧ Gr wX wr
theorem made4 : madeCells (Value.int IntKind.i64 0).cells (Int.toNat 4 * 1) = #[.int .i64 0, .int .i64 0, .int .i64 0, .int .i64 0] := by kernel_rfl
/-- the newest LSN of each page, as far as it goes -/
def T6c (wF : World) (M : List Ln) (G : Nat) (s14 : Value) (wr : World) : Prop := ∃ (i : Nat) (tp : List Int), s14 = .int .i64 (i : Int) ∧ i ≤ M.length ∧ Gr wF wr ∧ tp.length = 4 ∧ wr.ownsRow wF.heap.size 3 1 (.slice (some ⟨G, 0, none⟩) 4 4) 4 (cellsF iF tp) ∧ (∀ x ∈ M.take i, chB x.kind = true → x.lsn ≤ lsnI tp x.page) ∧ ∀ v ∈ tp, 0 ≤ v ∧ v ≤ 100000
set_option maxHeartbeats 16000000 in
set_option maxRecDepth 100000 in
theorem twice_walk (os : Option Addr) (cs : Nat) (steps : List Sp) (w : World) (hl : steps.length ≤ 9223372036854775807) (hS : StAt w os steps) :
    Calls Try.prog 6 #[.slice os steps.length cs] w (Yes w) := by
  have HIC := hid (hist_call os cs steps w hl hS)
  clear hS
  go_enter Try.func6, Try.ntmps6
  go_wp2_with fail
  refine HIC.out.mono ?_
  rintro e w1 ⟨o7, c7, L, rfl, hN⟩
  have hLg : ∀ x ∈ L, GL x ∧ 0 < x.lsn := fun x hx => ⟨(hN.g x hx).gl, (hN.g x hx).lsn⟩
  have hLb : ∀ x ∈ L, GL x ∧ x.lsn ≤ 600 := fun x hx => ⟨(hN.g x hx).gl, by
    obtain ⟨i, hi, rfl⟩ := List.getElem_of_mem hx
    have := hN.lsn i hi
    have := hN.len
    omega⟩
  have hTI := TI.all (fun x hx => (hLg x hx).1)
  have AN := analyze_any o7 c7 L w1 hN.at' (by have := hN.len; omega) (fun x hx => by rw [(hN.b x hx).t, (hN.b x hx).d]; exact ⟨Nat.zero_le _, Nat.zero_le _⟩) (by have := hTI.tsl; omega) (by have := hTI.dsl; omega)
  have hperm := sort_perm (fun x : Tx => x.id) (anR L).ts
  have htl : (sortF (fun x : Tx => x.id) (anR L).ts).length = (anR L).ts.length := sort_len _ _ _ _
  obtain ⟨s, hs, hsg, hsl, hsN⟩ := twice_plain hLg hperm
  have hmu := mu_small hLb hperm
  have UN : ∀ W ot ct, Gr w1 W → TAt W ot (sortF (fun x : Tx => x.id) (anR L).ts) → Calls Try.prog 15 #[.slice o7 L.length c7, .slice ot (sortF (fun x : Tx => x.id) (anR L).ts).length ct] W (UndoP W s) := by
    intro W ot ct hW hT
    rw [← hs]
    exact undo_any o7 c7 L ot ct _ W (by have := hN.len; omega) (hN.at'.keep hW) (fun x hx => by have := hN.bl x hx; omega) (by have := hTI.tsl; omega) hT (by omega)
  have hidr : ∀ e ∈ sortF (fun x : Tx => x.id) (anR L).ts, 1 ≤ e.id ∧ e.id ≤ 4 := fun e he => hTI.idr e.id (List.mem_map_of_mem (hperm.mem_iff.1 he))
  rw [← htl] at AN
  have hts4 : (sortF (fun x : Tx => x.id) (anR L).ts).length ≤ 4 := by have := hTI.tsl; omega
  have hsl2 : s.length ≤ 4808 := by omega
  have HAN := hid AN
  have HUN := hid UN
  have HIDR := hid hidr
  have HSG := hid hsg
  have HSN := hid hsN
  have HNO := hid hN
  clear AN UN hidr hsg hsN hs hsl hmu hperm htl hTI hLg hLb hN
  generalize sortF (fun x : Tx => x.id) (anR L).ts = TS at *
  obtain ⟨dl, hdl⟩ : ∃ q, (anR L).ds.length = q := ⟨_, rfl⟩
  rw [hdl] at HAN HSN
  generalize (anR L).n = an at *
  go_wp2_with fail
  refine HAN.out.mono ?_
  rintro e w2 ⟨ot, ct, od, cd, rfl, hT, -, hg2⟩
  have HT := hid hT
  have U2 := HUN.out w2 ot ct hg2 hT
  clear HAN HUN hT
  go_wp2_with fail
  refine U2.mono ?_
  rintro e w3 ⟨ou, zs, rfl, hz, hat, ⟨hzb, hty⟩, hg3⟩
  have HZ := hid hz
  have HU := hid hat
  have HZB := hid hzb
  have HTY := hid hty
  have HT := hid (HT.out.keep hg3)
  have HG3 := hid (hg2.trans hg3)
  clear U2 hz hat hzb hty hg2 hg3 HIC
  go_upto_region 5 with (fail)
  have hrow0 := World.ownsRow_lit (base := w3.heap.size) (e := 55) (size := 1) w3 #[.int .i64 0, .int .i64 0, .int .i64 0, .int .i64 0, .int .i64 0, .int .i64 0] 6 (Nat.le_refl _) (by decide) rfl
  obtain ⟨W4, hW4⟩ : ∃ W4, W4 = w3.alloc (.cells #[.int .i64 0, .int .i64 0, .int .i64 0, .int .i64 0, .int .i64 0, .int .i64 0] 55) := ⟨_, rfl⟩
  have hg4 : Gr w3 W4 := by rw [hW4]; exact (Gr.refl _).alloc _
  rw [← hW4] at hrow0 ⊢
  have S0 : Hid (T6a w3 TS w3.heap.size (.int .i64 0) W4) := hid ⟨0, [0, 0, 0, 0, 0, 0], rfl, Nat.zero_le _, hg4, rfl, hrow0⟩
  clear hW4 hg4 hrow0
  obtain ⟨B, hB⟩ : ∃ B, w3.heap.size = B := ⟨_, rfl⟩
  rw [hB] at S0 ⊢
  go_wp2_with fail
  go_loopw [9] (fun s9 wr => T6a w3 TS B s9 wr) (fun s9 _ => TS.length - (intOf s9).toNat)
  case atStart => exact S0.out
  case round =>
    clear S0
    obtain ⟨i, q, rfl, hi, hg, hq6, hrow⟩ := hrel
    have HRW := hid hrow
    clear hrow
    by_cases hlt : i < TS.length
    · obtain ⟨b, off, rfl, c0, c1, -⟩ := t_get (HT.out.keep hg) i hlt
      have hid4 := HIDR.out _ (List.getElem_mem hlt)
      have hbb := lt_of_cell c0
      have g1 : decide ((TS.length : Int) ≤ (i : Int)) = false := by rw [decide_eq_false_iff_not]; omega
      have g2 : (i : Int) < (TS.length : Int) := by omega
      have g3 : (0 : Int) ≤ (i : Int) := by omega
      obtain ⟨T, hT⟩ : ∃ T : Nat, TS[i].id = (T : Int) := ⟨TS[i].id.toNat, by omega⟩
      rw [hT] at c0 hid4
      generalize TS[i].last = la at *
      have i1 : decide ((0 : Int) < (T : Int)) = true := by rw [decide_eq_true_iff]; omega
      have i2 : decide ((T : Int) < 6) = true := by rw [decide_eq_true_iff]; omega
      have i3 : (0 : Int) ≤ (T : Int) := by omega
      have i4 : (T : Int) < 6 := by omega
      have i5 : decide (0 < T) = true := by rw [decide_eq_true_iff]; omega
      have i6 : decide (T < 6) = true := by rw [decide_eq_true_iff]; omega
      have hTq : T < q.length := by omega
      clear hT
      have hg0 := hg
      go_upto_region 9 with (fail)
      refine Rg.region_text 11 (Below.drew (Below.refl _ _)) (by kernel_rfl) (by kernel_rfl) (fun _ _ d _ _ h => by cases d <;> exact h) ?_
      simp only [List.append_eq, List.cons_append, List.nil_append, List.take_succ_cons, List.take_zero, List.drop_succ_cons, List.drop_zero]
      repeat (first
          | (refine Rg.wpDets_skip (by rfl) ?_; simp only [Act.put, List.setIfInBounds_toArray, List.set_cons_zero, List.set_cons_succ])
          | (refine Rg.wpDets_step ?_ (by rfl) (fun w hS => ?_) ?_
             rotate_left
             · have hc := Gr.cells hS
               have hf := Gr.frees hS
               go_simp
               first
               | (refine ⟨?_, Below.refl _ _⟩; with_reducible rfl)
             simp only [Act.put, List.setIfInBounds_toArray, List.set_cons_zero, List.set_cons_succ]))
      refine Rg.wpDets_nil ?_
      refine Rg.wpFlts_nil ?_
      refine Rg.wpLays_nil ?_
      intro w5 hK
      have hg : Gr _ w5 := hK.up
      have hc := Gr.cells hg
      have hf := Gr.frees hg
      have hz := Gr.size hg
      try simp only [World.size_alloc, World.size_setCell, World.size_drew] at hz
      try have : 0 < w5.heap.size := by omega
      try have : w.heap.size < w5.heap.size := by omega
      try have : w.heap.size + 1 < w5.heap.size := by omega
      try have : w.heap.size + 1 + 1 < w5.heap.size := by omega
      try have : w.heap.size + 1 + 1 + 1 < w5.heap.size := by omega
      try have : w1.heap.size < w5.heap.size := by omega
      try have : w1.heap.size + 1 < w5.heap.size := by omega
      try have : w2.heap.size < w5.heap.size := by omega
      try have : w2.heap.size + 1 < w5.heap.size := by omega
      try have : w3.heap.size < w5.heap.size := by omega
      try have : w3.heap.size + 1 < w5.heap.size := by omega
      try have : w4.heap.size < w5.heap.size := by omega
      try have : w4.heap.size + 1 < w5.heap.size := by omega
      have R5 := own_keep HRW.out hg
      rw [hB] at R5
      have hR5 : w5.ownsRow B 55 1 (.slice (some ⟨B, 0, none⟩) q.length 6) q.length (cellsF iF q) := by rw [hq6]; exact R5
      obtain ⟨S5, G5⟩ := own_store iE hR5 T hTq la 0 (by omega) (.int .i64 la) (by simp [iF])
      simp only [Nat.mul_one, Nat.add_zero] at S5 G5
      obtain ⟨uo, hcu⟩ := Option.isSome_iff_exists.1 (own_room R5 T (by omega)).1
      have hfz := R5.frozenAt T
      have FI : Hid (T6a w3 TS B (.int .i64 ((i : Int) + 1)) (w5.setCell ⟨B, T, none⟩ (.int .i64 la))) := hid ⟨i + 1, q.set T la, by go_num, by omega, (hg0.trans hg).grown G5 (fun b hb => by cases hb; omega), by rw [List.length_set]; exact hq6, by
        rw [List.length_set, hq6] at S5
        rw [hB]
        exact S5⟩
      clear S5 G5 R5 hR5 hg0 hg HRW
      go_wp2
      exact ⟨FI.out, by simp [intOf]; omega⟩
    · obtain rfl : i = TS.length := by omega
      have g1 : decide ((TS.length : Int) ≤ (TS.length : Int)) = true := by rw [decide_eq_true_iff]; omega
      rename World => wE
      have GE := HG3.out.trans hg
      have S0 : Hid (F2 w L s ou zs B 0 (.slice o7 L.length c7) wE) := hid {
        n := ⟨[], rfl, ⟨by simp, fun j h => by simp at h⟩, fun j h => by simp at h, by rw [List.append_nil]; exact own_keep HNO.out.own GE, fun x hx => by simp at hx⟩
        l := fun x hx => (HNO.out.b x hx).gr GE
        u := HU.out.keep hg
        ty := fun g o q e => (HTY.out g o q e).gr hg
        z := fun z hz => (HZB.out z hz).gr hg
        q := ⟨q, hq6, by
          have := HRW.out
          exact own_mono this ((HNO.out.up.trans HG3.out).size)⟩
        up := (HNO.out.up.trans HG3.out).trans hg }
      have HLEN := HNO.out.len
      clear HRW HT HIDR hg GE hq6
      go_wp2_with fail
      go_loopw [3, 10] (fun s3 s10 wr => T6b w L s ou zs B s3 s10 wr) (fun _ s10 _ => s.length - (intOf s10).toNat)
      case atStart => exact ⟨0, rfl, Nat.zero_le _, S0.out⟩
      case round =>
        clear S0
        obtain ⟨i, rfl, hi, hF⟩ := hrel
        obtain ⟨N, hNl, hNm, hNs, hNr, hNb⟩ := hF.n
        obtain ⟨q, hq6, hqr⟩ := hF.q
        obtain ⟨oL, cL, rfl, hLat, hLn⟩ := own_at0 nE hNr
        obtain ⟨M, hM⟩ : ∃ M, L ++ N = M := ⟨_, rfl⟩
        have hMl : M.length = L.length + i := by rw [← hM, List.length_append, hNl]
        rw [hM] at hNr hLat ⊢
        have HM := hid hM
        have HNL := hid hNl
        have HNM := hid hNm
        have HNS := hid hNs
        have HNR := hid hNr
        have HNB := hid hNb
        have HQR := hid hqr
        have HF := hid hF
        have hM5 : M.length ≤ 5000 := by omega
        have HML := hid hMl
        clear hNm hNs hNr hNb hqr hF hM hNl hMl hLat hLn
        by_cases hlt : i < s.length
        · have hzl : zs.length = s.length := by rw [← HZ.out]; simp
          have hiz : i < zs.length := by omega
          obtain ⟨b, off, hou, hbb, hc⟩ := AtF.get HF.out.u i (by simpa using hiz)
          subst hou
          have hzo : zs[i].1 = s[i] := by
            have : (zs.map Prod.fst)[i]? = s[i]? := by rw [HZ.out]
            rw [List.getElem?_map, List.getElem?_eq_getElem hiz, List.getElem?_eq_getElem hlt] at this
            simpa using this
          rw [List.getElem_map] at hc
          have hsg := HSG.out _ (List.getElem_mem hlt)
          rw [← hzo] at hsg
          have hzk := HF.out.z _ (List.getElem_mem hiz)
          have hT1 : Hid (s.take (i + 1) = s.take i ++ [zs[i].1]) := hid (by rw [take_snoc s i hlt, hzo])
          generalize zs[i] = z at *
          obtain ⟨T, hT⟩ : ∃ T : Nat, z.1.txn = (T : Int) := ⟨z.1.txn.toNat, by omega⟩
          have hT14 : 1 ≤ T ∧ T ≤ 4 := by omega
          have y0 : wr.cell? ⟨b, off + i * 11, none⟩ = some (.int .i64 z.1.kind) := by
            have := hc 0 (.int .i64 z.1.kind) rfl
            simpa using this
          have y1 : wr.cell? ⟨b, off + i * 11 + 1, none⟩ = some (.int .i64 (T : Int)) := by rw [← hT]; exact hc 1 _ rfl
          have y2 : wr.cell? ⟨b, off + i * 11 + 2, none⟩ = some (.int .i64 0) := hc 2 _ rfl
          have y3 : wr.cell? ⟨b, off + i * 11 + 3, none⟩ = some (.int .i64 z.1.next) := hc 3 _ rfl
          have y4 : wr.cell? ⟨b, off + i * 11 + 4, none⟩ = some (.int .i64 z.1.page) := hc 4 _ rfl
          have y5 : wr.cell? ⟨b, off + i * 11 + 5, none⟩ = some (.int .i64 z.1.off) := hc 5 _ rfl
          have y6 : wr.cell? ⟨b, off + i * 11 + 6, none⟩ = some (.slice none 0 0) := hc 6 _ rfl
          have y7 : wr.cell? ⟨b, off + i * 11 + 7, none⟩ = some (.slice z.2.1 z.1.es.length z.2.2) := hc 7 _ rfl
          have y8 : wr.cell? ⟨b, off + i * 11 + 8, none⟩ = some (.slice none 0 0) := hc 8 _ rfl
          have y9 : wr.cell? ⟨b, off + i * 11 + 9, none⟩ = some (.slice none 0 0) := hc 9 _ rfl
          have y10 : wr.cell? ⟨b, off + i * 11 + 10, none⟩ = some (.int .i64 0) := hc 10 _ rfl
          have g1 : decide ((s.length : Int) ≤ (i : Int)) = false := by rw [decide_eq_false_iff_not]; omega
          have g2 : (i : Int) < (s.length : Int) := by omega
          have g3 : (0 : Int) ≤ (i : Int) := by omega
          have i1 : decide ((T : Int) < 1) = false := by rw [decide_eq_false_iff_not]; omega
          have i2 : decide ((5 : Int) < (T : Int)) = false := by rw [decide_eq_false_iff_not]; omega
          have i3 : (0 : Int) ≤ (T : Int) := by omega
          have i4 : (T : Int) < 6 := by omega
          have i5 : decide (T < 1) = false := by rw [decide_eq_false_iff_not]; omega
          have i6 : decide (5 < T) = false := by rw [decide_eq_false_iff_not]; omega
          have hTq : T < q.length := by omega
          have HSGi := hid hsg
          have HZK := hid hzk
          have HTe := hid hT
          clear hc hzo hsg hzk hT hzl
          go_upto_region 15 with (fail)
          obtain ⟨W5, hW5⟩ : ∃ W5, W5 = wr.alloc (.cells #[.int .i64 z.1.kind, .int .i64 (T : Int), .int .i64 0, .int .i64 z.1.next, .int .i64 z.1.page, .int .i64 z.1.off, .slice none 0 0, .slice z.2.1 z.1.es.length z.2.2, .slice none 0 0, .slice none 0 0, .int .i64 0] 32) := ⟨_, rfl⟩
          have hg5 : Gr wr W5 := by rw [hW5]; exact (Gr.refl _).alloc _
          have hwb := HF.out.up.size
          have RW : Hid (W5.ownsRow w.heap.size 32 11 (.slice (some ⟨wr.heap.size, 0, none⟩) 1 1) 1 [.int .i64 z.1.kind, .int .i64 (T : Int), .int .i64 0, .int .i64 z.1.next, .int .i64 z.1.page, .int .i64 z.1.off, .slice none 0 0, .slice z.2.1 z.1.es.length z.2.2, .slice none 0 0, .slice none 0 0, .int .i64 0]) := hid (by
            rw [hW5]
            exact World.ownsRow_lit (base := w.heap.size) (e := 32) (size := 11) wr _ 1 hwb (by decide) rfl)
          have hrb : ¬ wr.heap.size = b := by omega
          have HQ5 := hid (own_keep HQR.out hg5)
          rw [← hW5]
          have v0 : W5.cell? ⟨wr.heap.size, 1, none⟩ = some (.int .i64 (T : Int)) := by rw [RW.out.cellAt 1 (by omega)]; rfl
          clear hW5 y0 y1 y2 y3 y4 y5 y6 y7 y8 y9 y10 hwb
          generalize hrBe : wr.heap.size = rB at *
          have nB : ¬ B = rB := fun e => by
            rcases own_apart HQ5.out RW.out (by decide) with h | h
            · cases h
            · exact h (by rw [e]; rfl)
          have nB2 : ¬ rB = B := fun e => nB e.symm
          have cq : W5.cell? ⟨B, T, none⟩ = some (.int .i64 q[T]) := by
            rw [HQ5.out.cellAt T (by omega)]
            have := iE.cells_get q T hTq 0 (by omega)
            simp only [Nat.mul_one, Nat.add_zero] at this
            rw [this]; rfl
          have v2 : W5.cell? ⟨rB, 2, none⟩ = some (.int .i64 0) := by rw [RW.out.cellAt 2 (by omega)]; rfl
          have fz2 := RW.out.frozenAt 2
          have fzq := HQ5.out.frozenAt T
          have zq := lt_of_cell cq
          have zr := lt_of_cell v2
          generalize hqTe : q[T] = qT at *
          obtain ⟨lsn, hlsn⟩ : ∃ z, 10 * ((M.length : Int) + 1) = z := ⟨_, rfl⟩
          -- what stands behind the two stores
          obtain ⟨S1, G1⟩ := RW.out.stored 2 (.int .i64 qT)
          have G1 : Gz (.slice (some ⟨rB, 0, none⟩) 1 1) W5 _ := G1
          have Q6 := HQ5.out.kept G1 (own_apart HQ5.out RW.out (by decide))
          have Q6' : World.ownsRow (W5.setCell ⟨rB, 2, none⟩ (.int .i64 qT)) w.heap.size 55 1 (.slice (some ⟨B, 0, none⟩) q.length 6) q.length (cellsF iF q) := by rw [hq6]; exact Q6
          obtain ⟨S2, G2⟩ := own_store iE Q6' T hTq lsn 0 (by omega) (.int .i64 lsn) (by simp [iF])
          simp only [Nat.mul_one, Nat.add_zero] at S2 G2
          rw [List.length_set, hq6] at S2
          have G2 : Gz (.slice (some ⟨B, 0, none⟩) 6 6) (W5.setCell ⟨rB, 2, none⟩ (.int .i64 qT)) _ := G2
          have R7 := S1.kept G2 (own_apart S1 Q6 (by decide))
          have M5 := own_keep HNR.out hg5
          have M6 := M5.kept G1 (own_apart M5 RW.out (by decide))
          have M7 := M6.kept G2 (own_apart M6 Q6 (by decide))
          have L7 : ∀ x ∈ L, LnB _ x := fun x hx => (((HF.out.l x hx).gr hg5).gz G1 RW.out (by decide)).gz G2 Q6 (by decide)
          have N7 : ∀ x ∈ N, LnB _ x ∧ x.bs = [] := fun x hx => ⟨(((HNB.out x hx).1.gr hg5).gz G1 RW.out (by decide)).gz G2 Q6 (by decide), (HNB.out x hx).2⟩
          have Z7 : ∀ z ∈ zs, BOk _ z.2.1 z.1.es := fun z hz => (((HF.out.z z hz).gr hg5).gz G1 RW.out (by decide)).gz G2 Q6 (by decide)
          have ZK7 := ((HZK.out.gr hg5).gz G1 RW.out (by decide)).gz G2 Q6 (by decide)
          have ne1 : ∀ g o qq, (some ⟨b, off, none⟩ : Option Addr) = some ⟨g, o, qq⟩ → (Value.slice (some ⟨rB, 0, none⟩) 1 1).ownBlock ≠ some g := fun g o qq e h => by cases e; cases h; exact hrb rfl
          have U6 := at_ne (HF.out.u.keep hg5) G1 ne1
          have T6 := ty_ne (fun g o qq e => (HF.out.ty g o qq e).gr hg5) G1 ne1
          obtain ⟨U7, T7⟩ := at_gz U6 T6 G2 Q6 (by decide)
          have up7 := Gz.up (Gz.up (HF.out.up.trans hg5) G1 RW.out) G2 Q6
          have HR7 := hid R7
          have HM7 := hid M7
          have HL7 := hid L7
          have HN7 := hid N7
          have HZ7 := hid Z7
          have HZK7 := hid ZK7
          have HU7 := hid U7
          have HT7 := hid T7
          have HQ7 := hid S2
          have HUP7 := hid up7
          clear S1 G1 Q6 Q6' S2 G2 R7 M5 M6 M7 L7 N7 Z7 ZK7 ne1 U6 T6 U7 T7 up7 HQ5 RW HF HNR HNB HQR HZK
          go_upto_region 17 with (fail)
          go_upto_region 19 with (fail)
          rw [hlsn]
          generalize (W5.setCell ⟨rB, 2, none⟩ (.int .i64 qT)).setCell ⟨B, T, none⟩ (.int .i64 lsn) = W7 at *
          have r0 : W7.cell? ⟨rB, 0, none⟩ = some (.int .i64 z.1.kind) := by rw [HR7.out.cellAt 0 (by omega)]; rfl
          have r1 : W7.cell? ⟨rB, 1, none⟩ = some (.int .i64 (T : Int)) := by rw [HR7.out.cellAt 1 (by omega)]; rfl
          have r2 : W7.cell? ⟨rB, 2, none⟩ = some (.int .i64 qT) := by rw [HR7.out.cellAt 2 (by omega)]; rfl
          have r3 : W7.cell? ⟨rB, 3, none⟩ = some (.int .i64 z.1.next) := by rw [HR7.out.cellAt 3 (by omega)]; rfl
          have r4 : W7.cell? ⟨rB, 4, none⟩ = some (.int .i64 z.1.page) := by rw [HR7.out.cellAt 4 (by omega)]; rfl
          have r5 : W7.cell? ⟨rB, 5, none⟩ = some (.int .i64 z.1.off) := by rw [HR7.out.cellAt 5 (by omega)]; rfl
          have r6 : W7.cell? ⟨rB, 6, none⟩ = some (.slice none 0 0) := by rw [HR7.out.cellAt 6 (by omega)]; rfl
          have r7 : W7.cell? ⟨rB, 7, none⟩ = some (.slice z.2.1 z.1.es.length z.2.2) := by rw [HR7.out.cellAt 7 (by omega)]; rfl
          have r8 : W7.cell? ⟨rB, 8, none⟩ = some (.slice none 0 0) := by rw [HR7.out.cellAt 8 (by omega)]; rfl
          have r9 : W7.cell? ⟨rB, 9, none⟩ = some (.slice none 0 0) := by rw [HR7.out.cellAt 9 (by omega)]; rfl
          have r10 : W7.cell? ⟨rB, 10, none⟩ = some (.int .i64 0) := by rw [HR7.out.cellAt 10 (by omega)]; rfl
          have zr := lt_of_cell r0
          obtain ⟨i0, hi0, hz0, hz1, hz2⟩ := info_parts n_info
          have hwb := HUP7.out.size
          have HLS := hid hlsn
          clear cq v2 fz2 fzq zq v0 HR7 hlsn hg5
          go_wp2_with (at_builtin; refine wpList_append_own _ rfl _ _ 23 rfl w.heap.size 34 i0 _ 12 160 Try.underlying23 hi0 hz0 hz1 hz2 rfl (by decide) _ _ _ rfl (HM7.out.alloc _) ⟨W7.heap.size, 0, none⟩ 1 1 (nF { lsn := lsn, kind := z.1.kind, txn := (T : Int), prev := qT, next := z.1.next, page := z.1.page, off := z.1.off, ob := none, bs := [], cb := 0, oa := z.2.1, es := z.1.es, ca := z.2.2, ot := none, ts := [], ct := 0, od := none, ds := [], cd := 0, cnt := 0 }) rfl rfl ?mc1 ?mc2 ?mc3 ?mc4 ?mc5 ?_)
          case mc1 =>
            intro qq u hu
            first
            | (rw [addN, Nat.zero_add, Rg.blk_cells (heap_alloc_new _ _) qq]; simpa [nF, rF] using hu)
            | simpa [nF, rF] using hu
          case mc2 => exact nE.one _
          case mc3 => unfold maxLen; omega
          case mc4 => omega
          case mc5 => first | omega | (simp; omega)
          intro v' w8 hown hg8 _
          have ga : Gr W7 (W7.alloc (.cells (nF { lsn := lsn, kind := z.1.kind, txn := (T : Int), prev := qT, next := z.1.next, page := z.1.page, off := z.1.off, ob := none, bs := [], cb := 0, oa := z.2.1, es := z.1.es, ca := z.2.2, ot := none, ts := [], ct := 0, od := none, ds := [], cd := 0, cnt := 0 }).toArray 34)) := (Gr.refl _).alloc _
          have hA : Gz (.slice oL M.length cL) (W7.alloc (.cells (nF { lsn := lsn, kind := z.1.kind, txn := (T : Int), prev := qT, next := z.1.next, page := z.1.page, off := z.1.off, ob := none, bs := [], cb := 0, oa := z.2.1, es := z.1.es, ca := z.2.2, ot := none, ts := [], ct := 0, od := none, ds := [], cd := 0, cnt := 0 }).toArray 34)) w8 := hg8
          have HMA := own_keep HM7.out ga
          have FI : Hid (F2 w L s (some ⟨b, off, none⟩) zs B (i + 1) v' w8) := hid {
            n := ⟨N ++ [{ lsn := lsn, kind := z.1.kind, txn := (T : Int), prev := qT, next := z.1.next, page := z.1.page, off := z.1.off, ob := none, bs := [], cb := 0, oa := z.2.1, es := z.1.es, ca := z.2.2, ot := none, ts := [], ct := 0, od := none, ds := [], cd := 0, cnt := 0 }],
              by rw [List.length_append, HNL.out]; rfl,
              by rw [hT1.out]; exact HNM.out.snoc ⟨rfl, HTe.out.symm, rfl⟩,
              fun j hj => by
                have hnl := HNL.out
                by_cases e : j < N.length
                · simp only [List.getElem_append_left e]
                  exact HNS.out j e
                · simp only [List.length_append, List.length_singleton] at hj
                  have : j = N.length := by omega
                  subst this
                  simp only [List.getElem_append_right (Nat.le_refl _), Nat.sub_self, List.getElem_cons_zero]
                  rw [← HLS.out, HML.out, hnl],
              by rw [← List.append_assoc, HM.out, List.length_append, cellsF_snoc]; exact hown,
              fun x hx => by
                rcases List.mem_append.1 hx with h | h
                · exact ⟨((HN7.out x h).1.gr ga).gz hA HMA (by decide), (HN7.out x h).2⟩
                · simp only [List.mem_singleton] at h
                  subst h
                  exact ⟨⟨⟨.inl rfl, fun _ _ _ e => by cases e⟩, (HZK7.out.gr ga).gz hA HMA (by decide), rfl, rfl⟩, rfl⟩⟩
            l := fun x hx => ((HL7.out x hx).gr ga).gz hA HMA (by decide)
            u := (at_gz (HU7.out.keep ga) (fun g o qq e => (HT7.out g o qq e).gr ga) hA HMA (by decide)).1
            ty := (at_gz (HU7.out.keep ga) (fun g o qq e => (HT7.out g o qq e).gr ga) hA HMA (by decide)).2
            z := fun z hz => ((HZ7.out z hz).gr ga).gz hA HMA (by decide)
            q := ⟨q.set T lsn, by rw [List.length_set]; exact hq6, (own_keep HQ7.out ga).kept hA (own_apart (own_keep HQ7.out ga) HMA (by decide))⟩
            up := Gz.up (HUP7.out.trans ga) hA HMA }
          clear hown hg8 ga hA HMA HM7 HL7 HN7 HZ7 HZK7 HU7 HT7 HQ7 HUP7 HNM HNS HNL HM HML HTe hT1 HLS hq6 hTq hqTe
          have FJ : Hid (T6b w L s (some ⟨b, off, none⟩) zs B v' (.int .i64 ((i : Int) + 1)) w8) := hid ⟨i + 1, by go_num, by omega, FI.out⟩
          clear FI
          go_wp2
          exact ⟨FJ.out, by simp [intOf]; omega⟩
        · obtain rfl : i = s.length := by omega
          have g1 : decide ((s.length : Int) ≤ (s.length : Int)) = true := by rw [decide_eq_true_iff]; omega
          have hML := HML.out
          have hNL := HNL.out
          have hme := HM.out
          have hmt : Mt N s := by have := HNM.out; rwa [List.take_length] at this
          have hNs2 : ∀ x ∈ N, 0 < x.lsn := fun x hx => by
            obtain ⟨j, hj, rfl⟩ := List.getElem_of_mem hx
            have := HNS.out j hj
            omega
          obtain ⟨k1, k2, k3⟩ := HSN.out N hmt hNs2
          rw [hme] at k1 k2 k3
          have hMs : ∀ j (h : j < M.length), M[j].lsn = 10 * ((j : Int) + 1) := fun j h => by
            subst hme
            by_cases e : j < L.length
            · simp only [List.getElem_append_left e]; exact HNO.out.lsn j e
            · have e2 : j - L.length < N.length := by rw [List.length_append] at h; omega
              simp only [List.getElem_append_right (Nat.le_of_not_lt e)]
              have := HNS.out (j - L.length) e2
              rw [this, show L.length + (j - L.length) = j by omega]
          have hMB : ∀ x ∈ M, LnB wr x ∧ x.bs.length ≤ 1 := fun x hx => by
            rw [← hme] at hx
            rcases List.mem_append.1 hx with h | h
            · exact ⟨HF.out.l x h, HNO.out.bl x h⟩
            · exact ⟨(HNB.out x h).1, by rw [(HNB.out x h).2]; exact Nat.zero_le _⟩
          have hLA : LAt wr oL M := by
            obtain ⟨oa, c, e, hat, _⟩ := own_at0 nE HNR.out
            cases e
            exact ⟨hat, fun x hx => (hMB x hx).1.ok⟩
          have HMG := hid k1
          have HMT := hid k2
          have HMD := hid k3
          have HMS := hid hMs
          have HLM := hid hLA
          have HMBL : Hid (∀ x ∈ M, x.bs.length ≤ 1 ∧ x.ts = [] ∧ x.ds = []) := hid (fun x hx => ⟨(hMB x hx).2, (hMB x hx).1.t, (hMB x hx).1.d⟩)
          have HUP := hid HF.out.up
          clear k1 k2 k3 hMs hMB hLA hmt hNs2 hme hNL HML HNL HM HNM HNS HNR HNB HQR HF HSN HSG HZ HU HZB HTY hq6
          rename World => wF
          obtain ⟨i1, hj0, hy0, hy1, hy2⟩ := info_parts i_info
          have MK : (Instr.makeSlice 38 (.int .i64 4) (.int .i64 4)).run Try.prog wF = .ok (.slice (some ⟨wF.heap.size, 0, none⟩) 4 4) (wF.alloc (.cells #[.int .i64 0, .int .i64 0, .int .i64 0, .int .i64 0] 3)) := by
            rw [run_makeSlice wF 38 3 i1 (.int .i64 0) Try.underlying38 hj0 hy0 .i64 .i64 4 4 (by omega) (by omega) (by rw [hy1]; decide) (by rw [hy2]; decide) (by omega), hy1, made4]
            rfl
          go_upto_region 21 with (fail)
          clear MK hj0 hy0 hy1 hy2 i1
          have hrow0 := World.ownsRow_lit (base := wF.heap.size) (e := 3) (size := 1) wF #[.int .i64 0, .int .i64 0, .int .i64 0, .int .i64 0] 4 (Nat.le_refl _) (by decide) rfl
          obtain ⟨W8, hW8⟩ : ∃ W8, W8 = wF.alloc (.cells #[.int .i64 0, .int .i64 0, .int .i64 0, .int .i64 0] 3) := ⟨_, rfl⟩
          have hg8 : Gr wF W8 := by rw [hW8]; exact (Gr.refl _).alloc _
          rw [← hW8] at hrow0 ⊢
          have S0 : Hid (T6c wF M wF.heap.size (.int .i64 0) W8) := hid ⟨0, [0, 0, 0, 0], rfl, Nat.zero_le _, hg8, rfl, hrow0, fun x hx => by simp at hx, fun v hv => by simp at hv; omega⟩
          clear hW8 hg8 hrow0
          obtain ⟨G, hG⟩ : ∃ G, wF.heap.size = G := ⟨_, rfl⟩
          rw [hG] at S0 ⊢
          go_wp2_with fail
          go_loopw [14] (fun s14 wr => T6c wF M G s14 wr) (fun s14 _ => M.length - (intOf s14).toNat)
          case atStart => exact S0.out
          case round =>
            clear S0
            obtain ⟨i, tp, rfl, hi, hg, htp, hrow, hsee, hbd⟩ := hrel
            have HRW := hid hrow
            have HSEE := hid hsee
            have HBD := hid hbd
            clear hrow hsee hbd
            by_cases hlt : i < M.length
            · obtain ⟨b, off, rfl, c0, c1, c2, c3, c4, c5, c6, c7', c8, c9, c10, c11⟩ := n_get (HLM.out.keep hg) i hlt
              have hbb := lt_of_cell c0
              have hpg := (HMG.out _ (List.getElem_mem hlt)).page
              have hls := HMS.out i hlt
              have hnext : Hid (∀ tp' : List Int, (∀ x ∈ M.take i, chB x.kind = true → x.lsn ≤ lsnI tp' x.page) → (chB M[i].kind = true → M[i].lsn ≤ lsnI tp' M[i].page) → ∀ x ∈ M.take (i + 1), chB x.kind = true → x.lsn ≤ lsnI tp' x.page) := hid (fun tp' h1 h2 x hx hc => by
                rw [take_snoc M i hlt] at hx
                rcases List.mem_append.1 hx with h | h
                · exact h1 x h hc
                · simp only [List.mem_singleton] at h
                  subst h; exact h2 hc)
              have hold : Hid (∀ x ∈ M.take i, x.lsn ≤ M[i].lsn) := hid (fun x hx => by
                obtain ⟨j, hj, rfl⟩ := List.getElem_of_mem hx
                rw [List.length_take] at hj
                rw [List.getElem_take, HMS.out j (by omega), hls]
                omega)
              generalize M[i] = x at *
              have g1 : decide ((M.length : Int) ≤ (i : Int)) = false := by rw [decide_eq_false_iff_not]; omega
              have g2 : (i : Int) < (M.length : Int) := by omega
              have g3 : (0 : Int) ≤ (i : Int) := by omega
              obtain ⟨p, hp⟩ : ∃ p : Nat, x.page = (p : Int) := ⟨x.page.toNat, by omega⟩
              rw [hp] at c5 hpg
              go_upto_region 25 with (fail)
              obtain ⟨W4, hW4⟩ : ∃ W4, W4 = wr.alloc (.cells #[.int .i64 x.kind, .int .i64 x.txn, .int .i64 x.prev, .int .i64 x.next, .int .i64 (p : Int), .int .i64 x.off, .slice x.ob x.bs.length x.cb, .slice x.oa x.es.length x.ca, .slice x.ot x.ts.length x.ct, .slice x.od x.ds.length x.cd, .int .i64 x.cnt] 32) := ⟨_, rfl⟩
              have g4 : Gr wr W4 := by rw [hW4]; exact (Gr.refl _).alloc _
              have v0 : W4.cell? ⟨wr.heap.size, 0, none⟩ = some (.int .i64 x.kind) := by rw [hW4, Rg.blk_cells (heap_alloc_new _ _) 0]; rfl
              have v4 : W4.cell? ⟨wr.heap.size, 4, none⟩ = some (.int .i64 (p : Int)) := by rw [hW4, Rg.blk_cells (heap_alloc_new _ _) 4]; rfl
              rw [← hW4]
              have c0 := g4.keep c0
              have hbb := lt_of_cell c0
              have zv := lt_of_cell v0
              have hgj0 := hg.trans g4
              have HRW := hid (own_keep HRW.out g4)
              clear hW4 g4 c1 c2 c3 c4 c5 c6 c7' c8 c9 c10 c11
              generalize wr.heap.size = uB at *
              have j1 : decide ((0 : Int) ≤ (p : Int)) = true := by rw [decide_eq_true_iff]; omega
              have j2 : decide ((p : Int) < 4) = true := by rw [decide_eq_true_iff]; omega
              have j3 : (0 : Int) ≤ (p : Int) := by omega
              have j4 : (p : Int) < 4 := by omega
              have j5 : decide (p < 4) = true := by rw [decide_eq_true_iff]; omega
              have HP := hid hp
              have HLS := hid hls
              clear hp hls
              obtain ⟨ch, hch⟩ : ∃ q, chB x.kind = q := ⟨_, rfl⟩
              have HCH := hid hch
              clear hch
              by_cases k2 : x.kind = 2
              · have q2 : (x.kind == 2) = true := by simpa using k2
                clear k2
                skip
                go_upto_region 26 with (fail)
                refine Rg.region_text 9 (Below.drew (Below.refl _ _)) (by kernel_rfl) (by kernel_rfl) (fun _ _ d _ _ h => by cases d <;> exact h) ?_
                simp only [List.append_eq, List.cons_append, List.nil_append, List.take_succ_cons, List.take_zero, List.drop_succ_cons, List.drop_zero]
                repeat (first
                    | (refine Rg.wpDets_skip (by rfl) ?_; simp only [Act.put, List.setIfInBounds_toArray, List.set_cons_zero, List.set_cons_succ])
                    | (refine Rg.wpDets_step ?_ (by rfl) (fun w hS => ?_) ?_
                       rotate_left
                       · have hc := Gr.cells hS
                         have hf := Gr.frees hS
                         go_simp
                         first
                         | (refine ⟨?_, Below.refl _ _⟩; with_reducible rfl)
                       simp only [Act.put, List.setIfInBounds_toArray, List.set_cons_zero, List.set_cons_succ]))
                refine Rg.wpDets_nil ?_
                refine Rg.wpFlts_nil ?_
                refine Rg.wpLays_nil ?_
                intro w1 hK
                have hg : Gr _ w1 := hK.up
                have hc := Gr.cells hg
                have hf := Gr.frees hg
                have hz := Gr.size hg
                try simp only [World.size_alloc, World.size_setCell, World.size_drew] at hz
                try have : 0 < w1.heap.size := by omega
                try have : w.heap.size < w1.heap.size := by omega
                try have : w.heap.size + 1 < w1.heap.size := by omega
                try have : w.heap.size + 1 + 1 < w1.heap.size := by omega
                try have : w.heap.size + 1 + 1 + 1 < w1.heap.size := by omega
                have R5 := own_keep HRW.out hg
                rw [hG] at R5
                have hR5 : w1.ownsRow G 3 1 (.slice (some ⟨G, 0, none⟩) tp.length 4) tp.length (cellsF iF tp) := by rw [htp]; exact R5
                obtain ⟨S5, G5⟩ := own_store iE hR5 p (by omega) x.lsn 0 (by omega) (.int .i64 x.lsn) (by simp [iF])
                simp only [Nat.mul_one, Nat.add_zero] at S5 G5
                obtain ⟨uo, hcu⟩ := Option.isSome_iff_exists.1 (own_room R5 p (by omega)).1
                have hfz := R5.frozenAt p
                have c0 := hg.keep c0
                have hbb := lt_of_cell c0
                have FI : Hid (T6c wF M G (.int .i64 ((i : Int) + 1)) (w1.setCell ⟨G, p, none⟩ (.int .i64 x.lsn))) := hid ⟨i + 1, tp.set p x.lsn, by go_num, by omega, (hgj0.trans hg).grown G5 (fun b hb => by cases hb; omega), by rw [List.length_set]; exact htp, by
                  rw [List.length_set, htp] at S5
                  rw [hG]
                  exact S5, hnext.out _ (fun y hy hc => by
                    have h1 := HSEE.out y hy hc
                    have h2 := hold.out y hy
                    unfold lsnI at h1 ⊢
                    split
                    · rename_i hneg; rw [if_pos hneg] at h1; exact h1
                    · rename_i hneg
                      rw [if_neg hneg] at h1
                      rw [List.getElem?_set]
                      split
                      · rename_i he
                        rw [if_pos (by omega)]
                        exact h2
                      · exact h1) (fun _ => by
                    unfold lsnI
                    rw [HP.out, if_neg (by omega), Int.toNat_natCast, List.getElem?_set, if_pos rfl, if_pos (by omega)]
                    exact Int.le_refl _), fun v hv => by
                    rcases List.mem_or_eq_of_mem_set hv with h | h
                    · exact HBD.out v h
                    · subst h
                      have := HLS.out
                      omega⟩
                clear S5 G5 R5 hR5 hgj0 hg HRW HSEE HBD hold hnext HCH
                go_wp2
                exact ⟨FI.out, by simp [intOf]; omega⟩
              · have q2 : (x.kind == 2) = false := by simpa using k2
                by_cases k3 : x.kind = 3
                · have q3 : (x.kind == 3) = true := by simpa using k3
                  clear k2 k3
                  skip
                  go_upto_region 26 with (fail)
                  refine Rg.region_text 9 (Below.drew (Below.refl _ _)) (by kernel_rfl) (by kernel_rfl) (fun _ _ d _ _ h => by cases d <;> exact h) ?_
                  simp only [List.append_eq, List.cons_append, List.nil_append, List.take_succ_cons, List.take_zero, List.drop_succ_cons, List.drop_zero]
                  repeat (first
                      | (refine Rg.wpDets_skip (by rfl) ?_; simp only [Act.put, List.setIfInBounds_toArray, List.set_cons_zero, List.set_cons_succ])
                      | (refine Rg.wpDets_step ?_ (by rfl) (fun w hS => ?_) ?_
                         rotate_left
                         · have hc := Gr.cells hS
                           have hf := Gr.frees hS
                           go_simp
                           first
                           | (refine ⟨?_, Below.refl _ _⟩; with_reducible rfl)
                         simp only [Act.put, List.setIfInBounds_toArray, List.set_cons_zero, List.set_cons_succ]))
                  refine Rg.wpDets_nil ?_
                  refine Rg.wpFlts_nil ?_
                  refine Rg.wpLays_nil ?_
                  intro w1 hK
                  have hg : Gr _ w1 := hK.up
                  have hc := Gr.cells hg
                  have hf := Gr.frees hg
                  have hz := Gr.size hg
                  try simp only [World.size_alloc, World.size_setCell, World.size_drew] at hz
                  try have : 0 < w1.heap.size := by omega
                  try have : w.heap.size < w1.heap.size := by omega
                  try have : w.heap.size + 1 < w1.heap.size := by omega
                  try have : w.heap.size + 1 + 1 < w1.heap.size := by omega
                  try have : w.heap.size + 1 + 1 + 1 < w1.heap.size := by omega
                  have R5 := own_keep HRW.out hg
                  rw [hG] at R5
                  have hR5 : w1.ownsRow G 3 1 (.slice (some ⟨G, 0, none⟩) tp.length 4) tp.length (cellsF iF tp) := by rw [htp]; exact R5
                  obtain ⟨S5, G5⟩ := own_store iE hR5 p (by omega) x.lsn 0 (by omega) (.int .i64 x.lsn) (by simp [iF])
                  simp only [Nat.mul_one, Nat.add_zero] at S5 G5
                  obtain ⟨uo, hcu⟩ := Option.isSome_iff_exists.1 (own_room R5 p (by omega)).1
                  have hfz := R5.frozenAt p
                  have c0 := hg.keep c0
                  have hbb := lt_of_cell c0
                  have FI : Hid (T6c wF M G (.int .i64 ((i : Int) + 1)) (w1.setCell ⟨G, p, none⟩ (.int .i64 x.lsn))) := hid ⟨i + 1, tp.set p x.lsn, by go_num, by omega, (hgj0.trans hg).grown G5 (fun b hb => by cases hb; omega), by rw [List.length_set]; exact htp, by
                    rw [List.length_set, htp] at S5
                    rw [hG]
                    exact S5, hnext.out _ (fun y hy hc => by
                      have h1 := HSEE.out y hy hc
                      have h2 := hold.out y hy
                      unfold lsnI at h1 ⊢
                      split
                      · rename_i hneg; rw [if_pos hneg] at h1; exact h1
                      · rename_i hneg
                        rw [if_neg hneg] at h1
                        rw [List.getElem?_set]
                        split
                        · rename_i he
                          rw [if_pos (by omega)]
                          exact h2
                        · exact h1) (fun _ => by
                      unfold lsnI
                      rw [HP.out, if_neg (by omega), Int.toNat_natCast, List.getElem?_set, if_pos rfl, if_pos (by omega)]
                      exact Int.le_refl _), fun v hv => by
                      rcases List.mem_or_eq_of_mem_set hv with h | h
                      · exact HBD.out v h
                      · subst h
                        have := HLS.out
                        omega⟩
                  clear S5 G5 R5 hR5 hgj0 hg HRW HSEE HBD hold hnext HCH
                  go_wp2
                  exact ⟨FI.out, by simp [intOf]; omega⟩
                · have q3 : (x.kind == 3) = false := by simpa using k3
                  have hch0 : chB x.kind = false := by unfold chB; rw [q2, q3]; rfl
                  have FI : Hid (T6c wF M G (.int .i64 ((i : Int) + 1)) W4) := hid ⟨i + 1, tp, by go_num, by omega, hgj0, htp, HRW.out, hnext.out _ HSEE.out (fun h => by rw [hch0] at h; cases h), HBD.out⟩
                  clear k2 k3 hch0 HRW HSEE HBD hold hnext HCH
                  go_wp2
                  exact ⟨FI.out, by simp [intOf]; omega⟩
            · obtain rfl : i = M.length := by omega
              have g1 : decide ((M.length : Int) ≤ (M.length : Int)) = true := by rw [decide_eq_true_iff]; omega
              have hsee := HSEE.out
              rw [List.take_length] at hsee
              rename World => wG
              have hTI := TI.all HMG.out
              have hp1 := sort_perm (fun x : Tx => x.id) (anR M).ts
              have hp2 := sort_len (fun x : Dy => x.page) ((anR M).ds.length - 1) 1 (anR M).ds
              have hl1 : (sortF (fun x : Tx => x.id) (anR M).ts).length = (anR M).ts.length := sort_len _ _ _ _
              have hl2 : (sortF (fun x : Dy => x.page) (anR M).ds).length = (anR M).ds.length := hp2
              have AN := analyze_any oL cL M wG (HLM.out.keep hg) (by omega) (fun x hx => by rw [(HMBL.out x hx).2.1, (HMBL.out x hx).2.2]; exact ⟨Nat.zero_le _, Nat.zero_le _⟩) (by have := hTI.tsl; omega) (by have := hTI.dsl; omega)
              have hst : ∀ e ∈ sortF (fun x : Tx => x.id) (anR M).ts, e.st = 2 := fun e he => HMT.out e (hp1.mem_iff.1 he)
              have hdd := HMD.out
              have hvl : (sortF (fun x : Tx => x.id) (anR M).ts).length ≤ 19 := by have := hTI.tsl; omega
              have hel : (sortF (fun x : Dy => x.page) (anR M).ds).length ≤ 19 := by have := hTI.dsl; omega
              rw [← hl1, ← hl2] at AN
              rw [← hl2] at hdd
              generalize sortF (fun x : Tx => x.id) (anR M).ts = VS at *
              generalize sortF (fun x : Dy => x.page) (anR M).ds = ES at *
              generalize (anR M).n = an2 at *
              have hIT : IAt wG (some ⟨G, 0, none⟩) tp := by
                have h := HRW.out
                have h2 : wG.ownsRow wF.heap.size 3 1 (.slice (some ⟨G, 0, none⟩) tp.length 4) tp.length (cellsF iF tp) := by rw [htp]; exact h
                obtain ⟨oa, c, e, hat, _⟩ := own_at iE h2
                cases e
                exact hat
              have UN : Hid (∀ W ov cv, Gr wG W → TAt W ov VS → Calls Try.prog 15 #[.slice oL M.length cL, .slice ov VS.length cv] W fun e w' => ∃ oa, e = .returned (.slice oa 0 0) ∧ Gr W w') := hid (fun W ov cv hW hT => by
                refine (undo_any oL cL M ov cv VS W (by omega) (HLM.out.keep (hg.trans hW)) (fun x hx => by have := (HMBL.out x hx).1; omega) (by omega) hT (by rw [loser_nil VS hst]; exact Nat.zero_le _)).mono ?_
                rintro e w' ⟨oa, zs, rfl, _, _, _, hg⟩
                rw [done_nil M VS hst]
                exact ⟨oa, rfl, hg⟩)
              have RD : Hid (∀ gp W oe ce, Gr wG W → DAt W oe ES → W.cell? ⟨gp, 0, none⟩ = some (.slice (some ⟨G, 0, none⟩) 4 4) → Calls Try.prog 11 #[.slice oL M.length cL, .slice oe ES.length ce, .func (.func 35) #[] #[.pointer (some ⟨gp, 0, none⟩)]] W fun e w' => ∃ oa, e = .returned (.slice oa 0 0) ∧ Gr W w') := hid (fun gp W oe ce hW hE hc => by
                cases ES with
                | nil =>
                  refine (redo_empty _ oL cL M.length oe ce W).mono ?_
                  rintro e w' ⟨rfl, hg⟩
                  exact ⟨none, rfl, hg⟩
                | cons d0 dr =>
                  refine (redo_fun oL cL M oe ce d0 dr W (by omega) (HLM.out.keep (hg.trans hW)) (by simp only [List.length_cons] at hel ⊢; omega) hE (fun x hx => by
                    have h1 := (HMG.out x hx).page
                    obtain ⟨j, hj, rfl⟩ := List.getElem_of_mem hx
                    have h2 := HMS.out j hj
                    exact ⟨okI_of (by omega), okI_of (by omega)⟩) (some ⟨G, 0, none⟩) 4 tp gp (by omega) (fun v hv => okI_of (by have := HBD.out v hv; omega)) (hIT.keep hW) (by rw [htp]; exact hc)).mono ?_
                  rintro e w' ⟨oa, rfl, _, hg⟩
                  rw [redo_none hsee]
                  exact ⟨oa, rfl, hg⟩)
              have HAN := hid AN
              have HST := hid hst
              have HDD := hid hdd
              have HG1 := hid (HUP.out.trans hg)
              clear hML AN hst hdd hsee hp1 hp2 hl1 hl2 hTI hIT HRW HSEE HBD HMG HMS HMT HMD HLM HMBL hg HUP hel htp
              go_wp2_with fail
              refine HAN.out.mono ?_
              rintro e wH ⟨ov, cv, oe, ce, rfl, hV, hE, hgH⟩
              have HV := hid hV
              have HE := hid hE
              have S0 : Hid (T6d wH VS.length (.int .i64 0) wH) := hid ⟨0, rfl, Nat.zero_le _, Gr.refl _⟩
              have HG2 := hid hgH
              clear HAN hV hE hgH
              go_wp2_with fail
              go_loopw [19] (fun s19 wr => T6d wH VS.length s19 wr) (fun s19 _ => VS.length - (intOf s19).toNat)
              case atStart => exact S0.out
              case round =>
                clear S0
                obtain ⟨i, rfl, hi, hg⟩ := hrel
                by_cases hlt : i < VS.length
                · obtain ⟨b, off, rfl, -, -, c2⟩ := t_get (HV.out.keep hg) i hlt
                  have hbb := lt_of_cell c2
                  have h2 := HST.out _ (List.getElem_mem hlt)
                  rw [h2] at c2
                  have g1 : decide ((VS.length : Int) ≤ (i : Int)) = false := by rw [decide_eq_false_iff_not]; omega
                  have g2 : (i : Int) < (VS.length : Int) := by omega
                  have g3 : (0 : Int) ≤ (i : Int) := by omega
                  have FI : Hid (T6d wH VS.length (.int .i64 ((i : Int) + 1)) wr) := hid ⟨i + 1, by go_num, by omega, hg⟩
                  clear h2
                  go_wp2
                  exact ⟨FI.out, by simp [intOf]; omega⟩
                · obtain rfl : i = VS.length := by omega
                  have g1 : decide ((VS.length : Int) ≤ (VS.length : Int)) = true := by rw [decide_eq_true_iff]; omega
                  have gd : decide ((dl : Int) ≤ (ES.length : Int)) = true := by have := HDD.out; rw [decide_eq_true_iff]; omega
                  have gd2 : decide (dl ≤ ES.length) = true := by have := HDD.out; rw [decide_eq_true_iff]; omega
                  have HG3 := hid (HG2.out.trans hg)
                  have HE := hid (HE.out.keep hg)
                  have U3 := UN.out _ ov cv HG3.out (HV.out.keep hg)
                  clear UN HV hg
                  go_wp2_with fail
                  refine U3.mono ?_
                  rintro e w5 ⟨oa5, rfl, hg5⟩
                  go_wp2_with fail
                  refine (lsns_make (some ⟨G, 0, none⟩) 4 4 _).mono ?_
                  rintro e w6 ⟨gp, rfl, hgp, hg6⟩
                  have R6 := RD.out gp w6 oe ce ((HG3.out.trans hg5).trans hg6) (HE.out.keep (hg5.trans hg6)) hgp
                  have HG6 := hid ((HG3.out.trans hg5).trans hg6)
                  clear RD U3 hgp hg5 hg6 HE
                  go_wp2_with fail
                  refine R6.mono ?_
                  rintro e w7 ⟨oa7, rfl, hg7⟩
                  have HG7 := hid (HG6.out.trans hg7)
                  clear R6 hg7
                  go_wp2_with fail
                  refine (awake_any _).mono ?_
                  rintro e w8 ⟨rfl, hg8⟩
                  go_wp2
                  go_ret
                  exact ⟨rfl, (HG1.out.trans HG7.out).trans hg8⟩
end Go.Proofs.Ytmanokhadppeeaa

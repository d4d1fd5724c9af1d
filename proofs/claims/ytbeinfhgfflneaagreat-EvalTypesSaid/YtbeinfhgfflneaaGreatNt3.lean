/- Texts of this claim, put together: walks of functions and plain laws, of no condition. -/
import Derived.Test.YtbeinfhgfflneaaGreatNt2
import Derived.ArgAppend
import Derived.Laws.Tables
section
namespace Go.Proofs.YtbeinfhgfflneaaGreat
open Go.RowKit
set_option linter.unusedSimpArgs false
set_option linter.unusedVariables false
attribute [local go_sem] Rg.leads_value Rg.leads_skip Rg.leads_enter Rg.brings_value Rg.brings_skip Rg.brings_enter Rg.bringsG_value Rg.bringsG_enter Rg.once_normal Rg.once_exit Rg.once_ret Rg.once_panic Rg.once_goto Rg.bringsS_value Rg.bringsS_skip Rg.bringsS_enter Rg.still_value Rg.still_skip Rg.still_enter
theorem rowN {w : World} {rs : List XR} {g : Nat} {cs : Array Value} {T : TypeId} (h : w.heap[g]? = some (.cells cs T (0, 0))) (hcs : cs.toList = cellsF xF rs) : RowF xF 12 w g 0 rs := by
  intro k hk j u hu
  have hj : j < 12 := by rw [← xE.len rs[k]]; exact (List.getElem?_eq_some_iff.1 hu).1
  rw [Rg.blk_cells h, Nat.zero_add, ← Array.getElem?_toList, hcs, xE.cells_get rs k hk j hj]
  exact hu
theorem XRow.mk' {S : Nat → Prop} {w : World} {g : Nat} {rs : List XR} {cs : Array Value} {T : TypeId} (h : w.heap[g]? = some (.cells cs T (0, 0))) (hS : S g) (hr : RowF xF 12 w g 0 rs) : XRow S w (some ⟨g, 0, none⟩) rs := .inr ⟨g, 0, rfl, (Array.getElem?_eq_some_iff.1 h).1, hS, Rg.blk_free h, hr⟩
theorem formN {S : Nat → Prop} {w : World} {hd : Hd} {g cap : Nat} {rs : List XR} {ys : List Ex} {cs : Array Value} {T : TypeId} (hS : S g) (h : w.heap[g]? = some (.cells cs T (0, 0))) (hcs : cs.toList = cellsF xF rs) (hy : Exs.At S w ys rs) (hc : Fit rs.length cap) : Ex.At S w (.mk hd ys) ⟨hd, some ⟨g, 0, none⟩, rs.length, cap⟩ := by
  rw [Ex.At.list]
  exact ⟨rfl, hy.len, hc, rs, hy.len, XRow.mk' h hS (rowN h hcs), hy⟩
theorem formZ {S : Nat → Prop} {w : World} {hd : Hd} : Ex.At S w (.mk hd []) ⟨hd, none, 0, 0⟩ := by
  rw [Ex.At.list]
  exact ⟨rfl, rfl, fit_le 0 (by decide), [], rfl, .inl rfl, Exs.At.nil⟩
theorem ahead_no {k : Nat} {c : ByteArray} {op : Int} {q : Pa Ex} {s : Ps} (h : s.is k c = false) (n : Nat) : ahead k c op q n s = q s := by
  cases n with
  | zero => rfl
  | succ n => unfold ahead; rw [h]; rfl
theorem ahead_yes {k : Nat} {c : ByteArray} {op : Int} {q : Pa Ex} {s : Ps} (hk : k ≠ 5) (h : s.is k c = true) (hd : s.down.good = true) : ahead k c op q s.size s = (let q := ahead k c op q s.down.step.size s.down.step; (tre op [q.1], q.2.up)) := by
  have h1 := (is_step h hk).1
  cases hz : s.size with
  | zero => omega
  | succ j =>
    conv => lhs; unfold ahead
    rw [h, hd]
    simp only [if_true]
    obtain ⟨d1, d2, d3, d4⟩ := down_good hd
    have := (is_step (s := s.down) (k := k) (c := c) (by rw [d4]; exact h) hk).1
    rw [ahead_fuel hk j s.down.step (by omega)]
theorem ahead_full {k : Nat} {c : ByteArray} {op : Int} {q : Pa Ex} {s : Ps} (hk : k ≠ 5) (h : s.is k c = true) (hd : s.down.good = false) : ahead k c op q s.size s = (noEx, s.down) := by
  have h1 := (is_step h hk).1
  cases hz : s.size with
  | zero => omega
  | succ j =>
    conv => lhs; unfold ahead
    rw [h, hd]
    rfl
set_option maxHeartbeats 4000000 in
set_option maxRecDepth 100000 in
theorem not_0 (q : Pa Ex) (p N : Nat) (hq : Rd 87 q p N) (s : Ps) (w : World) (hS : PS p w s) (hsN : s.size ≤ N) (hB : s.is 1 ⟨#[110, 111, 116]⟩ = false) : Calls Tryz.prog 65 #[.pointer (some ⟨p, 0, none⟩)] w (Px p w (nots q s)) := by
  have hpw := hS.lt
  have hG := fun o => (Gr.refl w).alloc o
  have hS0 := fun o => hS.keep (hG o)
  have e1 : nots q s = q s := ahead_no hB _
  rw [e1]
  go_enter Tryz.func65, Tryz.ntmps65
  go_wp2_with fail
  refine (is1_any p ⟨#[110, 111, 116]⟩ s _ (hS0 _)).mono ?_
  rintro e w1 ⟨rfl, rfl⟩
  rw [hB]
  go_wp2_with fail
  refine (hq s _ (hS0 _) hsN).mono ?_
  rintro e w2 ⟨u, rfl, r, x, rfl, hx, hps, hgo, hgd⟩
  have hz2 := hgo.size
  simp only [World.size_alloc] at hz2
  have h02 : w2.heap[w.heap.size]? = _ := (hgo.get (by simp) (by omega)).trans (alloc_at _ _)
  have FI := hid (give hpw rfl (hx.mono (S' := fun b => w.heap.size ≤ b ∧ b ≠ w.heap.size) (fun b hb hs => by simp only [Nw, World.size_alloc] at hs; exact ⟨by omega, by omega⟩)) hps ((Go1.of (hG _)).trans hgo) hgd)
  have c0 := Rg.blk_cells h02
  have f0 := Rg.blk_free h02
  clear hx hps hgo hgd hS0 hG
  unfold XR.val
  go_wp2
  (try change bodyPost _ _ _ _ _ _)
  generalize hW5 : World.setCell _ _ _ = W5
  have hT := cells12 h02 hW5
  have hF := Rx.at12 FI.out hW5
  clear hW5 h02 FI
  refine bodyPost_ret (v := XR.val r) (by simp [results, Tryz.results65, go_sem, XR.val, nul, hT]; try rfl) rfl ⟨_, rfl, hF⟩
set_option maxHeartbeats 4000000 in
set_option maxRecDepth 100000 in
theorem not_full (q : Pa Ex) (p : Nat) (s : Ps) (w : World) (hS : PS p w s) (hB : s.is 1 ⟨#[110, 111, 116]⟩ = true) (hD : s.down.good = false) : Calls Tryz.prog 65 #[.pointer (some ⟨p, 0, none⟩)] w (Px p w (nots q s)) := by
  have hpw := hS.lt
  have hG := fun o => (Gr.refl w).alloc o
  have hS0 := fun o => hS.keep (hG o)
  have e1 : nots q s = (noEx, s.down) := ahead_full (by decide) hB hD
  rw [e1]
  obtain ⟨_, _, hgood⟩ := is_step hB (by decide)
  go_enter Tryz.func65, Tryz.ntmps65
  go_wp2_with fail
  refine (is1_any p ⟨#[110, 111, 116]⟩ s _ (hS0 _)).mono ?_
  rintro e w1 ⟨rfl, rfl⟩
  rw [hB]
  go_wp2_with fail
  refine (down_any p s _ (hS0 _) hgood).mono ?_
  rintro e w2 ⟨rfl, hps, hgo⟩
  rw [hD]
  have hz2 := hgo.size
  simp only [World.size_alloc] at hz2
  have h02 : w2.heap[w.heap.size]? = _ := (hgo.get (by simp) (by omega)).trans (alloc_at _ _)
  have FI : Hid (∀ b0 b1 b2 b3 b4 b5 b6 b7 b8 b9 b10 b11, Rx p w (noEx, s.down) (XR.val ⟨{ op := 0 }, none, 0, 0⟩) _) := hid (give hpw rfl (formZ (S := fun b => w.heap.size ≤ b ∧ b ≠ w.heap.size)) hps ((Go1.of (hG _)).trans hgo) (fun _ => rfl))
  have c0 := Rg.blk_cells h02
  have f0 := Rg.blk_free h02
  clear hps hgo hS0 hG
  go_wp2
  (try change bodyPost _ _ _ _ _ _)
  generalize hW5 : World.setCell _ _ _ = W5
  have hT := cells12 h02 hW5
  have hF := Rx.at12 FI.out hW5
  clear hW5 h02 FI
  refine bodyPost_ret (v := XR.val ⟨{ op := 0 }, none, 0, 0⟩) (by simp [results, Tryz.results65, go_sem, XR.val, nul, hT]; try rfl) rfl ⟨_, rfl, hF⟩
set_option maxHeartbeats 4000000 in
set_option maxRecDepth 100000 in
theorem not_1 (q : Pa Ex) (hdp : DP q) (p : Nat) (s : Ps) (w : World) (hS : PS p w s) (hB : s.is 1 ⟨#[110, 111, 116]⟩ = true) (hD : s.down.good = true) (hrec : ∀ w', PS p w' s.down.step → Calls Tryz.prog 65 #[.pointer (some ⟨p, 0, none⟩)] w' (Px p w' (nots q s.down.step))) : Calls Tryz.prog 65 #[.pointer (some ⟨p, 0, none⟩)] w (Px p w (nots q s)) := by
  have hpw := hS.lt
  have hG := fun o => (Gr.refl w).alloc o
  have hS0 := fun o => hS.keep (hG o)
  have e1 : nots q s = (tre 8 [(nots q s.down.step).1], (nots q s.down.step).2.up) := ahead_yes (by decide) hB hD
  rw [e1]
  obtain ⟨d1, d2, d3, d4⟩ := down_good hD
  have hup : Hid (∀ l d, (nots q s.down.step).2 = .ok l d → 1 ≤ d) := hid (down_deep hD (As.trans (dp_ahead hdp s.down.step.size s.down.step : As s.down.step (nots q s.down.step).2) (as_step s.down))).1
  obtain ⟨_, _, hgood⟩ := is_step hB (by decide)
  have hk5 : s.down.headK ≠ 5 := by rw [(is_head (s := s.down) (k := 1) (c := ⟨#[110, 111, 116]⟩) (by rw [d4]; exact hB)).2.1]; decide
  generalize hQ : nots q s.down.step = Q at *
  go_enter Tryz.func65, Tryz.ntmps65
  go_wp2_with fail
  refine (is1_any p ⟨#[110, 111, 116]⟩ s _ (hS0 _)).mono ?_
  rintro e w1 ⟨rfl, rfl⟩
  rw [hB]
  go_wp2_with fail
  refine (down_any p s _ (hS0 _) hgood).mono ?_
  rintro e w2 ⟨rfl, hps, hgo2⟩
  rw [hD]
  go_wp2_with fail
  refine (step_any p s.down _ hps hk5 hD).mono ?_
  rintro e w3 ⟨rfl, hps3, hgo3⟩
  go_wp2_with fail
  refine (hrec _ hps3).mono ?_
  rintro e w4 ⟨u, rfl, r, x, rfl, hx, hps4, hgo4, hgd⟩
  unfold XR.val
  go_wp2_with fail
  refine (tree_any _ _ _ _ _).mono ?_
  rintro e w5 ⟨rfl, hg5⟩
  unfold XR.val
  have hG4 := fun o => (Gr.refl w4).alloc o
  have hG5 := fun o => (Gr.refl w5).alloc o
  have z2 := hgo2.size
  have z3 := hgo3.size
  have z4 := hgo4.size
  have z5 := hg5.size
  simp only [World.size_alloc] at z2 z5
  have hps5 := fun o => ((hps4.keep (hG4 _)).keep hg5).keep (hG5 o)
  go_wp2_with fail
  refine (up_any p _ _ (hps5 _) hup.out).mono ?_
  rintro e w6 ⟨rfl, hps6, hgo6⟩
  have z6 := hgo6.size
  simp only [World.size_alloc] at z6
  have h06 : w6.heap[w.heap.size]? = some (.cells zeroX 26) := by
    rw [hgo6.get (by simp; omega) (by omega), (hG5 _).block _ (by omega), hg5.block _ (by simp; omega), (hG4 _).block _ (by omega), hgo4.get (by omega) (by omega), hgo3.get (by omega) (by omega), hgo2.get (by simp) (by omega)]
    exact alloc_at _ _
  have hr6 : w6.heap[w4.heap.size]? = some (.cells (XR.cells r) 26) := by
    rw [hgo6.get (by simp; omega) (by omega), (hG5 _).block _ (by omega), hg5.block _ (by simp)]
    exact alloc_at _ _
  have hE6 : w6.heap[w5.heap.size]? = some (.cells (XR.cells ⟨{ op := 8 }, some ⟨w4.heap.size, 0, none⟩, 1, 1⟩) 26) := by
    rw [hgo6.get (by simp) (by omega)]
    exact alloc_at _ _
  have hxx : Ex.At (fun b => w.heap.size ≤ b ∧ b ≠ w.heap.size) w6 (tre 8 [x]) ⟨{ op := 8 }, some ⟨w4.heap.size, 0, none⟩, 1, 1⟩ := by
    refine formN (rs := [r]) ⟨by omega, by omega⟩ hr6 (by simp [cellsF, xF]) (Exs.At.cons ?_ Exs.At.nil) (fit_le _ (by simp))
    refine (hx.of (by omega) (fun b hb hl => ?_)).mono (fun b _ hb => ?_)
    · rw [hgo6.get (by simp; omega) (by have : w3.heap.size ≤ b := hb; omega), (hG5 _).block _ (by omega), hg5.block _ (by simp; omega), (hG4 _).block _ hl]
    · have : w3.heap.size ≤ b := hb
      exact ⟨by omega, by omega⟩
  have hgo : Go1 p w w6 := ((((((Go1.of (hG _)).trans hgo2).trans hgo3).trans hgo4).block2 (hG4 _)).block2 hg5).block2 (hG5 _) |>.trans hgo6
  have FI := hid (give hpw rfl hxx (R := (tre 8 [Q.1], Q.2.up)) hps6 hgo (fun h => by
    have : Q.2.good = true := by cases hq2 : Q.2 with
      | ok l d => rfl
      | bad e a => rw [hq2] at h; cases h
    show tre 8 [x] = tre 8 [Q.1]
    rw [hgd this]))
  have c6 := Rg.blk_cells h06
  have f6 := Rg.blk_free h06
  have cE := Rg.blk_cells hE6
  simp only [XR.cells] at cE
  clear hps hps3 hps4 hps5 hps6 hgo2 hgo3 hgo4 hg5 hgo6 hgo hxx hx hgd hG hG4 hG5 hS0 hr6 hE6 hrec
  go_wp2
  (try change bodyPost _ _ _ _ _ _)
  generalize hW5 : World.setCell _ _ _ = W5
  have hT := cells12 h06 hW5
  have hF := Rx.at12 FI.out hW5
  clear hW5 h06 FI
  refine bodyPost_ret (v := XR.val ⟨{ op := 8 }, some ⟨w4.heap.size, 0, none⟩, 1, 1⟩) (by simp [results, Tryz.results65, go_sem, XR.val, nul, hT]; try rfl) rfl ⟨_, rfl, hF⟩
theorem not_any (q : Pa Ex) (p N : Nat) (hq : Rd 87 q p N) (hdp : DP q) : ∀ M, M ≤ N → Rd 65 (nots q) p M
  | 0, hM => fun s w hS hs => not_0 q p N hq s w hS (by omega) (by
      cases hB : s.is 1 ⟨#[110, 111, 116]⟩ with
      | false => rfl
      | true => have := (is_step hB (by decide)).1; omega)
  | M + 1, hM => fun s w hS hs => by
    cases hB : s.is 1 ⟨#[110, 111, 116]⟩ with
    | false => exact not_0 q p N hq s w hS (by omega) hB
    | true =>
      cases hD : s.down.good with
      | false => exact not_full q p s w hS hB hD
      | true =>
        refine not_1 q hdp p s w hS hB hD (fun w' hS' => not_any q p N hq hdp M (by omega) _ _ hS' ?_)
        obtain ⟨d1, d2, d3, d4⟩ := down_good hD
        have := (is_step (s := s.down) (k := 1) (c := ⟨#[110, 111, 116]⟩) (by rw [d4]; exact hB) (by decide)).1
        omega
set_option maxHeartbeats 4000000 in
set_option maxRecDepth 100000 in
theorem minus_0 (q : Pa Ex) (p N : Nat) (hq : Rd 130 q p N) (s : Ps) (w : World) (hS : PS p w s) (hsN : s.size ≤ N) (hB : s.is 4 ⟨#[45]⟩ = false) : Calls Tryz.prog 128 #[.pointer (some ⟨p, 0, none⟩)] w (Px p w (minuses q s)) := by
  have hpw := hS.lt
  have hG := fun o => (Gr.refl w).alloc o
  have hS0 := fun o => hS.keep (hG o)
  have e1 : minuses q s = q s := ahead_no hB _
  rw [e1]
  go_enter Tryz.func128, Tryz.ntmps128
  go_wp2_with fail
  refine (is4_any p ⟨#[45]⟩ s _ (hS0 _)).mono ?_
  rintro e w1 ⟨rfl, rfl⟩
  rw [hB]
  go_wp2_with fail
  refine (hq s _ (hS0 _) hsN).mono ?_
  rintro e w2 ⟨u, rfl, r, x, rfl, hx, hps, hgo, hgd⟩
  have hz2 := hgo.size
  simp only [World.size_alloc] at hz2
  have h02 : w2.heap[w.heap.size]? = _ := (hgo.get (by simp) (by omega)).trans (alloc_at _ _)
  have FI := hid (give hpw rfl (hx.mono (S' := fun b => w.heap.size ≤ b ∧ b ≠ w.heap.size) (fun b hb hs => by simp only [Nw, World.size_alloc] at hs; exact ⟨by omega, by omega⟩)) hps ((Go1.of (hG _)).trans hgo) hgd)
  have c0 := Rg.blk_cells h02
  have f0 := Rg.blk_free h02
  clear hx hps hgo hgd hS0 hG
  unfold XR.val
  go_wp2
  (try change bodyPost _ _ _ _ _ _)
  generalize hW5 : World.setCell _ _ _ = W5
  have hT := cells12 h02 hW5
  have hF := Rx.at12 FI.out hW5
  clear hW5 h02 FI
  refine bodyPost_ret (v := XR.val r) (by simp [results, Tryz.results128, go_sem, XR.val, nul, hT]; try rfl) rfl ⟨_, rfl, hF⟩
set_option maxHeartbeats 4000000 in
set_option maxRecDepth 100000 in
theorem minus_full (q : Pa Ex) (p : Nat) (s : Ps) (w : World) (hS : PS p w s) (hB : s.is 4 ⟨#[45]⟩ = true) (hD : s.down.good = false) : Calls Tryz.prog 128 #[.pointer (some ⟨p, 0, none⟩)] w (Px p w (minuses q s)) := by
  have hpw := hS.lt
  have hG := fun o => (Gr.refl w).alloc o
  have hS0 := fun o => hS.keep (hG o)
  have e1 : minuses q s = (noEx, s.down) := ahead_full (by decide) hB hD
  rw [e1]
  obtain ⟨_, _, hgood⟩ := is_step hB (by decide)
  go_enter Tryz.func128, Tryz.ntmps128
  go_wp2_with fail
  refine (is4_any p ⟨#[45]⟩ s _ (hS0 _)).mono ?_
  rintro e w1 ⟨rfl, rfl⟩
  rw [hB]
  go_wp2_with fail
  refine (down_any p s _ (hS0 _) hgood).mono ?_
  rintro e w2 ⟨rfl, hps, hgo⟩
  rw [hD]
  have hz2 := hgo.size
  simp only [World.size_alloc] at hz2
  have h02 : w2.heap[w.heap.size]? = _ := (hgo.get (by simp) (by omega)).trans (alloc_at _ _)
  have FI : Hid (∀ b0 b1 b2 b3 b4 b5 b6 b7 b8 b9 b10 b11, Rx p w (noEx, s.down) (XR.val ⟨{ op := 0 }, none, 0, 0⟩) _) := hid (give hpw rfl (formZ (S := fun b => w.heap.size ≤ b ∧ b ≠ w.heap.size)) hps ((Go1.of (hG _)).trans hgo) (fun _ => rfl))
  have c0 := Rg.blk_cells h02
  have f0 := Rg.blk_free h02
  clear hps hgo hS0 hG
  go_wp2
  (try change bodyPost _ _ _ _ _ _)
  generalize hW5 : World.setCell _ _ _ = W5
  have hT := cells12 h02 hW5
  have hF := Rx.at12 FI.out hW5
  clear hW5 h02 FI
  refine bodyPost_ret (v := XR.val ⟨{ op := 0 }, none, 0, 0⟩) (by simp [results, Tryz.results128, go_sem, XR.val, nul, hT]; try rfl) rfl ⟨_, rfl, hF⟩
set_option maxHeartbeats 4000000 in
set_option maxRecDepth 100000 in
theorem minus_1 (q : Pa Ex) (hdp : DP q) (p : Nat) (s : Ps) (w : World) (hS : PS p w s) (hB : s.is 4 ⟨#[45]⟩ = true) (hD : s.down.good = true) (hrec : ∀ w', PS p w' s.down.step → Calls Tryz.prog 128 #[.pointer (some ⟨p, 0, none⟩)] w' (Px p w' (minuses q s.down.step))) : Calls Tryz.prog 128 #[.pointer (some ⟨p, 0, none⟩)] w (Px p w (minuses q s)) := by
  have hpw := hS.lt
  have hG := fun o => (Gr.refl w).alloc o
  have hS0 := fun o => hS.keep (hG o)
  have e1 : minuses q s = (tre 24 [(minuses q s.down.step).1], (minuses q s.down.step).2.up) := ahead_yes (by decide) hB hD
  rw [e1]
  obtain ⟨d1, d2, d3, d4⟩ := down_good hD
  have hup : Hid (∀ l d, (minuses q s.down.step).2 = .ok l d → 1 ≤ d) := hid (down_deep hD (As.trans (dp_ahead hdp s.down.step.size s.down.step : As s.down.step (minuses q s.down.step).2) (as_step s.down))).1
  obtain ⟨_, _, hgood⟩ := is_step hB (by decide)
  have hk5 : s.down.headK ≠ 5 := by rw [(is_head (s := s.down) (k := 4) (c := ⟨#[45]⟩) (by rw [d4]; exact hB)).2.1]; decide
  generalize hQ : minuses q s.down.step = Q at *
  go_enter Tryz.func128, Tryz.ntmps128
  go_wp2_with fail
  refine (is4_any p ⟨#[45]⟩ s _ (hS0 _)).mono ?_
  rintro e w1 ⟨rfl, rfl⟩
  rw [hB]
  go_wp2_with fail
  refine (down_any p s _ (hS0 _) hgood).mono ?_
  rintro e w2 ⟨rfl, hps, hgo2⟩
  rw [hD]
  go_wp2_with fail
  refine (step_any p s.down _ hps hk5 hD).mono ?_
  rintro e w3 ⟨rfl, hps3, hgo3⟩
  go_wp2_with fail
  refine (hrec _ hps3).mono ?_
  rintro e w4 ⟨u, rfl, r, x, rfl, hx, hps4, hgo4, hgd⟩
  unfold XR.val
  go_wp2_with fail
  refine (tree_any _ _ _ _ _).mono ?_
  rintro e w5 ⟨rfl, hg5⟩
  unfold XR.val
  have hG4 := fun o => (Gr.refl w4).alloc o
  have hG5 := fun o => (Gr.refl w5).alloc o
  have z2 := hgo2.size
  have z3 := hgo3.size
  have z4 := hgo4.size
  have z5 := hg5.size
  simp only [World.size_alloc] at z2 z5
  have hps5 := fun o => ((hps4.keep (hG4 _)).keep hg5).keep (hG5 o)
  go_wp2_with fail
  refine (up_any p _ _ (hps5 _) hup.out).mono ?_
  rintro e w6 ⟨rfl, hps6, hgo6⟩
  have z6 := hgo6.size
  simp only [World.size_alloc] at z6
  have h06 : w6.heap[w.heap.size]? = some (.cells zeroX 26) := by
    rw [hgo6.get (by simp; omega) (by omega), (hG5 _).block _ (by omega), hg5.block _ (by simp; omega), (hG4 _).block _ (by omega), hgo4.get (by omega) (by omega), hgo3.get (by omega) (by omega), hgo2.get (by simp) (by omega)]
    exact alloc_at _ _
  have hr6 : w6.heap[w4.heap.size]? = some (.cells (XR.cells r) 26) := by
    rw [hgo6.get (by simp; omega) (by omega), (hG5 _).block _ (by omega), hg5.block _ (by simp)]
    exact alloc_at _ _
  have hE6 : w6.heap[w5.heap.size]? = some (.cells (XR.cells ⟨{ op := 24 }, some ⟨w4.heap.size, 0, none⟩, 1, 1⟩) 26) := by
    rw [hgo6.get (by simp) (by omega)]
    exact alloc_at _ _
  have hxx : Ex.At (fun b => w.heap.size ≤ b ∧ b ≠ w.heap.size) w6 (tre 24 [x]) ⟨{ op := 24 }, some ⟨w4.heap.size, 0, none⟩, 1, 1⟩ := by
    refine formN (rs := [r]) ⟨by omega, by omega⟩ hr6 (by simp [cellsF, xF]) (Exs.At.cons ?_ Exs.At.nil) (fit_le _ (by simp))
    refine (hx.of (by omega) (fun b hb hl => ?_)).mono (fun b _ hb => ?_)
    · rw [hgo6.get (by simp; omega) (by have : w3.heap.size ≤ b := hb; omega), (hG5 _).block _ (by omega), hg5.block _ (by simp; omega), (hG4 _).block _ hl]
    · have : w3.heap.size ≤ b := hb
      exact ⟨by omega, by omega⟩
  have hgo : Go1 p w w6 := ((((((Go1.of (hG _)).trans hgo2).trans hgo3).trans hgo4).block2 (hG4 _)).block2 hg5).block2 (hG5 _) |>.trans hgo6
  have FI := hid (give hpw rfl hxx (R := (tre 24 [Q.1], Q.2.up)) hps6 hgo (fun h => by
    have : Q.2.good = true := by cases hq2 : Q.2 with
      | ok l d => rfl
      | bad e a => rw [hq2] at h; cases h
    show tre 24 [x] = tre 24 [Q.1]
    rw [hgd this]))
  have c6 := Rg.blk_cells h06
  have f6 := Rg.blk_free h06
  have cE := Rg.blk_cells hE6
  simp only [XR.cells] at cE
  clear hps hps3 hps4 hps5 hps6 hgo2 hgo3 hgo4 hg5 hgo6 hgo hxx hx hgd hG hG4 hG5 hS0 hr6 hE6 hrec
  go_wp2
  (try change bodyPost _ _ _ _ _ _)
  generalize hW5 : World.setCell _ _ _ = W5
  have hT := cells12 h06 hW5
  have hF := Rx.at12 FI.out hW5
  clear hW5 h06 FI
  refine bodyPost_ret (v := XR.val ⟨{ op := 24 }, some ⟨w4.heap.size, 0, none⟩, 1, 1⟩) (by simp [results, Tryz.results128, go_sem, XR.val, nul, hT]; try rfl) rfl ⟨_, rfl, hF⟩
theorem minus_any (q : Pa Ex) (p N : Nat) (hq : Rd 130 q p N) (hdp : DP q) : ∀ M, M ≤ N → Rd 128 (minuses q) p M
  | 0, hM => fun s w hS hs => minus_0 q p N hq s w hS (by omega) (by
      cases hB : s.is 4 ⟨#[45]⟩ with
      | false => rfl
      | true => have := (is_step hB (by decide)).1; omega)
  | M + 1, hM => fun s w hS hs => by
    cases hB : s.is 4 ⟨#[45]⟩ with
    | false => exact minus_0 q p N hq s w hS (by omega) hB
    | true =>
      cases hD : s.down.good with
      | false => exact minus_full q p s w hS hB hD
      | true =>
        refine minus_1 q hdp p s w hS hB hD (fun w' hS' => minus_any q p N hq hdp M (by omega) _ _ hS' ?_)
        obtain ⟨d1, d2, d3, d4⟩ := down_good hD
        have := (is_step (s := s.down) (k := 4) (c := ⟨#[45]⟩) (by rw [d4]; exact hB) (by decide)).1
        omega
end Go.Proofs.YtbeinfhgfflneaaGreat
end
section
namespace Go.Proofs.YtbeinfhgfflneaaGreat
open Go.RowKit
set_option linter.unusedVariables false
def Moved (v : Value) (w : World) (v' : Value) : Prop := v'.ownBlock = v.ownBlock ∨ ∀ g, v'.ownBlock = some g → w.heap.size ≤ g
theorem append_one {P : Program} (w : World) {ops : Array Oper} {rest : List Oper} {o : Oper} {a : Act} {Q : Exit → Act → World → Prop}
    (hg : o.guard = none) (s x : Operand) (t : TypeId) (hop : o.op = Op.call { callee := Callee.builtin Builtin.append, args := #[s, x], argTypes := #[t, t] })
    (base : Nat) (e : TypeId) (i : TypeInfo) (z : Value) (size bytes : Nat) (h1 : P.underlying t = some (.slice e)) (h2 : P.info? e = some i) (h3 : i.zero = some z) (h4 : i.size = size) (h5 : i.bytes = bytes) (h6 : z.cells.size = size) (h7 : 0 < size)
    (v : Value) (k : Nat) (xs : List Value) (hs : a.eval s = v) (hown : w.ownsRow base e size v k xs) (ad : Addr) (c : Nat) (news : List Value) (hx : a.eval x = .slice (some ad) 1 c) (hn : news.length = size)
    (hc : ∀ j u, news[j]? = some u → w.cell? (ad.add j) = some u) (h1c : ∀ u ∈ news, u.oneCell' = true) (b1 : k + 1 ≤ maxLen) (b2 : (k + 1) * bytes ≤ 140737488355328) (b3 : base ≤ w.heap.size)
    (hK : ∀ v' w', w'.ownsRow base e size v' (k + 1) (xs ++ news) → Gz v w w' → Moved v w v' → wpList P ops Q rest (a.put o.dst v') w') :
    wpList P ops Q (o :: rest) a w := by
  have hn' : news.length = 1 * size := by rw [hn, Nat.one_mul]
  have weak : ∀ {w' : World}, w.grownBy w' none → Gz v w w' := fun h => ⟨h.os, h.tape, h.output, h.size, fun i hi _ => h.block i hi (by simp)⟩
  rcases hown.2 with ⟨rfl, h0⟩ | ⟨g, cap, cur, rfl, hb, hgh, hkc, hcm, hcs, htk⟩
  · subst h0
    refine wpList_append_grows w hg s x t hop e i z size bytes h1 h2 h3 h4 h5 h6 h7 none 0 0 [] hs (fun _ => ⟨rfl, rfl⟩) (by simp) (fun b hb => by cases hb) ad 1 c news hx hn' hc h1c (by omega) b1 b2 ?_
    intro v' w' r1 r2
    have hxs : xs = [] := List.eq_nil_of_length_eq_zero (by rw [hown.1]; simp)
    subst hxs
    exact hK v' w' (own_mono r1 b3) (weak r2) (.inr fun g e => (World.ownsRow.lt r1 g e).1)
  · by_cases hr : k + 1 ≤ cap
    · refine wpList_append_fits w hg s x t hop base e i size h1 h2 h4 g k cap xs hs hown ad 1 c news hx hn' hc h1c hr ?_
      intro w' r1 r2
      exact hK _ w' r1 r2 (.inl rfl)
    · refine wpList_append_grows w hg s x t hop e i z size bytes h1 h2 h3 h4 h5 h6 h7 (some ⟨g, 0, none⟩) k cap xs hs (fun e => by cases e) hown.1 (fun b hb j u hj => ?_) ad 1 c news hx hn' hc h1c (by omega) b1 b2 ?_
      · cases hb
        exact hown.cells (g := g) rfl j u hj
      · intro v' w' r1 r2
        exact hK v' w' (own_mono r1 b3) (weak r2) (.inr fun g e => (World.ownsRow.lt r1 g e).1)
end Go.Proofs.YtbeinfhgfflneaaGreat
end
section
namespace Go.Proofs.YtbeinfhgfflneaaGreat
open Go.RowKit
set_option linter.unusedSimpArgs false
set_option linter.unusedVariables false
attribute [local go_sem] Rg.leads_value Rg.leads_skip Rg.leads_enter Rg.brings_value Rg.brings_skip Rg.brings_enter Rg.bringsG_value Rg.bringsG_enter Rg.once_normal Rg.once_exit Rg.once_ret Rg.once_panic Rg.once_goto Rg.bringsS_value Rg.bringsS_skip Rg.bringsS_enter Rg.still_value Rg.still_skip Rg.still_enter
theorem own_new {α : Type} {f : α → List Value} {n base : Nat} {e : TypeId} (hE : Enc f n) (w : World) (x : α) (hb : base ≤ w.heap.size) {cs : Array Value} (hcs : cs.toList = f x) : (w.alloc (.cells cs e)).ownsRow base e n (.slice (some ⟨w.heap.size, 0, none⟩) 1 1) [x].length (cellsF f [x]) := by
  have h1 : cellsF f [x] = f x := by simp [cellsF]
  rw [h1]
  refine ⟨by rw [hE.len]; simp, .inr ⟨w.heap.size, 1, cs, rfl, hb, alloc_at _ _, Nat.le_refl _, by decide, ?_, ?_⟩⟩
  · have := congrArg List.length hcs
    rw [hE.len] at this
    simpa using this
  · rw [hcs, List.take_of_length_le (by rw [hE.len]; simp)]
theorem own_go {w w' : World} {base n m p : Nat} {e : TypeId} {v : Value} {zs : List Value} (h : w.ownsRow base e n v m zs) (hg : Go1 p w w') (hp : p < base) : w'.ownsRow base e n v m zs :=
  h.kept hg (.inr (fun e' => by have := (World.ownsRow.lt h p (by simpa using e')).1; omega))
theorem Go1.trans' {p : Nat} {a b c : World} {v : Value} (h : Go1 p a b) (k : Gz v b c) (hE : ∀ g, v.ownBlock = some g → a.heap.size ≤ g) : Go1 p a c :=
  ⟨k.os.trans h.os, k.tape.trans h.tape, k.output.trans h.output, Nat.le_trans h.size k.size, fun i hi hne => (k.block i (Nat.lt_of_lt_of_le hi h.size) (fun e => by have := hE i e.symm; omega)).trans (h.block i hi hne)⟩
def headS (q : Pa Ex) (n : Nat) (l : List Ex) (s : Ps) : List Ex × Ps := if s.is 4 ⟨#[44]⟩ then seps q n l s.step else (l, s)
def SxRel (q : Pa Ex) (p N : Nat) (w : World) (R : List Ex × Ps) (v : Value) (wr : World) : Prop := ∃ rs xs l0 s n, wr.ownsRow w.heap.size 26 12 v (List.length rs) (cellsF xF rs) ∧ 0 < List.length rs ∧
  Exs.At (fun b => w.heap.size ≤ b ∧ v.ownBlock ≠ some b) wr xs rs ∧ (s.good = true → xs = l0) ∧ headS q n l0 s = R ∧ s.size ≤ n ∧ List.length rs + s.size ≤ N + 1 ∧ PS p wr s ∧ Go1 p w wr
theorem SxRel.start {q : Pa Ex} {p N : Nat} {w w1 : World} {s : Ps} {R : List Ex × Ps} {r : XR} {x : Ex} (hpw : p < w.heap.size)
    (hx : Ex.At (Nw w) w1 x r) (hps : PS p w1 (q s).2) (hgo : Go1 p w w1) (hgd : (q s).2.good = true → x = (q s).1) (hn : NI q) (hsN : s.size ≤ N) (hR : sep q s = R) :
    SxRel q p N w R (.slice (some ⟨w1.heap.size, 0, none⟩) 1 1) (w1.alloc (.cells r.cells 26)) := by
  have hz := hgo.size
  have hG := (Gr.refl w1).alloc (.cells r.cells 26)
  refine ⟨[r], [x], [(q s).1], (q s).2, s.size, own_new xE w1 r hz rfl, by simp, Exs.At.cons ?_ Exs.At.nil, fun h => by rw [hgd h], ?_, hn s, ?_, hps.keep hG, hgo.block2 hG⟩
  · refine (hx.mono (fun b hb hs => ?_)).of hG.size (fun b _ hb => hG.block b hb)
    refine ⟨hs, fun e => ?_⟩
    simp [Value.ownBlock] at e
    omega
  · rw [← hR]
    unfold sep
    simp only [seps]
    rfl
  · have := hn s
    simp
    omega
theorem SxRel.next {q : Pa Ex} {p N : Nat} {w : World} {R : List Ex × Ps} {v v' : Value} {wr w2 w3 w5 : World} {rs : List XR} {xs l0 : List Ex} {s : Ps} {n : Nat} {ry : XR} {y : Ex} {cs : Array Value}
    (hpw : p < w.heap.size) (hown : wr.ownsRow w.heap.size 26 12 v rs.length (cellsF xF rs)) (h0 : 0 < rs.length) (hxs : Exs.At (fun b => w.heap.size ≤ b ∧ v.ownBlock ≠ some b) wr xs rs) (hl : s.good = true → xs = l0) (hR : headS q n l0 s = R) (hsn : s.size ≤ n) (hsN : rs.length + s.size ≤ N + 1) (hgo : Go1 p w wr)
    (hB : s.is 4 ⟨#[44]⟩ = true) (hn : NI q) (hg2 : Go1 p wr w2) (hy : Ex.At (Nw w2) w3 y ry) (hps : PS p w3 (q s.step).2) (hg3 : Go1 p w2 w3) (hyg : (q s.step).2.good = true → y = (q s.step).1)
    (hown' : w5.ownsRow w.heap.size 26 12 v' (rs.length + 1) (cellsF xF rs ++ xF ry)) (hz5 : Gz v (w3.alloc (.cells cs 26)) w5) (hm : Moved v (w3.alloc (.cells cs 26)) v') :
    SxRel q p N w R v' w5 ∧ lenAt p w5 < s.size := by
  obtain ⟨hs1, hs2, hs3⟩ := is_step hB (by decide)
  have hni := hn s.step
  have hvr : ∀ g, v.ownBlock = some g → w.heap.size ≤ g ∧ g < wr.heap.size := fun g e => World.ownsRow.lt hown g e
  have z2 := hg2.size
  have z3 := hg3.size
  have zz := hgo.size
  have hzz := hz5.size
  simp only [World.size_alloc] at hzz
  have keepB : ∀ b, b < w3.heap.size → v.ownBlock ≠ some b → w5.heap[b]? = w3.heap[b]? := fun b hb hv => by
    rw [hz5.block b (by simp; omega) (fun e => hv e.symm)]
    exact ((Gr.refl w3).alloc _).block b hb
  have hPS : PS p w5 (q s.step).2 := hps.low (by omega) (fun i hi hl => keepB i hl (fun e => by have := hvr i e; omega))
  refine ⟨?_, by rw [lenAt_ps hPS]; omega⟩
  cases n with
  | zero => omega
  | succ n =>
    have hmv : ∀ b, b < w3.heap.size → v.ownBlock ≠ some b → v'.ownBlock ≠ some b := fun b hb hv e => by
      rcases hm with hm | hm
      · rw [hm] at e; exact hv e
      · have := hm b e
        simp at this
        exact absurd hb (by omega)
    refine ⟨rs ++ [ry], xs ++ [y], l0 ++ [(q s.step).1], (q s.step).2, n, by rw [cellsF_snoc, List.length_append]; exact hown', by simp, Exs.At.snoc ?_ ?_, fun h => by rw [hl hs3, hyg h], ?_, by omega, by simp; omega, hPS, ?_⟩
    · refine ((hy.mono (S' := fun b => w.heap.size ≤ b ∧ v.ownBlock ≠ some b ∧ v'.ownBlock ≠ some b) (fun b hb hs => ?_)).of (by omega) (fun b hb hl => keepB b hl hb.2.1)).mono (fun b _ hb => ⟨hb.1, hb.2.2⟩)
      have hs : w2.heap.size ≤ b := hs
      have hne : v.ownBlock ≠ some b := fun e => by have := (hvr b e).2; omega
      exact ⟨by omega, hne, hmv b hb hne⟩
    · refine ((hxs.mono (S' := fun b => w.heap.size ≤ b ∧ v.ownBlock ≠ some b ∧ v'.ownBlock ≠ some b) (fun b hb hs => ⟨hs.1, hs.2, hmv b (by omega) hs.2⟩)).of (by omega) (fun b hb hl => ?_)).mono (fun b _ hb => ⟨hb.1, hb.2.2⟩)
      rw [keepB b (by omega) hb.2.1, hg3.get (by omega) (by omega), hg2.get hl (by omega)]
    · rw [← hR]
      unfold headS
      rw [if_pos hB]
      simp only [seps]
      try rfl
    · refine (((hgo.trans hg2).trans hg3).block2 ((Gr.refl w3).alloc _)).trans' hz5 (fun g e => (hvr g e).1)
theorem own_row {w : World} {base : Nat} {S : Nat → Prop} {v : Value} {rs : List XR} (h : w.ownsRow base 26 12 v rs.length (cellsF xF rs)) (hS : ∀ b, base ≤ b → v.ownBlock = some b → S b) : ∃ oa cap, v = .slice oa rs.length cap ∧ rs.length ≤ cap ∧ XRow S w oa rs ∧ (oa = none → cap = 0) := by
  have hnil : ∀ cap n, v = .slice none n cap → cap = 0 := fun cap n e => by
    rcases h.2 with ⟨rfl, _⟩ | ⟨g, cap', cur, rfl, _⟩
    · cases e; rfl
    · cases e
  obtain ⟨oa, c, rfl, hat, hc, hb⟩ := own_at (f := xF) (n := 12) (l := rs) xE h
  refine ⟨oa, c, rfl, hc, ?_, fun e => hnil c _ (by rw [e])⟩
  rcases (hat : AtF xF 12 w oa rs) with h0 | ⟨b, off, e, hl, hr⟩
  · exact .inl h0
  · subst e
    have hf : ∀ j, w.frozen? ⟨b, j, none⟩ = false := by
      rcases h.2 with ⟨e, _⟩ | ⟨g, cap', cur, e, _, hg, _⟩
      · cases e
      · cases e; exact Rg.blk_free hg
    exact .inr ⟨b, off, rfl, hl, hS b (hb b off none rfl) rfl, hf, hr⟩
theorem SxRel.done {q : Pa Ex} {p : Nat} {w : World} {R : List Ex × Ps} {v : Value} {wr w2 : World} {rs : List XR} {xs l0 : List Ex} {s : Ps} {n : Nat}
    (hpw : p < w.heap.size) (hown : wr.ownsRow w.heap.size 26 12 v rs.length (cellsF xF rs)) (hxs : Exs.At (fun b => w.heap.size ≤ b ∧ v.ownBlock ≠ some b) wr xs rs) (hl : s.good = true → xs = l0) (hR : headS q n l0 s = R) (hgo : Go1 p w wr)
    (hB : s.is 4 ⟨#[44]⟩ = false) (hg2 : Go1 p wr w2) (hps : PS p w2 s) (hlen1 : rs.length ≤ 1000001) : Rxs p w R v w2 := by
  have hR' : R = (l0, s) := by rw [← hR]; unfold headS; rw [hB]; rfl
  subst hR'
  obtain ⟨oa, cap, rfl, hc, hrow, hnil⟩ := own_row (S := Nw w) (own_go hown hg2 hpw) (fun b hb _ => hb)
  have hlen := hxs.len
  refine ⟨oa, rs.length, cap, xs, rfl, ⟨hlen, ⟨hc, by omega⟩, rs, hlen, hrow, ?_⟩, hps, hgo.trans hg2, hlen1, hnil, hl⟩
  exact (hxs.of hg2.size (fun b hb hl => hg2.get hl (by have := hb.1; omega))).mono (fun b _ hb => hb.1)
set_option maxHeartbeats 4000000 in
set_option maxRecDepth 100000 in
theorem exprs_any (q : Pa Ex) (p N : Nat) (hN : N ≤ 1000000) (hq : Rd 21 q p N) (hn : NI q) : Rds 122 (sep q) p N := by
  intro s w hS hsN
  have hpw := hS.lt
  obtain ⟨R, hR⟩ : ∃ R, sep q s = R := ⟨_, rfl⟩
  rw [hR]
  have HR := hid hR
  clear hR
  go_enter Tryz.func122, Tryz.ntmps122
  go_wp2_with fail
  refine (hq s _ hS hsN).mono ?_
  rintro e w1 ⟨u, rfl, r, x, rfl, hx, hps, hgo, hgd⟩
  have hst := hid (SxRel.start hpw hx hps hgo hgd hn hsN HR.out)
  clear hx hps hgo hgd HR
  unfold XR.val
  go_wp2_with fail
  generalize Value.agg _ = uu
  generalize hv0 : Value.slice (some ⟨w1.heap.size, 0, none⟩) 1 1 = v0 at *
  go_loopw [3] (fun v wr => SxRel q p N w R v wr) (fun _ wr => lenAt p wr)
  · exact hst.out
  · clear hst hv0
    obtain ⟨rs, xs, l0, s, n, hown, h0, hxs, hl, hR, hsn, hsN, hps, hgo⟩ := hrel
    go_wp2_with fail
    refine (sign_any' p ⟨#[44]⟩ s wr hps).mono ?_
    rintro e w2 ⟨rfl, hps2, hg2⟩
    cases hB : s.is 4 ⟨#[44]⟩ with
    | false =>
      have e2 : (s.may 4 ⟨#[44]⟩).2 = s := by simp [Ps.may, hB]
      rw [e2] at hps2
      have FI := hid (SxRel.done hpw hown hxs hl hR hgo hB hg2 hps2 (by omega))
      clear hps2 hps hgo hg2 hxs hR hl hown hB e2
      go_wp2
      go_ret
      exact ⟨_, rfl, FI.out⟩
    | true =>
      have e2 : (s.may 4 ⟨#[44]⟩).2 = s.step := by simp [Ps.may, hB]
      rw [e2] at hps2
      obtain ⟨hs1, hs2, hs3⟩ := is_step hB (by decide)
      have NX := fun w3 w5 v' ry y cs h1 h2 h3 h4 h5 h6 h7 => SxRel.next (w3 := w3) (w5 := w5) (v' := v') (ry := ry) (y := y) (cs := cs) hpw hown h0 hxs hl hR hsn hsN hgo hB hn hg2 h1 h2 h3 h4 h5 h6 h7
      have HNX := hid NX
      have LA : Hid (lenAt p wr = s.size) := hid (lenAt_ps hps)
      have HOW := hid (own_go hown hg2 hpw)
      have hzz := hgo.size
      have hzz2 := hg2.size
      clear NX hps hxs hR hgo hg2 hl hB e2 hown
      go_wp2_with fail
      refine (hq s.step w2 hps2 (by omega)).mono ?_
      rintro e w3 ⟨u, rfl, ry, y, rfl, hy, hpy, hgy, hyg⟩
      have NX2 := hid (fun w5 v' cs => HNX.out w3 w5 v' ry y cs hy hpy hgy hyg)
      have HO3 := hid (own_go HOW.out hgy hpw)
      have hz3 := hgy.size
      clear hy hpy hgy hyg HNX HOW hps2
      unfold XR.val
      obtain ⟨i0, hi0, hz0, hz1, hz2⟩ := info_parts x_info
      have HOA : Hid (∀ o, (w3.alloc o).ownsRow w.heap.size 26 12 u3 (List.length rs) (cellsF xF rs)) := hid (fun o => own_keep HO3.out ((Gr.refl w3).alloc o))
      go_wp2_with (at_builtin; refine append_one _ rfl _ _ 24 rfl w.heap.size 26 i0 _ 12 128 Tryz.underlying24 hi0 hz0 hz1 hz2 rfl (by decide) u3 (List.length rs) (cellsF xF rs) rfl (HOA.out _) ⟨w3.heap.size, 0, none⟩ 1 (xF ry) rfl rfl ?ma1 ?ma2 ?ma3 ?ma4 ?ma5 ?_)
      case ma1 =>
        intro j u hu
        rw [addN, Nat.zero_add, Rg.blk_cells (alloc_at _ _)]
        simpa [xF] using hu
      case ma2 => exact xE.one _
      case ma3 => unfold maxLen; omega
      case ma4 => omega
      case ma5 => simp; omega
      intro v' w5 hown5 hz5 hmv
      obtain ⟨hx1, hx2⟩ := NX2.out w5 v' _ hown5 hz5 hmv
      have HX := hid hx1
      clear hx1 NX2 hown5 hz5 hmv HO3 HOA
      go_wp2
      exact ⟨HX.out, by rw [LA.out]; exact hx2⟩
end Go.Proofs.YtbeinfhgfflneaaGreat
end
section
namespace Go.Proofs.YtbeinfhgfflneaaGreat
open Go.RowKit
set_option linter.unusedSimpArgs false
set_option linter.unusedVariables false
attribute [local go_sem] Rg.leads_value Rg.leads_skip Rg.leads_enter Rg.brings_value Rg.brings_skip Rg.brings_enter Rg.bringsG_value Rg.bringsG_enter Rg.once_normal Rg.once_exit Rg.once_ret Rg.once_panic Rg.once_goto Rg.bringsS_value Rg.bringsS_skip Rg.bringsS_enter Rg.still_value Rg.still_skip Rg.still_enter
def RdL (f : Nat) (q : Pa Ex) (p N : Nat) : Prop := ∀ s w, PS p w s → s.size < N → Calls Tryz.prog f #[.pointer (some ⟨p, 0, none⟩)] w (Px p w (q s))
def RdsL (f : Nat) (q : Pa (List Ex)) (p N : Nat) : Prop := ∀ s w, PS p w s → s.size < N → Calls Tryz.prog f #[.pointer (some ⟨p, 0, none⟩)] w (Pxs p w (q s))
theorem exprs_less (q : Pa Ex) (p N : Nat) (hN : N ≤ 1000000) (hq : RdL 21 q p N) (hn : NI q) : RdsL 122 (sep q) p N := fun s w hS hs =>
  exprs_any q p s.size (by omega) (fun s' w' hS' hs' => hq s' w' hS' (by omega)) hn s w hS (Nat.le_refl _)
theorem xs_nil {S : Nat → Prop} {w : World} : XsAt S w [] none 0 0 := ⟨rfl, fit_le 0 (by decide), [], rfl, .inl rfl, Exs.At.nil⟩
set_option maxHeartbeats 4000000 in
set_option maxRecDepth 100000 in
theorem list_no (E : Pa Ex) (p : Nat) (s : Ps) (w : World) (hS : PS p w s) (hB : s.is 4 ⟨#[40]⟩ = false) : Calls Tryz.prog 105 #[.pointer (some ⟨p, 0, none⟩)] w (Pxs p w (listS E s)) := by
  have e1 : listS E s = ([], s.fail 180) := by unfold listS; rw [hB]; rfl
  rw [e1]
  go_enter Tryz.func105, Tryz.ntmps105
  go_wp2_with fail
  refine (is4_any p ⟨#[40]⟩ s _ hS).mono ?_
  rintro e w1 ⟨rfl, rfl⟩
  rw [hB]
  go_wp2_with fail
  refine (wrong_any p s _ hS).mono ?_
  rintro e w2 ⟨rfl, hps, hgo⟩
  have FI : Hid (Rxs p w1 ([], s.fail 180) (.slice none 0 0) w2) := hid ⟨none, 0, 0, [], rfl, xs_nil, hps, hgo, by omega, fun _ => rfl, fun _ => rfl⟩
  clear hps hgo
  go_wp2
  go_ret
  exact ⟨_, rfl, FI.out⟩
set_option maxHeartbeats 4000000 in
set_option maxRecDepth 100000 in
theorem list_full (E : Pa Ex) (p : Nat) (s : Ps) (w : World) (hS : PS p w s) (hB : s.is 4 ⟨#[40]⟩ = true) (hD : s.down.good = false) : Calls Tryz.prog 105 #[.pointer (some ⟨p, 0, none⟩)] w (Pxs p w (listS E s)) := by
  have e1 : listS E s = ([], s.down) := by unfold listS; rw [hB, hD]; rfl
  rw [e1]
  obtain ⟨_, _, hgood⟩ := is_step hB (by decide)
  go_enter Tryz.func105, Tryz.ntmps105
  go_wp2_with fail
  refine (is4_any p ⟨#[40]⟩ s _ hS).mono ?_
  rintro e w1 ⟨rfl, rfl⟩
  rw [hB]
  go_wp2_with fail
  refine (down_any p s _ hS hgood).mono ?_
  rintro e w2 ⟨rfl, hps, hgo⟩
  rw [hD]
  have FI : Hid (Rxs p w1 ([], s.down) (.slice none 0 0) w2) := hid ⟨none, 0, 0, [], rfl, xs_nil, hps, hgo, by omega, fun _ => rfl, fun _ => rfl⟩
  clear hps hgo
  go_wp2
  go_ret
  exact ⟨_, rfl, FI.out⟩
theorem up_good {s : Ps} (h : s.up.good = true) : s.good = true := by cases s with
  | ok l d => rfl
  | bad e a => cases h
theorem need_good {s : Ps} {k : Nat} {c : ByteArray} (h : (s.need k c).good = true) : s.good = true := by
  match s, h with
  | .ok l d, h => rfl
  | .bad e a, h => cases h
set_option maxHeartbeats 4000000 in
set_option maxRecDepth 100000 in
theorem list_yes (E : Pa Ex) (hdp : DP E) (p : Nat) (s : Ps) (w : World) (hS : PS p w s) (hB : s.is 4 ⟨#[40]⟩ = true) (hD : s.down.good = true) (hq : ∀ w', PS p w' s.down.step → Calls Tryz.prog 122 #[.pointer (some ⟨p, 0, none⟩)] w' (Pxs p w' (sep E s.down.step))) : Calls Tryz.prog 105 #[.pointer (some ⟨p, 0, none⟩)] w (Pxs p w (listS E s)) := by
  have hpw := hS.lt
  have e1 : listS E s = ((sep E s.down.step).1, ((sep E s.down.step).2.need 4 ⟨#[41]⟩).up) := by unfold listS; rw [hB, hD]; rfl
  rw [e1]
  obtain ⟨d1, d2, d3, d4⟩ := down_good hD
  have hup : Hid (∀ l d, (sep E s.down.step).2.need 4 ⟨#[41]⟩ = .ok l d → 1 ≤ d) := hid (down_deep hD (As.trans (as_need _ _ _) (As.trans (dp_sep hdp _) (as_step s.down)))).1
  obtain ⟨_, _, hgood⟩ := is_step hB (by decide)
  have hk5 : s.down.headK ≠ 5 := by rw [(is_head (s := s.down) (k := 4) (c := ⟨#[40]⟩) (by rw [d4]; exact hB)).2.1]; decide
  generalize hQ : sep E s.down.step = Q at *
  go_enter Tryz.func105, Tryz.ntmps105
  go_wp2_with fail
  refine (is4_any p ⟨#[40]⟩ s _ hS).mono ?_
  rintro e w1 ⟨rfl, rfl⟩
  rw [hB]
  go_wp2_with fail
  refine (down_any p s _ hS hgood).mono ?_
  rintro e w2 ⟨rfl, hps, hgo2⟩
  rw [hD]
  go_wp2_with fail
  refine (step_any p s.down _ hps hk5 hD).mono ?_
  rintro e w3 ⟨rfl, hps3, hgo3⟩
  go_wp2_with fail
  refine (hq _ hps3).mono ?_
  rintro e w4 ⟨u, rfl, oa, n, cap, xs, rfl, hx, hps4, hgo4, hlen, hnil, hgd⟩
  go_wp2_with fail
  refine (must_any p ⟨#[41]⟩ _ _ hps4).mono ?_
  rintro e w5 ⟨rfl, hps5, hgo5⟩
  go_wp2_with fail
  refine (up_any p _ _ hps5 hup.out).mono ?_
  rintro e w6 ⟨rfl, hps6, hgo6⟩
  have z2 := hgo2.size
  have z3 := hgo3.size
  have FI : Hid (Rxs p w1 (Q.1, (Q.2.need 4 ⟨#[41]⟩).up) (.slice oa n cap) w6) := hid ⟨oa, n, cap, xs, rfl,
    ((hx.of (hgo5.trans hgo6).size (fun b hb hl => (hgo5.trans hgo6).get hl (by have : w3.heap.size ≤ b := hb; omega))).mono (fun b _ hb => by have : w3.heap.size ≤ b := hb; show w1.heap.size ≤ b; omega)),
    hps6, (((hgo2.trans hgo3).trans hgo4).trans hgo5).trans hgo6, hlen, hnil, fun h => hgd (need_good (up_good h))⟩
  clear hps hps3 hps4 hps5 hps6 hgo2 hgo3 hgo4 hgo5 hgo6 hx hgd hq
  go_wp2
  go_ret
  exact ⟨_, rfl, FI.out⟩
theorem list_any (E : Pa Ex) (hdp : DP E) (p N : Nat) (hq : RdsL 122 (sep E) p N) : Rds 105 (listS E) p N := fun s w hS hs => by
  cases hB : s.is 4 ⟨#[40]⟩ with
  | false => exact list_no E p s w hS hB
  | true =>
    cases hD : s.down.good with
    | false => exact list_full E p s w hS hB hD
    | true =>
      refine list_yes E hdp p s w hS hB hD (fun w' hS' => hq _ _ hS' ?_)
      obtain ⟨d1, d2, d3, d4⟩ := down_good hD
      have := (is_step (s := s.down) (k := 4) (c := ⟨#[40]⟩) (by rw [d4]; exact hB) (by decide)).1
      omega
end Go.Proofs.YtbeinfhgfflneaaGreat
end
section
namespace Go.Rg
open Go Go.RowKit
set_option linter.unusedSimpArgs false
set_option linter.unusedVariables false
def ins (D : Nat → Bool) (i : Nat) : Nat → Bool := fun k => if k = i then true else D k
section
variable (P : Program) (ops : Array Oper) (Cs : List Nat) (Ps Ws : List (Nat × Nat)) (St : (Nat → Bool) → (Nat → Value) → World → Prop)
def preS (i : Nat) (D : Nat → Bool) : Prop := ∀ j, (j, i) ∈ Ps → D j = true
def limS (i : Nat) (D : Nat → Bool) : Prop := ∀ k, (i, k) ∈ Ws → D k = false
def StepS (v : Nat → Value) (c : Option Value) (i : Nat) (o : Oper) (a : Act) : Prop :=
  if Cs.contains i then Region.wanted o (yielded ops a.tmps) = true ∧ ∀ D w, D i = false → preS Ps i D → St D v w → BringsS P (fun u w' => match c with
      | some c => u = c ∧ St (ins D i) v w'
      | none => St (ins D i) (upd v i u) w') ((execOp a.eval o).run P w)
  else match c with
    | some c => (Region.wanted o (yielded ops a.tmps) = true ∧ ∀ D w, limS Ws i D → St D v w → Still w c ((execOp a.eval o).run P w)) ∨ (Region.wanted o (yielded ops a.tmps) = false ∧ c = undef)
    | none => False
def wpS (v : Nat → Value) (L : Act → Prop) : List (Option Value) → List Oper → Nat → Act → Prop
  | [], [], _, a => L a
  | c :: K, o :: r, i, a => StepS P ops Cs Ps Ws St v c i o a ∧ wpS v L K r (i + 1) (a.put o.dst (c.getD (v i)))
  | _, _, _, _ => False
end
section
variable {P : Program} {ops : Array Oper} {Cs : List Nat} {Ps Ws : List (Nat × Nat)} {St : (Nat → Bool) → (Nat → Value) → World → Prop} {v : Nat → Value} {L : Act → Prop}
theorem wpS_len : ∀ (K : List (Option Value)) (l : List Oper) (i : Nat) (a : Act), wpS P ops Cs Ps Ws St v L K l i a → K.length = l.length
  | [], [], _, _, _ => rfl
  | c :: K, o :: r, i, a, h => by simp only [List.length_cons]; rw [wpS_len K r _ _ h.2]
  | [], _ :: _, _, _, h => h.elim
  | _ :: _, [], _, _, h => h.elim
theorem wpS_at : ∀ (K : List (Option Value)) (l : List Oper) (i : Nat) (a : Act) (f : Nat → Value), wpS P ops Cs Ps Ws St v L K l i a → (∀ k, k < l.length → f (i + k) = ((K[k]?).getD none).getD (v (i + k))) →
    ∀ m o, l[m]? = some o → StepS P ops Cs Ps Ws St v ((K[m]?).getD none) (i + m) o (putL (fun j => decide (j < i + m)) f l i a)
  | [], [], _, _, _, _, _, m, o, h => by simp at h
  | c :: K, o0 :: r, i, a, f, h, hf, 0, o, ho => by
    have e0 : o0 = o := by simpa using ho
    subst e0
    have e1 : putL (fun j => decide (j < i + 0)) f (o0 :: r) i a = a := putL_none _ _ _ (fun k _ => by simp)
    rw [e1]
    simpa using h.1
  | c :: K, o0 :: r, i, a, f, h, hf, m + 1, o, ho => by
    have h2 := wpS_at K r (i + 1) _ f h.2 (fun k hk => by have := hf (k + 1) (by simp; omega); rw [show i + 1 + k = i + (k + 1) by omega]; simpa using this) m o (by simpa using ho)
    have h0 := hf 0 (by simp)
    simp at h0
    unfold putL
    have e : (if decide (i < i + (m + 1)) then a.put o0.dst (f i) else a) = a.put o0.dst (c.getD (v i)) := by
      rw [if_pos (by simp), h0]
    rw [e, show i + (m + 1) = i + 1 + m by omega]
    simpa using h2
  | [], _ :: _, _, _, _, h, _, _, _, _ => h.elim
  | _ :: _, [], _, _, _, h, _, _, _, _ => h.elim
theorem wpS_end : ∀ (K : List (Option Value)) (l : List Oper) (i : Nat) (a : Act) (f : Nat → Value), wpS P ops Cs Ps Ws St v L K l i a → (∀ k, k < l.length → f (i + k) = ((K[k]?).getD none).getD (v (i + k))) →
    L (putL (fun _ => true) f l i a)
  | [], [], _, _, _, h, _ => h
  | c :: K, o0 :: r, i, a, f, h, hf => by
    have h2 := wpS_end K r (i + 1) _ f h.2 (fun k hk => by have := hf (k + 1) (by simp; omega); rw [show i + 1 + k = i + (k + 1) by omega]; simpa using this)
    have h0 := hf 0 (by simp)
    simp at h0
    unfold putL
    simp only [if_true, h0]
    exact h2
  | [], _ :: _, _, _, _, h, _ => h.elim
  | _ :: _, [], _, _, _, h, _ => h.elim
end
def psB (md : Region.Mode) (ops : Array Oper) (n : Nat) (Cs : List Nat) (Ps : List (Nat × Nat)) : Bool := Ps.all fun p => Cs.contains p.1 && decide (p.1 < n) && rch md ops ops.size p.2 p.1
section
variable {P : Program} {ops : Array Oper} {md : Region.Mode} {Q : Exit → Act → World → Prop}
section
variable {l : List Oper} {n : Nat} {Cs : List Nat} {Ps Ws : List (Nat × Nat)} {St : (Nat → Bool) → (Nat → Value) → World → Prop} {K : List (Option Value)} {a0 : Act}
theorem region_set0 {id : Nat} {w : World} (n : Nat) (Cs : List Nat) (Ps Ws : List (Nat × Nat)) (St : (Nat → Bool) → (Nat → Value) → World → Prop) (K : List (Option Value))
    (hW : ∀ v, St (fun _ => false) v { w with drawn := w.drawn + 1 }) (hm : P.follows .mixedOrders = true) (hB : typedB l n [] [] [] = true) (hC : psB .any l.toArray n Cs Ps = true) (hL : lmB .any l.toArray n Cs Ws = true)
    (hQ : ∀ c (a : Act) d u w, Q (.panic c) (a.put d u) w → Q (.panic c) a w)
    (h : ∀ v : Nat → Value, wpS P l.toArray Cs Ps Ws St v (fun a' => ∀ w', St (fun i => Cs.contains i && decide (i < n)) v w' → wpList P l.toArray Q (l.drop n) a' w') K (l.take n) 0 a0) :
    (Code.region id l.toArray true).wp P Q a0 w := by
  simp only [typedB, Bool.and_eq_true, decide_eq_true_eq] at hB
  obtain ⟨⟨⟨⟨⟨⟨hDF, hsel⟩, hn'⟩, hs⟩, hc⟩, hall⟩, hseq⟩ := hB
  have hn : n < l.toArray.size := by simpa using hn'
  have hselS := Region.noSelect_spec hsel
  have one : ∀ i, i < n → ∀ o, l.toArray[i]? = some o → OneB .any l.toArray l (l.take n) n [] [] o i := fun i hi o ho => by
    have h1 : (l.take n)[i]? = some o := by rw [List.getElem?_take_of_lt hi]; simpa using ho
    have := allB_spec (l.take n) 0 hall i o h1
    rwa [Nat.zero_add] at this
  have take_at : ∀ i o, (l.take n)[i]? = some o → i < n ∧ l.toArray[i]? = some o := fun i o ho => by
    have hi : i < n := by
      have := (List.getElem?_eq_some_iff.1 ho).1
      simp at this; omega
    rw [List.getElem?_take_of_lt hi] at ho
    exact ⟨hi, by simpa using ho⟩
  have hlen : ∀ v, K.length = (l.take n).length := fun v => wpS_len K _ 0 a0 (h v)
  have htl : (l.take n).length = n := by simp at hn ⊢; omega
  let free : Nat → Bool := fun k => ((K[k]?).getD none).isNone
  let vf : (Nat → Value) → Nat → Value := fun v k => valOf K v k
  have dstne : ∀ i j o o', i < n → j < n → i ≠ j → l.toArray[i]? = some o → l.toArray[j]? = some o' → ∀ d, o'.dst = some d → o.dst ≠ some d := fun i j o o' hi hj hne ho ho' d hd => by
    have h1 := rowB_spec (l.take n) 0 (one i hi o ho).row j o' (by rw [List.getElem?_take_of_lt hj]; simpa using ho')
    rw [Nat.zero_add] at h1
    unfold pairB at h1
    rw [hd] at h1
    simp only [Bool.or_eq_true, decide_eq_true_eq, hne, false_or, Bool.and_eq_true, bne_iff_ne, ne_eq] at h1
    exact h1.1
  let FR : (Nat → Bool) → (Nat → Value) → Act := fun S v => putL S (vf v) (l.take n) 0 a0
  have more : ∀ (S S' : Nat → Bool) (v : Nat → Value) (j : Nat) (o : Oper) (u : Value), j < n → l.toArray[j]? = some o → S j = false → S' j = true → (∀ k, k ≠ j → S' k = S k) → (free j = false → vf v j = u) →
      (FR S v).put o.dst u = FR S' (if free j then upd v j u else v) := fun S S' v j o u hj ho h1 h2 h3 h4 => by
    have hold : ∀ k, k ≠ j → vf (if free j then upd v j u else v) k = vf v k := fun k hk => by
      show ((K[k]?).getD none).getD _ = ((K[k]?).getD none).getD _
      split
      · simp [upd, hk]
      · rfl
    have hnew : vf (if free j then upd v j u else v) j = u := by
      cases hfj : free j
      · simpa using h4 hfj
      · show ((K[j]?).getD none).getD _ = u
        have : (K[j]?).getD none = none := by simpa [free] using hfj
        rw [this]; simp [upd]
    exact putL_more (l.take n) 0 a0 j o u (by rw [List.getElem?_take_of_lt hj]; simpa using ho) (by rw [Nat.zero_add]; exact h1) (by rw [Nat.zero_add]; exact h2) (by rw [Nat.zero_add]; exact hnew)
      (fun k hk => by rw [Nat.zero_add]; exact ⟨h3 k hk, hold k hk⟩)
      (fun k o' hk ho' d hd => by
        obtain ⟨hkn, hko⟩ := take_at k o' ho'
        intro hd2
        exact dstne j k o o' hj hkn (Ne.symm hk) ho hko d hd2 hd)
  have sees : ∀ (listed : Array Bool) (v : Nat → Value) (i : Nat) (o : Oper), i < n → l.toArray[i]? = some o → i ∈ Region.ready .any l.toArray listed →
      ∀ t ∈ o.looksAt l.toArray, (FR (fun j => listed.getD j false) v).tmps[t]? = (FR (fun j => decide (j < i)) v).tmps[t]? := fun listed v i o hi ho hr t ht => by
    refine putL_same (l.take n) 0 a0 a0 rfl rfl (fun k o' ho' hd => ?_)
    obtain ⟨hkn, hko⟩ := take_at k o' ho'
    rw [Nat.zero_add]
    have hO := one i hi o ho
    obtain ⟨_, o2, ho2, hall2⟩ := mem_ready.1 hr
    have e2 : o2 = o := Option.some.inj (ho2.symm.trans ho)
    subst e2
    by_cases hik : i = k
    · subst hik
      have e3 : o' = o2 := Option.some.inj (hko.symm.trans ho)
      subst e3
      exact absurd ht (hO.own t hd)
    · have h1 := rowB_spec (l.take n) 0 hO.row k o' ho'
      rw [Nat.zero_add] at h1
      unfold pairB at h1
      rw [hd] at h1
      have hct : (o2.looksAt l.toArray).contains t = true := by simpa using ht
      simp only [Bool.or_eq_true, decide_eq_true_eq, hik, false_or, Bool.and_eq_true, hct, Bool.not_true, Bool.false_eq_true] at h1
      obtain ⟨e, he, hbe⟩ := Array.any_eq_true'.1 h1.2
      simp only [Bool.and_eq_true, beq_iff_eq] at hbe
      have h2 := hall2 e he hbe.1
      rw [hbe.2] at h2
      rw [h2]
      have h3 := Array.all_eq_true_iff_forall_mem.1 hO.back e he
      simp only [hbe.1, Bool.not_true, Bool.false_or, decide_eq_true_eq, hbe.2] at h3
      simp [h3]
  have step : ∀ v i, i < n → ∀ o, l.toArray[i]? = some o → StepS P l.toArray Cs Ps Ws St v ((K[i]?).getD none) i o (FR (fun j => decide (j < i)) v) := fun v i hi o ho => by
    have := wpS_at K (l.take n) 0 a0 (vf v) (h v) (fun k _ => by rw [Nat.zero_add]; rfl) i o (by rw [List.getElem?_take_of_lt hi]; simpa using ho)
    rwa [Nat.zero_add] at this
  have hseq' : ∀ listed : Array Bool, listed.size = l.toArray.size → (∀ j, j < n → listed.getD j false = true) → (∀ t, n ≤ t → t < l.toArray.size → listed.getD t true = false) → Region.seqB .any l.toArray (l.toArray.size - n) n listed = true := fun listed hsz h1 h2 => by
    have e : listed = (List.replicate n true ++ List.replicate (l.length - n) false).toArray := by
      apply Array.ext
      · rw [hsz]; simp; omega
      · intro i hi1 hi2
        by_cases hin : i < n
        · have := h1 i hin
          simp [hi1] at this
          rw [this]; simp [List.getElem_append, hin]
        · have := h2 i (by omega) (by rw [← hsz]; exact hi1)
          simp [hi1] at this
          rw [this]; simp [List.getElem_append, hin]
    rw [e]; simpa using hseq
  have main : ∀ (f : Nat) (listed : Array Bool) (v : Nat → Value) (w : World), HeadInv .any l.toArray n listed → unl (fun j => listed.getD j false) n = f →
      St (fun i => Cs.contains i && decide (i < n) && listed.getD i false) v w → wpAny P .any l.toArray Q (f + (l.toArray.size - n)) listed (FR (fun j => listed.getD j false) v) w := by
    intro f
    induction f with
    | zero =>
      intro listed v w inv hu hK
      have hL := unl_zero hu
      have hend := wpS_end K (l.take n) 0 a0 (vf v) (h v) (fun k _ => by rw [Nat.zero_add]; rfl)
      have es : (fun i => Cs.contains i && decide (i < n) && listed.getD i false) = (fun i => Cs.contains i && decide (i < n)) := by
        funext i
        by_cases hin : i < n
        · simp [hL i hin]
        · simp [hin]
      rw [es] at hK
      have e : FR (fun j => listed.getD j false) v = putL (fun _ => true) (vf v) (l.take n) 0 a0 := putL_congr _ _ _ (fun k hk => by
        have hkn : k < n := by simp at hk; omega
        rw [Nat.zero_add]; exact ⟨hL k hkn, fun _ => rfl⟩)
      rw [e, Nat.zero_add]
      have hdl : (l.drop n).length = l.toArray.size - n := by simp
      have h1 := hend w hK
      have := wpAny_of_seq (md := .any) (Q' := Q) (l.drop n) n listed (putL (fun _ => true) (vf v) (l.take n) 0 a0) w (fun j => by simp [List.getElem?_drop]) (by rw [hdl]; exact hseq' listed inv.size hL inv.tail) h1
      rwa [hdl] at this
    | succ f ih =>
      intro listed v w inv hu hK
      have hex : ∃ i, i < n ∧ listed.getD i false = false ∧ (fun _ : Nat => true) i = true := by
        refine Classical.byContradiction fun hno => ?_
        have h0 : unl (fun j => listed.getD j false) n = 0 := by
          unfold unl
          rw [List.length_eq_zero_iff, List.filter_eq_nil_iff]
          intro x hx
          have hxn := List.mem_range.1 hx
          cases hs : listed.getD x false
          · exact absurd ⟨x, hxn, hs, rfl⟩ hno
          · show ¬ (!(listed.getD x false)) = true
            rw [hs]; decide
        omega
      have inb : ∀ i, i < n → i < listed.size := fun i hi => by rw [inv.size]; omega
      have readyOf : ∀ i, i < n → listed.getD i false = false → (∀ j, j < i → listed.getD j false = true) → i ∈ Region.ready .any l.toArray listed := fun i hi h1 h2 => by
        have hlt : i < l.toArray.size := by omega
        refine mem_ready.2 ⟨getD_in (inb i hi) h1, l.toArray[i], Array.getElem?_eq_getElem hlt, fun e he hb => ?_⟩
        have hO := one i hi _ (Array.getElem?_eq_getElem hlt)
        have h3 := Array.all_eq_true_iff_forall_mem.1 hO.back e he
        simp only [hb, Bool.not_true, Bool.false_or, decide_eq_true_eq] at h3
        exact h2 e.on h3
      obtain ⟨i0, hi0, hi0f, _, hi0l⟩ := least_unl n hex
      rw [show f + 1 + (l.toArray.size - n) = (f + (l.toArray.size - n)) + 1 by omega]
      refine ⟨fun h0 => ?_, fun j hr => ?_⟩
      · have := readyOf i0 hi0 hi0f (fun j hj => hi0l j hj rfl)
        rw [h0] at this; cases this
      have hj : j < n := by
        rcases Nat.lt_or_ge j n with hlt | hge
        · exact hlt
        · exact absurd hr (tail_waitsF hs hc hn inv _ i0 rfl hi0 (by simp) (getD_in (inb i0 hi0) hi0f) j hge)
      obtain ⟨hjun, o, ho, hall2⟩ := mem_ready.1 hr
      have hjf : listed.getD j false = false := getD_both hjun
      have hstp := step v j hj o ho
      have hsee := sees listed v j o hj ho hr
      have hex1 := exec_same (hselS j o · · ho) hsee
      have hw1 := wanted_same hsee
      have inv' := inv.set hr hj
      have hu' : unl (fun k => (listed.setIfInBounds j true).getD k false) n = f := by
        have := unl_set (S := fun k => listed.getD k false) (S' := fun k => (listed.setIfInBounds j true).getD k false) hj hjf (by have := inb j hj; simp [this]) (fun i hi => getD_set_ne false (fun e => hi e.symm))
        omega
      have hfr := fun (u : Value) (h4 : free j = false → vf v j = u) => more (fun k => listed.getD k false) (fun k => (listed.setIfInBounds j true).getD k false) v j o u hj ho hjf (by have := inb j hj; simp [this]) (fun i hi => getD_set_ne false (fun e => hi e.symm)) h4
      have hS'j : (listed.setIfInBounds j true).getD j false = true := by have := inb j hj; simp [this]
      have hS'k : ∀ k, k ≠ j → (listed.setIfInBounds j true).getD k false = listed.getD k false := fun k hk => getD_set_ne false (fun e => hk e.symm)
      unfold Go.wpOp
      simp only [ho]
      by_cases hjc : Cs.contains j = true
      ·
        have hDj : (Cs.contains j && decide (j < n) && listed.getD j false) = false := by rw [hjf]; simp
        have hpre : preS Ps j (fun i => Cs.contains i && decide (i < n) && listed.getD i false) := fun i hi => by
          have h3 := List.all_eq_true.1 hC (i, j) hi
          simp only [Bool.and_eq_true, decide_eq_true_eq] at h3
          obtain ⟨⟨h4, h5⟩, h6⟩ := h3
          have h7 := rch_spec inv _ j i h6 (.inr hr)
          simp only [h4, h5, h7, decide_true, Bool.and_self]
        have hD' : (fun i => Cs.contains i && decide (i < n) && (listed.setIfInBounds j true).getD i false) = ins (fun i => Cs.contains i && decide (i < n) && listed.getD i false) j := by
          funext i
          unfold ins
          by_cases hij : i = j
          · subst hij
            rw [if_pos rfl, hS'j, hjc]; simp [hj]
          · rw [if_neg hij, hS'k i hij]
        unfold StepS at hstp
        rw [if_pos hjc] at hstp
        obtain ⟨hwt, hrun⟩ := hstp
        have next : ∀ (u : Value) (w' : World), (match (K[j]?).getD none with
            | some c => u = c ∧ St (ins (fun i => Cs.contains i && decide (i < n) && listed.getD i false) j) v w'
            | none => St (ins (fun i => Cs.contains i && decide (i < n) && listed.getD i false) j) (upd v j u) w') → wpAny P .any l.toArray Q (f + (l.toArray.size - n)) (listed.setIfInBounds j true) ((FR (fun k => listed.getD k false) v).put o.dst u) w' := fun u w' hR => by
          cases hc0 : (K[j]?).getD none with
          | none =>
            rw [hc0] at hR
            have hfj : free j = true := by simp only [free, hc0, Option.isNone_none]
            rw [hfr u (fun h => by rw [hfj] at h; cases h), hfj]
            simp only [if_true]
            exact ih _ (upd v j u) w' inv' hu' (by rw [hD']; exact hR)
          | some c =>
            rw [hc0] at hR
            obtain ⟨rfl, hR⟩ := hR
            have hfj : free j = false := by simp only [free, hc0, Option.isNone_some]
            have hvc : vf v j = u := by show ((K[j]?).getD none).getD _ = u; rw [hc0]; rfl
            rw [hfr u (fun _ => hvc), hfj]
            simp only [Bool.false_eq_true, if_false]
            exact ih _ v w' inv' hu' (by rw [hD']; exact hR)
        rw [hw1, hwt]
        simp only [if_true]
        refine .inl ?_
        unfold Oper.wp
        rw [hex1]
        have h1 := hrun _ w hDj hpre hK
        generalize (execOp (FR (fun j_1 => decide (j_1 < j)) v).eval o).run P w = r at *
        cases r with
        | ok m w' =>
          cases m <;> simp only [BringsS] at h1 <;> simp only [Oper.upon]
          case value u => exact next u w' h1
          case skip => exact next undef w' h1
          case enter f' args => exact h1.mono fun e w'' ⟨u, he, hR⟩ => by subst he; exact next u w'' hR
        | halt x w' => simp only [BringsS] at h1
      ·
        have hjc' : Cs.contains j = false := by simpa using hjc
        have hD' : (fun i => Cs.contains i && decide (i < n) && (listed.setIfInBounds j true).getD i false) = (fun i => Cs.contains i && decide (i < n) && listed.getD i false) := by
          funext i
          by_cases hij : i = j
          · subst hij
            rw [hjc']; simp
          · rw [hS'k i hij]
        unfold StepS at hstp
        rw [if_neg hjc] at hstp
        cases hc0 : (K[j]?).getD none with
        | none => rw [hc0] at hstp; exact hstp.elim
        | some c =>
          rw [hc0] at hstp
          simp only at hstp
          have hfj : free j = false := by simp only [free, hc0, Option.isNone_some]
          have hvc : vf v j = c := by show ((K[j]?).getD none).getD _ = c; rw [hc0]; rfl
          have next : wpAny P .any l.toArray Q (f + (l.toArray.size - n)) (listed.setIfInBounds j true) ((FR (fun k => listed.getD k false) v).put o.dst c) w := by
            rw [hfr c (fun _ => hvc), hfj]
            simp only [Bool.false_eq_true, if_false]
            exact ih _ v w inv' hu' (by rw [hD']; exact hK)
          rcases hstp with ⟨hwt, hrun⟩ | ⟨hwt, hcu⟩
          · rw [hw1, hwt]
            simp only [if_true]
            refine .inl ?_
            unfold Oper.wp
            rw [hex1]
            have h1 := hrun _ w (fun k hk => by
              have h3 := List.all_eq_true.1 hL (j, k) hk
              simp only [Bool.and_eq_true, decide_eq_true_eq] at h3
              obtain ⟨⟨h4, h5⟩, h6⟩ := h3
              cases h8 : listed.getD k false with
              | false => simp
              | true =>
                have h7 := rch_spec inv _ k j h6 (.inl h8)
                rw [h7] at hjf; cases hjf) hK
            generalize (execOp (FR (fun j_1 => decide (j_1 < j)) v).eval o).run P w = r at *
            cases r with
            | ok m w' =>
              cases m <;> simp only [Still] at h1 <;> simp only [Oper.upon]
              case value u => obtain ⟨rfl, rfl⟩ := h1; exact next
              case skip => obtain ⟨rfl, rfl⟩ := h1; exact next
            | halt x w' => simp only [Still] at h1
          · rw [hw1, hwt]
            simp only [Bool.false_eq_true, if_false]
            rw [← hcu]
            exact next
  have inv0 : HeadInv .any l.toArray n (Array.replicate l.toArray.size false) :=
    ⟨by simp, fun j oj _ hl => (by rw [getD_replicate_false] at hl; cases hl), fun t _ ht => getD_in (by simpa using ht) (getD_replicate_false _ _)⟩
  have hu0 : unl (fun j => (Array.replicate l.toArray.size false).getD j false) n = n := by
    unfold unl
    have : (List.range n).filter (fun i => !(Array.replicate l.toArray.size false).getD i false) = List.range n := List.filter_eq_self.2 fun x _ => by rw [getD_replicate_false]; rfl
    rw [this]; simp
  refine wp_region_any hm ?_
  have e0 : FR (fun j => (Array.replicate l.toArray.size false).getD j false) (fun _ => undef) = a0 := putL_none _ _ _ (fun k _ => getD_replicate_false _ _)
  have e00 : (fun i => Cs.contains i && decide (i < n) && (Array.replicate l.toArray.size false).getD i false) = (fun _ => false) := by
    funext i
    rw [getD_replicate_false]; simp
  have := main n _ (fun _ => undef) _ inv0 hu0 (by rw [e00]; exact hW _)
  rw [e0, show n + (l.toArray.size - n) = l.toArray.size by omega] at this
  exact this
theorem region_set {id : Nat} {w : World} (n : Nat) (Cs : List Nat) (Ps Ws : List (Nat × Nat)) (St : (Nat → Bool) → (Nat → Value) → World → Prop) (K : List (Option Value))
    (hW : ∀ v, St (fun _ => false) v { w with drawn := w.drawn + 1 }) (hm : P.follows .mixedOrders = true) (hB : typedB l n [] [] [] = true) (hC : psB .any l.toArray n Cs Ps = true) (hL : lmB .any l.toArray n Cs Ws = true)
    (hQ : ∀ c (a : Act) d u w, Q (.panic c) (a.put d u) w → Q (.panic c) a w)
    (h : ∀ OPS : Array Oper, OPS = l.toArray → ∀ v : Nat → Value, wpS P OPS Cs Ps Ws St v (fun a' => ∀ w', St (fun i => Cs.contains i && decide (i < n)) v w' → wpList P OPS Q (l.drop n) a' w') K (l.take n) 0 a0) :
    (Code.region id l.toArray true).wp P Q a0 w := region_set0 n Cs Ps Ws St K hW hm hB hC hL hQ (h _ rfl)
end
end
end Go.Rg
end
section
namespace Go.Proofs.YtbeinfhgfflneaaGreat
open Go.RowKit
set_option linter.unusedSimpArgs false
set_option linter.unusedVariables false
section
variable {P : Program} {ops : Array Oper} {Cs : List Nat} {Ps Ws : List (Nat × Nat)} {St : (Nat → Bool) → (Nat → Value) → World → Prop} {v : Nat → Value} {i : Nat} {o : Oper} {a : Act}
theorem ss_still {c : Value} (hC : Cs.contains i = false) (hw : Region.wanted o (yielded ops a.tmps) = true) (h : ∀ D w, Rg.limS Ws i D → St D v w → Rg.Still w c ((execOp a.eval o).run P w)) : Rg.StepS P ops Cs Ps Ws St v (some c) i o a := by
  unfold Rg.StepS
  rw [hC]
  simp only [Bool.false_eq_true, if_false]
  exact .inl ⟨hw, h⟩
theorem ss_new (hC : Cs.contains i = true) (hw : Region.wanted o (yielded ops a.tmps) = true) (h : ∀ D w, D i = false → Rg.preS Ps i D → St D v w → Rg.BringsS P (fun u w' => St (Rg.ins D i) (Rg.upd v i u) w') ((execOp a.eval o).run P w)) : Rg.StepS P ops Cs Ps Ws St v none i o a := by
  unfold Rg.StepS
  rw [hC]
  simp only [if_true]
  exact ⟨hw, h⟩
end
structure CB (p : Nat) (w : World) (R0 E : Nat) (r : XR) (x : Ex) (wl : World) : Prop where
  hp : p < w.heap.size
  h0 : R0 = w.heap.size
  h1 : R0 < E
  e : wl.heap[E]? = some (.cells (XR.cells r) 26 (0, 0))
  z : wl.heap[R0]? = some (.cells zeroX 26 (0, 0))
  x : Ex.At (fun b => w.heap.size ≤ b ∧ b ≠ E ∧ b ≠ R0) wl x r
  g : Go1 p w wl
section
variable {p : Nat} {w : World} {R0 E : Nat} {r : XR} {x : Ex} {wl w' : World}
theorem CB.lt (h : CB p w R0 E r x wl) : E < wl.heap.size := (Array.getElem?_eq_some_iff.1 h.e).1
theorem CB.go (h : CB p w R0 E r x wl) (hg : Go1 p wl w') : CB p w R0 E r x w' :=
  have hE := h.lt
  have h0 := h.h0
  have h1 := h.h1
  have hp := h.hp
  ⟨h.hp, h.h0, h.h1, by rw [hg.get hE (by omega)]; exact h.e, by rw [hg.get (by omega) (by omega)]; exact h.z, h.x.of hg.size (fun b hb hl => hg.get hl (by have := hb.1; omega)), h.g.trans hg⟩
theorem CB.gr (h : CB p w R0 E r x wl) (hg : Gr wl w') : CB p w R0 E r x w' := h.go (.of hg)
theorem CB.at (h : CB p w R0 E r x wl) : Ex.At (fun b => w.heap.size ≤ b ∧ b ≠ R0) wl x r := h.x.mono (fun b _ hb => ⟨hb.1, hb.2.2⟩)
theorem CB.start {s : Ps} {q : Pa Ex} {w1 : World} (hpw : p < w.heap.size) (hx : Ex.At (Nw (w.alloc (.cells zeroX 26))) w1 x r) (hgo : Go1 p (w.alloc (.cells zeroX 26)) w1) : CB p w w.heap.size w1.heap.size r x (w1.alloc (.cells r.cells 26)) := by
  have hz := hgo.size
  simp only [World.size_alloc] at hz
  have hG := (Gr.refl w1).alloc (.cells r.cells 26)
  refine ⟨hpw, rfl, by omega, alloc_at _ _, ?_, ?_, ((Go1.of ((Gr.refl w).alloc _)).trans hgo).block2 hG⟩
  · rw [hG.block _ (by omega), hgo.get (by simp) (by omega)]
    exact alloc_at _ _
  · refine (hx.mono (fun b hb hs => ?_)).of hG.size (fun b _ hb => hG.block b hb)
    simp only [Nw, World.size_alloc] at hs
    exact ⟨by omega, by omega, by omega⟩
theorem CB.give (h : CB p w R0 E r x w') {R : Ex × Ps} {r' : XR} {x' : Ex} (hx : Ex.At (fun b => w.heap.size ≤ b ∧ b ≠ R0) w' x' r') (hps : PS p w' R.2) (hxs : R.2.good = true → x' = R.1) (b0 b1 b2 b3 b4 b5 b6 b7 b8 b9 b10 b11 : Value) :
    Rx p w R r'.val ((((((((((((w'.setCell ⟨R0, 0, none⟩ b0).setCell ⟨R0, 1, none⟩ b1).setCell ⟨R0, 2, none⟩ b2).setCell ⟨R0, 3, none⟩ b3).setCell ⟨R0, 4, none⟩ b4).setCell ⟨R0, 5, none⟩ b5).setCell ⟨R0, 6, none⟩ b6).setCell ⟨R0, 7, none⟩ b7).setCell ⟨R0, 8, none⟩ b8).setCell ⟨R0, 9, none⟩ b9).setCell ⟨R0, 10, none⟩ b10).setCell ⟨R0, 11, none⟩ b11) :=
  Go.Proofs.YtbeinfhgfflneaaGreat.give h.hp h.h0 hx hps h.g hxs _ _ _ _ _ _ _ _ _ _ _ _
end
def cmpC : Nat → ByteArray
  | 0 => ⟨#[61]⟩
  | 1 => ⟨#[60, 62]⟩
  | 2 => ⟨#[60]⟩
  | 3 => ⟨#[60, 61]⟩
  | 4 => ⟨#[62]⟩
  | _ => ⟨#[62, 61]⟩
theorem cmp_find {s : Ps} {k : Nat} (hk : k < 6) (h : s.is 4 (cmpC k) = true) (hn : ∀ j, j < k → s.is 4 (cmpC j) = false) : cmpOps.find? (fun o => s.is 4 o.1) = some (cmpC k, 9 + (k : Int)) := by
  unfold cmpOps
  rcases k with _ | _ | _ | _ | _ | _ | k
  · simp only [cmpC] at h; simp [h, cmpC]
  · have h0 := hn 0 (by omega); simp only [cmpC] at h h0; simp [h, h0, cmpC]
  · have h0 := hn 0 (by omega); have h1 := hn 1 (by omega); simp only [cmpC] at h h0 h1; simp [h, h0, h1, cmpC]
  · have h0 := hn 0 (by omega); have h1 := hn 1 (by omega); have h2 := hn 2 (by omega); simp only [cmpC] at h h0 h1 h2; simp [h, h0, h1, h2, cmpC]
  · have h0 := hn 0 (by omega); have h1 := hn 1 (by omega); have h2 := hn 2 (by omega); have h3 := hn 3 (by omega); simp only [cmpC] at h h0 h1 h2 h3; simp [h, h0, h1, h2, h3, cmpC]
  · have h0 := hn 0 (by omega); have h1 := hn 1 (by omega); have h2 := hn 2 (by omega); have h3 := hn 3 (by omega); have h4 := hn 4 (by omega); simp only [cmpC] at h h0 h1 h2 h3 h4; simp [h, h0, h1, h2, h3, h4, cmpC]
  · omega
theorem cmp_none {s : Ps} (hn : ∀ j, j < 6 → s.is 4 (cmpC j) = false) : cmpOps.find? (fun o => s.is 4 o.1) = none := by
  unfold cmpOps
  have h0 := hn 0 (by omega); have h1 := hn 1 (by omega); have h2 := hn 2 (by omega); have h3 := hn 3 (by omega); have h4 := hn 4 (by omega); have h5 := hn 5 (by omega)
  simp only [cmpC] at h0 h1 h2 h3 h4 h5
  simp [h0, h1, h2, h3, h4, h5]
theorem cmp_index {W : World} (k : Nat) (hk : k < 6) : (Instr.index 130 (.agg #[.string ⟨#[61]⟩, .string ⟨#[60, 62]⟩, .string ⟨#[60]⟩, .string ⟨#[60, 61]⟩, .string ⟨#[62]⟩, .string ⟨#[62, 61]⟩]) (.int .i64 (k : Int))).run Tryz.prog W = .ok (.string (cmpC k)) W := by
  rcases k with _ | _ | _ | _ | _ | _ | k
  · kernel_rfl
  · kernel_rfl
  · kernel_rfl
  · kernel_rfl
  · kernel_rfl
  · kernel_rfl
  · omega
end Go.Proofs.YtbeinfhgfflneaaGreat
end
section
namespace Go.Proofs.YtbeinfhgfflneaaGreat
open Go.RowKit
set_option linter.unusedVariables false
theorem runs_append {P : Program} (w : World) (t ty : TypeId)
    (base : Nat) (e : TypeId) (i : TypeInfo) (z : Value) (size bytes : Nat) (h1 : P.underlying t = some (.slice e)) (h2 : P.info? e = some i) (h3 : i.zero = some z) (h4 : i.size = size) (h5 : i.bytes = bytes) (h6 : z.cells.size = size) (h7 : 0 < size)
    (g k cap : Nat) (xs : List Value) (hown : w.ownsRow base e size (.slice (some ⟨g, 0, none⟩) k cap) k xs) (oa : Option Addr) (m c : Nat) (news : List Value) (hn : news.length = m * size)
    (hoa : oa = none → m = 0 ∧ c = 0) (hc : ∀ ad, oa = some ad → ∀ j u, news[j]? = some u → w.cell? (ad.add j) = some u) (h1c : ∀ u ∈ news, u.oneCell' = true) (b1 : k + m ≤ maxLen) (b2 : (k + m) * bytes ≤ 140737488355328) (b3 : base ≤ w.heap.size) :
    ∃ v' w', (Builtin.append_ #[t, t] ty #[.slice (some ⟨g, 0, none⟩) k cap, .slice oa m c]).run P w = .ok v' w' ∧ w'.ownsRow base e size v' (k + m) (xs ++ news) ∧ Gz (.slice (some ⟨g, 0, none⟩) k cap) w w' ∧ Moved (.slice (some ⟨g, 0, none⟩) k cap) w v' := by
  have weak : ∀ {v : Value} {w' : World}, w.grownBy w' none → Gz v w w' := fun h => ⟨h.os, h.tape, h.output, h.size, fun i hi _ => h.block i hi (by simp)⟩
  cases oa with
  | none =>
    obtain ⟨rfl, rfl⟩ := hoa rfl
    have hnews : news = [] := List.eq_nil_of_length_eq_zero (by simpa using hn)
    subst hnews
    exact ⟨_, w, run_append_owned_none (P := P) w base t ty e i size h1 h2 _ k xs hown, by simpa using hown, .refl _ _, .inl rfl⟩
  | some ad =>
    by_cases hr : k + m ≤ cap
    · obtain ⟨w', hrun, r1, r2⟩ := run_append_fits (P := P) w base t ty e i size h1 h2 h4 g k cap xs hown ad m c news hn (hc ad rfl) h1c hr
      exact ⟨_, w', hrun, r1, r2, .inl rfl⟩
    · obtain ⟨v', w', hrun, r1, r2⟩ := run_append_arg_grows (P := P) w t ty e i z size bytes h1 h2 h3 h4 h5 h6 h7 ⟨g, 0, none⟩ k cap xs hown.1 (fun j u hj => hown.cells (g := g) rfl j u hj) ad m c news hn (hc ad rfl) (by omega) b1 b2
      exact ⟨v', w', hrun, own_mono r1 b3, weak r2, .inr fun g e => (World.ownsRow.lt r1 g e).1⟩
theorem brings_append {P : Program} {w : World} {o : Oper} {a : Act} {R : Value → World → Prop} (s x : Operand) (t : TypeId) (hop : o.op = Op.call { callee := Callee.builtin Builtin.append, args := #[s, x], argTypes := #[t, t] })
    {v1 v2 v' : Value} {w' : World} (hs : a.eval s = v1) (hx : a.eval x = v2) (hrun : (Builtin.append_ #[t, t] o.type #[v1, v2]).run P w = .ok v' w') (hR : R v' w') : Rg.BringsS P R ((execOp a.eval o).run P w) := by
  simp [execOp, hop, resolve, invoke, builtin, hs, hx, hrun, Result.andThen, Rg.BringsS, hR]
def Late2 (idx m : Nat) (T : TypeId) (w : World) (RX : World → Value → World → Prop) (CS : Value → Array Value → Prop) (s : Nat) (v : Nat → Value) (W : World) : Prop :=
  if s = 0 then Gr w W else if s = 1 then ∃ W0, Gr w W0 ∧ RX W0 (v idx) W else ∃ W0 W1 cs, Gr w W0 ∧ RX W0 (v idx) W1 ∧ CS (v idx) cs ∧ W = W1.alloc (.cells cs T) ∧ v (idx + 1) = .slice (some ⟨W1.heap.size, 0, none⟩) m m
section
variable {idx m : Nat} {T : TypeId} {w W : World} {RX : World → Value → World → Prop} {CS : Value → Array Value → Prop} {v : Nat → Value}
theorem Late2.s0 (h : Gr w W) : Late2 idx m T w RX CS 0 v W := by unfold Late2; rw [if_pos rfl]; exact h
theorem Late2.g0 (h : Late2 idx m T w RX CS 0 v W) : Gr w W := by unfold Late2 at h; rw [if_pos rfl] at h; exact h
theorem Late2.s1 (h : ∃ W0, Gr w W0 ∧ RX W0 (v idx) W) : Late2 idx m T w RX CS 1 v W := by unfold Late2; rw [if_neg (by decide), if_pos rfl]; exact h
theorem Late2.g1 (h : Late2 idx m T w RX CS 1 v W) : ∃ W0, Gr w W0 ∧ RX W0 (v idx) W := by unfold Late2 at h; rw [if_neg (by decide), if_pos rfl] at h; exact h
theorem Late2.s2 {W0 : World} {cs : Array Value} (h0 : Gr w W0) (h1 : RX W0 (v idx) W) (h2 : CS (v idx) cs) : Late2 idx m T w RX CS 2 (Rg.upd v (idx + 1) (.slice (some ⟨W.heap.size, 0, none⟩) m m)) (W.alloc (.cells cs T)) := by
  unfold Late2
  rw [if_neg (by decide), if_neg (by decide)]
  have e : Rg.upd v (idx + 1) (.slice (some ⟨W.heap.size, 0, none⟩) m m) idx = v idx := by simp [Rg.upd]
  exact ⟨W0, W, cs, h0, by rw [e]; exact h1, by rw [e]; exact h2, rfl, upd_same _ _ _⟩
theorem Late2.g2 (h : Late2 idx m T w RX CS 2 v W) : ∃ W0 W1 cs, Gr w W0 ∧ RX W0 (v idx) W1 ∧ CS (v idx) cs ∧ W = W1.alloc (.cells cs T) ∧ v (idx + 1) = .slice (some ⟨W1.heap.size, 0, none⟩) m m := by unfold Late2 at h; rw [if_neg (by decide), if_neg (by decide)] at h; exact h
theorem Late2.any {p s : Nat} (hR : ∀ W0 u W, RX W0 u W → Go1 p W0 W) (h : Late2 idx m T w RX CS s v W) : Go1 p w W := by
  unfold Late2 at h
  split at h
  · exact .of h
  · split at h
    · obtain ⟨W0, h1, h2⟩ := h; exact (Go1.of h1).trans (hR _ _ _ h2)
    · obtain ⟨W0, W1, cs, h1, h2, _, rfl, _⟩ := h; exact ((Go1.of h1).trans (hR _ _ _ h2)).block2 ((Gr.refl _).alloc _)
end
theorem xr_inj {r1 r2 : XR} (h : r1.val = r2.val) : r1 = r2 := by
  obtain ⟨⟨o1, ⟨a1, a2, a3, a4⟩, a5, a6, a7, a8, a9, a10⟩, b1, b2, b3⟩ := r1
  obtain ⟨⟨o2, ⟨c1, c2, c3, c4⟩, c5, c6, c7, c8, c9, c10⟩, d1, d2, d3⟩ := r2
  simp [XR.val] at h
  simp [h]
def CsX (pre : Array Value) (u : Value) (cs : Array Value) : Prop := ∃ ry : XR, u = ry.val ∧ cs = pre ++ ry.cells
end Go.Proofs.YtbeinfhgfflneaaGreat
end
section
namespace Go.Proofs.YtbeinfhgfflneaaGreat
open Go.RowKit
set_option linter.unusedVariables false
theorem Go1.row (g : Nat) (w : World) (cs : Array Value) : Go1 g w (w.setRow g cs) :=
  ⟨rfl, rfl, rfl, by simp [World.setRow], fun i _ hi => setRow_other w g i cs (fun e => hi (by rw [e]))⟩
theorem st_row {P : Program} {ops : Array Oper} {rest : List Oper} {o : Oper} {a : Act} {w : World} {Q : Exit → Act → World → Prop} {ty : TypeId} {x y : Operand} (ho : o.op = .store ty x y) (hgd : o.guard = none)
    (g : Nat) (cells : Array Value) (hx : a.eval x = .pointer (some ⟨g, 0, none⟩)) (hy : a.eval y = .agg cells)
    (t : TypeId) (old : Array Value) (hg : w.heap[g]? = some (.cells old t (0, 0))) (hi : (P.info? ty).map (·.size) = some cells.size)
    (hold : old.size = cells.size) (h1 : cells.all (·.oneCell') = true)
    (hK : ∀ W, W.heap[g]? = some (.cells cells t (0, 0)) → Go1 g w W → W.heap.size = w.heap.size → wpList P ops Q rest (a.put o.dst undef) W) : wpList P ops Q (o :: rest) a w :=
  wpList_plain hgd fun _ hK' => wp_store_row ty x y ho g cells hx hy t old hg hi hold h1 (hK' _ _ (hK _ (setRow_heap w g old cells t (0, 0) hg) (Go1.row g w cells) (by simp [World.setRow])))
theorem giveG {p : Nat} {w w2 W5 : World} {R0 : Nat} {R : Ex × Ps} {r : XR} {x : Ex} (hpw : p < w.heap.size) (hR0 : R0 = w.heap.size) (hx : Ex.At (fun b => w.heap.size ≤ b ∧ b ≠ R0) w2 x r) (hps : PS p w2 R.2) (hgo : Go1 p w w2) (hxs : R.2.good = true → x = R.1) (hS : Go1 R0 w2 W5) : Rx p w R r.val W5 := by
  refine ⟨r, x, rfl, ?_, hps.go hS (by omega), hgo.own hS (by omega), hxs⟩
  exact (hx.of hS.size (fun b hb hl => hS.get hl hb.2)).mono (fun b _ hb => hb.1)
theorem CB.giveG {p : Nat} {w : World} {R0 E : Nat} {r : XR} {x : Ex} {w' W5 : World} (h : CB p w R0 E r x w') {R : Ex × Ps} {r' : XR} {x' : Ex} (hx : Ex.At (fun b => w.heap.size ≤ b ∧ b ≠ R0) w' x' r') (hps : PS p w' R.2) (hxs : R.2.good = true → x' = R.1) (hS : Go1 R0 w' W5) : Rx p w R r'.val W5 :=
  Go.Proofs.YtbeinfhgfflneaaGreat.giveG h.hp h.h0 hx hps h.g hxs hS
end Go.Proofs.YtbeinfhgfflneaaGreat
end
section
namespace Go.Proofs.YtbeinfhgfflneaaGreat
open Go.RowKit
set_option linter.unusedSimpArgs false
set_option linter.unusedVariables false
attribute [local go_sem] Rg.leads_value Rg.leads_skip Rg.leads_enter Rg.brings_value Rg.brings_skip Rg.brings_enter Rg.bringsG_value Rg.bringsG_enter Rg.once_normal Rg.once_exit Rg.once_ret Rg.once_panic Rg.once_goto
def fcs : List Value := [.nilFunc, .func (.func 42) #[] #[], .nilFunc, .func (.func 43) #[] #[], .func (.func 44) #[] #[], .func (.func 45) #[] #[], .func (.func 46) #[] #[], .func (.func 47) #[] #[], .func (.func 48) #[] #[], .nilFunc, .nilFunc, .nilFunc, .nilFunc, .nilFunc, .nilFunc, .func (.func 49) #[] #[], .func (.func 50) #[] #[], .func (.func 51) #[] #[], .nilFunc, .nilFunc, .nilFunc, .nilFunc, .nilFunc, .nilFunc, .func (.func 52) #[] #[]]
def ics : List Int := [0, 0, 0, 0, -1, -1, 2, 2, 1, 0, 0, 0, 0, 0, 0, 1, -1, 3, 0, 0, 0, 0, 0, 0, 1]
def icv : List Value := ics.map (Value.int .i64)
def fz : List Value := List.replicate 25 .nilFunc
def iz : List Value := List.replicate 25 (.int .i64 0)
theorem gr_boxE {w1 W : World} {o : Obj} (h5 : Go1 w1.heap.size (w1.alloc o) W) : Gr w1 W := ((Gr.refl w1).alloc o).grown h5 (fun b e => by cases e; exact Nat.le_refl _)
theorem hid_lt {W : World} {g : Nat} {o : Obj} (h : Hid (W.heap[g]? = some o)) : g < W.heap.size := (Array.getElem?_eq_some_iff.1 h.out).1
set_option maxHeartbeats 4000000 in
set_option maxRecDepth 100000 in
theorem table_less (op : Int) (w : World) (h1 : 9 ≤ op) (h2 : op ≤ 14) : Calls Tryz.prog 32 #[.int .i64 op] w fun e w' => e = .returned (.tuple #[.func (.func 53) #[] #[], .int .i64 2]) ∧ Gr w w' := by
  have t1 : decide (9 ≤ op) = true := by simpa using h1
  have t2 : decide (op ≤ 14) = true := by simpa using h2
  have H0 : Hid ((w.alloc (.cells fz.toArray 90)).heap[w.heap.size]? = some (.cells fz.toArray 90 (0, 0))) := hid (alloc_at _ _)
  have HG0 : Hid (∀ W5, Go1 w.heap.size (w.alloc (.cells fz.toArray 90)) W5 → Gr w W5) := hid (fun W5 h5 => ((Gr.refl w).alloc _).grown h5 (fun g e => by cases e; exact Nat.le_refl _))
  clear h1 h2
  go_enter Tryz.func32, Tryz.ntmps32
  go_wp2_with (first | (guard_target =~ wpList _ _ _ (Oper.mk _ (Op.store 90 _ _) _ _ _ _ :: _) _ _; refine st_row (ty := 90) rfl rfl w.heap.size fcs.toArray rfl rfl 90 _ H0.out (by kernel_rfl) rfl (by kernel_rfl) ?_; intro W5 hW5 gW5 zW5; have hg := HG0.out W5 gW5; have HF := hid hW5; clear gW5 zW5 hW5; have HI := hid (alloc_at W5 (.cells iz.toArray 91))) | (guard_target =~ wpList _ _ _ (Oper.mk _ (Op.store 91 _ _) _ _ _ _ :: _) _ _; refine st_row (ty := 91) rfl rfl W5.heap.size icv.toArray rfl rfl 91 _ HI.out (by kernel_rfl) rfl (by kernel_rfl) ?_; intro W6 hW6 gW6 zW6; have hg6 : Gr w W6 := hg.trans (gr_boxE gW6); clear hW6 gW6 zW6 HF HI hg))
  go_returns
  exact ⟨rfl, hg6⟩
set_option maxHeartbeats 4000000 in
set_option maxRecDepth 100000 in
theorem table_math (op : Int) (w : World) (h1 : 18 ≤ op) (h2 : op ≤ 23) : Calls Tryz.prog 32 #[.int .i64 op] w fun e w' => e = .returned (.tuple #[.func (.func 54) #[] #[], .int .i64 2]) ∧ Gr w w' := by
  have t0 : decide (9 ≤ op) = true := by simp; omega
  have t1 : decide (op ≤ 14) = false := by simp; omega
  have t2 : decide (18 ≤ op) = true := by simpa using h1
  have t3 : decide (op ≤ 23) = true := by simpa using h2
  have H0 : Hid ((w.alloc (.cells fz.toArray 90)).heap[w.heap.size]? = some (.cells fz.toArray 90 (0, 0))) := hid (alloc_at _ _)
  have HG0 : Hid (∀ W5, Go1 w.heap.size (w.alloc (.cells fz.toArray 90)) W5 → Gr w W5) := hid (fun W5 h5 => ((Gr.refl w).alloc _).grown h5 (fun g e => by cases e; exact Nat.le_refl _))
  clear h1 h2
  go_enter Tryz.func32, Tryz.ntmps32
  go_wp2_with (first | (guard_target =~ wpList _ _ _ (Oper.mk _ (Op.store 90 _ _) _ _ _ _ :: _) _ _; refine st_row (ty := 90) rfl rfl w.heap.size fcs.toArray rfl rfl 90 _ H0.out (by kernel_rfl) rfl (by kernel_rfl) ?_; intro W5 hW5 gW5 zW5; have hg := HG0.out W5 gW5; have HF := hid hW5; clear gW5 zW5 hW5; have HI := hid (alloc_at W5 (.cells iz.toArray 91))) | (guard_target =~ wpList _ _ _ (Oper.mk _ (Op.store 91 _ _) _ _ _ _ :: _) _ _; refine st_row (ty := 91) rfl rfl W5.heap.size icv.toArray rfl rfl 91 _ HI.out (by kernel_rfl) rfl (by kernel_rfl) ?_; intro W6 hW6 gW6 zW6; have hg6 : Gr w W6 := hg.trans (gr_boxE gW6); clear hW6 gW6 zW6 HF HI hg))
  go_returns
  exact ⟨rfl, hg6⟩
set_option maxHeartbeats 4000000 in
set_option maxRecDepth 100000 in
theorem table_low (op : Int) (w : World) (h : op < 0) : Calls Tryz.prog 32 #[.int .i64 op] w fun e w' => e = .returned (.tuple #[.nilFunc, .int .i64 0]) ∧ Gr w w' := by
  have t0 : decide (9 ≤ op) = false := by simp; omega
  have t2 : decide (18 ≤ op) = false := by simp; omega
  have t3 : decide (op < 0) = true := by simpa using h
  have H0 : Hid ((w.alloc (.cells fz.toArray 90)).heap[w.heap.size]? = some (.cells fz.toArray 90 (0, 0))) := hid (alloc_at _ _)
  have HG0 : Hid (∀ W5, Go1 w.heap.size (w.alloc (.cells fz.toArray 90)) W5 → Gr w W5) := hid (fun W5 h5 => ((Gr.refl w).alloc _).grown h5 (fun g e => by cases e; exact Nat.le_refl _))
  clear h
  go_enter Tryz.func32, Tryz.ntmps32
  go_wp2_with (first | (guard_target =~ wpList _ _ _ (Oper.mk _ (Op.store 90 _ _) _ _ _ _ :: _) _ _; refine st_row (ty := 90) rfl rfl w.heap.size fcs.toArray rfl rfl 90 _ H0.out (by kernel_rfl) rfl (by kernel_rfl) ?_; intro W5 hW5 gW5 zW5; have hg := HG0.out W5 gW5; have HF := hid hW5; clear gW5 zW5 hW5; have HI := hid (alloc_at W5 (.cells iz.toArray 91))) | (guard_target =~ wpList _ _ _ (Oper.mk _ (Op.store 91 _ _) _ _ _ _ :: _) _ _; refine st_row (ty := 91) rfl rfl W5.heap.size icv.toArray rfl rfl 91 _ HI.out (by kernel_rfl) rfl (by kernel_rfl) ?_; intro W6 hW6 gW6 zW6; have hg6 : Gr w W6 := hg.trans (gr_boxE gW6); clear hW6 gW6 zW6 HF HI hg))
  go_returns
  exact ⟨rfl, hg6⟩
set_option maxHeartbeats 4000000 in
set_option maxRecDepth 100000 in
theorem table_high (op : Int) (w : World) (h : 25 ≤ op) : Calls Tryz.prog 32 #[.int .i64 op] w fun e w' => e = .returned (.tuple #[.nilFunc, .int .i64 0]) ∧ Gr w w' := by
  have t0 : decide (9 ≤ op) = true := by simp; omega
  have t1 : decide (op ≤ 14) = false := by simp; omega
  have t2 : decide (18 ≤ op) = true := by simp; omega
  have t4 : decide (op ≤ 23) = false := by simp; omega
  have t3 : decide (op < 0) = false := by simp; omega
  have t5 : decide (25 ≤ op) = true := by simpa using h
  have H0 : Hid ((w.alloc (.cells fz.toArray 90)).heap[w.heap.size]? = some (.cells fz.toArray 90 (0, 0))) := hid (alloc_at _ _)
  have HG0 : Hid (∀ W5, Go1 w.heap.size (w.alloc (.cells fz.toArray 90)) W5 → Gr w W5) := hid (fun W5 h5 => ((Gr.refl w).alloc _).grown h5 (fun g e => by cases e; exact Nat.le_refl _))
  clear h
  go_enter Tryz.func32, Tryz.ntmps32
  go_wp2_with (first | (guard_target =~ wpList _ _ _ (Oper.mk _ (Op.store 90 _ _) _ _ _ _ :: _) _ _; refine st_row (ty := 90) rfl rfl w.heap.size fcs.toArray rfl rfl 90 _ H0.out (by kernel_rfl) rfl (by kernel_rfl) ?_; intro W5 hW5 gW5 zW5; have hg := HG0.out W5 gW5; have HF := hid hW5; clear gW5 zW5 hW5; have HI := hid (alloc_at W5 (.cells iz.toArray 91))) | (guard_target =~ wpList _ _ _ (Oper.mk _ (Op.store 91 _ _) _ _ _ _ :: _) _ _; refine st_row (ty := 91) rfl rfl W5.heap.size icv.toArray rfl rfl 91 _ HI.out (by kernel_rfl) rfl (by kernel_rfl) ?_; intro W6 hW6 gW6 zW6; have hg6 : Gr w W6 := hg.trans (gr_boxE gW6); clear hW6 gW6 zW6 HF HI hg))
  go_returns
  exact ⟨rfl, hg6⟩
set_option maxHeartbeats 4000000 in
set_option maxRecDepth 100000 in
theorem table_at (k : Nat) (w : World) (hk : k < 25) (h1 : (decide (9 ≤ (k : Int)) && decide ((k : Int) ≤ 14)) = false) (h2 : (decide (18 ≤ (k : Int)) && decide ((k : Int) ≤ 23)) = false) (f : Value) (n : Int) (hf : fcs[k]? = some f) (hn : ics[k]? = some n) : Calls Tryz.prog 32 #[.int .i64 (k : Int)] w fun e w' => e = .returned (.tuple #[f, .int .i64 n]) ∧ Gr w w' := by
  have t3 : decide ((k : Int) < 0) = false := by simp
  have t5 : decide (25 ≤ (k : Int)) = false := by simp; omega
  have g1 : (k : Int) < 25 := by omega
  obtain ⟨b1, c1⟩ : ∃ b, decide (9 ≤ (k : Int)) = b := ⟨_, rfl⟩
  obtain ⟨b2, c2⟩ : ∃ b, decide ((k : Int) ≤ 14) = b := ⟨_, rfl⟩
  obtain ⟨b3, c3⟩ : ∃ b, decide (18 ≤ (k : Int)) = b := ⟨_, rfl⟩
  obtain ⟨b4, c4⟩ : ∃ b, decide ((k : Int) ≤ 23) = b := ⟨_, rfl⟩
  rw [c1, c2] at h1
  rw [c3, c4] at h2
  have HC : Hid (∀ W : World, W.heap[w.heap.size]? = some (.cells fcs.toArray 90 (0, 0)) → W.cell? ⟨w.heap.size, k, none⟩ = some f) := hid (fun W h => by
    rw [Rg.blk_cells h, List.getElem?_toArray]; exact hf)
  have HN : Hid (∀ (W : World) g, W.heap[g]? = some (.cells icv.toArray 91 (0, 0)) → W.cell? ⟨g, k, none⟩ = some (.int .i64 n)) := hid (fun W g h => by
    rw [Rg.blk_cells h, List.getElem?_toArray, icv, List.getElem?_map, hn]; rfl)
  have H0 : Hid ((w.alloc (.cells fz.toArray 90)).heap[w.heap.size]? = some (.cells fz.toArray 90 (0, 0))) := hid (alloc_at _ _)
  have HG0 : Hid (∀ W5, Go1 w.heap.size (w.alloc (.cells fz.toArray 90)) W5 → Gr w W5) := hid (fun W5 h5 => ((Gr.refl w).alloc _).grown h5 (fun g e => by cases e; exact Nat.le_refl _))
  clear hk hf hn
  cases b1 <;> cases b2 <;> first | (exact absurd h1 (by decide)) | skip
  all_goals (cases b3 <;> cases b4 <;> first | (exact absurd h2 (by decide)) | skip)
  all_goals
    clear h1 h2
    go_enter Tryz.func32, Tryz.ntmps32
    go_wp2_with (first | (guard_target =~ wpList _ _ _ (Oper.mk _ (Op.store 90 _ _) _ _ _ _ :: _) _ _; refine st_row (ty := 90) rfl rfl w.heap.size fcs.toArray rfl rfl 90 _ H0.out (by kernel_rfl) rfl (by kernel_rfl) ?_; intro W5 hW5 gW5 zW5; have hg := HG0.out W5 gW5; have HF := hid hW5; clear gW5 zW5 hW5; have HI := hid (alloc_at W5 (.cells iz.toArray 91))) | (guard_target =~ wpList _ _ _ (Oper.mk _ (Op.store 91 _ _) _ _ _ _ :: _) _ _; refine st_row (ty := 91) rfl rfl W5.heap.size icv.toArray rfl rfl 91 _ HI.out (by kernel_rfl) rfl (by kernel_rfl) ?_; intro W6 hW6 gW6 zW6; have hg6 : Gr w W6 := hg.trans (gr_boxE gW6); have hf6 := HC.out W6 ((gW6.get (by simp; have := hid_lt HF; omega) (by have := hid_lt HF; omega)).trans ((((Gr.refl W5).alloc _).block _ (hid_lt HF)).trans HF.out)); have hn6 := HN.out W6 _ hW6; have l0 := lt_of_cell hf6; have l1 := lt_of_cell hn6; clear hW6 gW6 zW6 HF HI hg HC HN))
    refine Rg.region_text 7 (Below.drew (Below.refl _ _)) (by kernel_rfl) (by kernel_rfl) (fun _ _ d _ _ h => by cases d <;> exact h) ?_
    simp only [List.append_eq, List.cons_append, List.nil_append, List.take_succ_cons, List.take_zero, List.drop_succ_cons, List.drop_zero]
    repeat (first
        | (refine Rg.wpDets_skip (by rfl) ?_; simp only [Act.put, List.setIfInBounds_toArray, List.set_cons_zero, List.set_cons_succ])
        | (refine Rg.wpDets_step ?_ (by rfl) (fun w hS => ?_) ?_
           rotate_left
           · have hc := Gr.cells hS
             have hf := Gr.frees hS
             go_simp
             first
             | (refine ⟨?_, Below.refl _ _⟩; with_reducible rfl)
           simp only [Act.put, List.setIfInBounds_toArray, List.set_cons_zero, List.set_cons_succ]))
    refine Rg.wpDets_nil ?_
    refine Rg.wpFlts_nil ?_
    refine Rg.wpLays_nil ?_
    intro w' hK
    have hg : Gr _ w' := hK.up
    have hc := hg.cells
    have hf := hg.frees
    have hz := hg.size
    try simp only [World.size_alloc, World.size_setCell, World.size_drew] at hz
    try have : 0 < w'.heap.size := by omega
    try have : w.heap.size < w'.heap.size := by omega
    try have : w.heap.size + 1 < w'.heap.size := by omega
    try have : w.heap.size + 1 + 1 < w'.heap.size := by omega
    try have : w.heap.size + 1 + 1 + 1 < w'.heap.size := by omega
    go_wp2
    go_returns
    exact ⟨rfl, hg6.trans hg⟩
end Go.Proofs.YtbeinfhgfflneaaGreat
end
section
namespace Go.Proofs.YtbeinfhgfflneaaGreat
open Go.RowKit
set_option linter.unusedSimpArgs false
set_option linter.unusedVariables false
attribute [local go_sem] Rg.leads_value Rg.leads_skip Rg.leads_enter Rg.brings_value Rg.brings_skip Rg.brings_enter Rg.bringsG_value Rg.bringsG_enter Rg.once_normal Rg.once_exit Rg.once_ret Rg.once_panic Rg.once_goto
theorem fnil_some (n : FuncId) (W : World) : (binOp .eql 78 (.func (.func n) #[] #[]) .nilFunc).run Tryz.prog W = .ok (.bool false) W := by kernel_rfl
theorem fnil_none (W : World) : (binOp .eql 78 .nilFunc .nilFunc).run Tryz.prog W = .ok (.bool true) W := by kernel_rfl
set_option maxHeartbeats 4000000 in
set_option maxRecDepth 100000 in
theorem expr_none (p : Nat) (rh : Hd) (roa : Option Addr) (rn rc : Nat) (w : World) (hT : ∀ W, Calls Tryz.prog 32 #[.int .i64 rh.op] W fun e w' => e = .returned (.tuple #[.nilFunc, .int .i64 0]) ∧ Gr W w') :
    Calls Tryz.prog 18 #[.pointer (some ⟨p, 0, none⟩), XR.val ⟨rh, roa, rn, rc⟩] w (Vp (nul, 1) w) := by
  obtain ⟨op, ⟨vt, vn, vs, vb⟩, tab, name, t, c, nt, st⟩ := rh
  unfold XR.val Vp pairR nul at *
  have fs := fnil_some
  have fn := fnil_none
  go_enter Tryz.func18, Tryz.ntmps18
  go_wp2_with fail
  refine (hT _).mono ?_
  rintro e w' ⟨rfl, hg⟩
  have hc := hg.cells
  have hf := hg.frees
  have hz := hg.size
  try simp only [World.size_alloc, World.size_setCell, World.size_drew] at hz
  try have : 0 < w'.heap.size := by omega
  try have : w.heap.size < w'.heap.size := by omega
  try have : w.heap.size + 1 < w'.heap.size := by omega
  try have : w.heap.size + 1 + 1 < w'.heap.size := by omega
  try have : w.heap.size + 1 + 1 + 1 < w'.heap.size := by omega
  go_wp2
  all_goals
    (try (go_step3; (try simp only [Exit.then]); (try change Rg.once _ _ _ _ _ _); rw [Rg.once_goto]; go_wp2))
    (try rw [Rg.once_ret])
    (try rw [Exit.noGoto_ret])
    (try change bodyPost _ _ _ _ _ _)
    first
    | (go_returns; refine ⟨?_, ?_⟩)
    | (refine bodyPost_ret (by simp [results, Tryz.results18, go_sem, *]; try rfl) rfl ⟨?_, ?_⟩)
    rotate_left
    · repeat' (first | exact Gr.refl _ | exact Nat.le_refl _ | exact Nat.le_add_right _ _ | refine Gr.setCell ?_ ?_ _ | refine Gr.alloc ?_ _ | refine Gr.drew ?_ | refine Gr.trans ?_ (by assumption) | omega | (dsimp only; omega))
  all_goals rfl
set_option maxHeartbeats 4000000 in
set_option maxRecDepth 100000 in
theorem expr_few (p : Nat) (rh : Hd) (roa : Option Addr) (rn rc : Nat) (w : World) (n : FuncId) (k : Nat) (hT : ∀ W, Calls Tryz.prog 32 #[.int .i64 rh.op] W fun e w' => e = .returned (.tuple #[.func (.func n) #[] #[], .int .i64 (k : Int)]) ∧ Gr W w') (hk : ¬ rn = k) :
    Calls Tryz.prog 18 #[.pointer (some ⟨p, 0, none⟩), XR.val ⟨rh, roa, rn, rc⟩] w (Vp (nul, 1) w) := by
  obtain ⟨op, ⟨vt, vn, vs, vb⟩, tab, name, t, c, nt, st⟩ := rh
  have t1 : decide (0 ≤ (k : Int)) = true := by simp
  have t2 : ((rn : Int) != (k : Int)) = true := by simp; omega
  unfold XR.val Vp pairR nul at *
  clear hk
  have fs := fnil_some
  have fn := fnil_none
  go_enter Tryz.func18, Tryz.ntmps18
  go_wp2_with fail
  refine (hT _).mono ?_
  rintro e w' ⟨rfl, hg⟩
  have hc := hg.cells
  have hf := hg.frees
  have hz := hg.size
  try simp only [World.size_alloc, World.size_setCell, World.size_drew] at hz
  try have : 0 < w'.heap.size := by omega
  try have : w.heap.size < w'.heap.size := by omega
  try have : w.heap.size + 1 < w'.heap.size := by omega
  try have : w.heap.size + 1 + 1 < w'.heap.size := by omega
  try have : w.heap.size + 1 + 1 + 1 < w'.heap.size := by omega
  go_wp2
  all_goals
    (try (go_step3; (try simp only [Exit.then]); (try change Rg.once _ _ _ _ _ _); rw [Rg.once_goto]; go_wp2))
    (try rw [Rg.once_ret])
    (try rw [Exit.noGoto_ret])
    (try change bodyPost _ _ _ _ _ _)
    first
    | (go_returns; refine ⟨?_, ?_⟩)
    | (refine bodyPost_ret (by simp [results, Tryz.results18, go_sem, *]; try rfl) rfl ⟨?_, ?_⟩)
    rotate_left
    · repeat' (first | exact Gr.refl _ | exact Nat.le_refl _ | exact Nat.le_add_right _ _ | refine Gr.setCell ?_ ?_ _ | refine Gr.alloc ?_ _ | refine Gr.drew ?_ | refine Gr.trans ?_ (by assumption) | omega | (dsimp only; omega))
  all_goals rfl
set_option maxHeartbeats 4000000 in
set_option maxRecDepth 100000 in
theorem expr_some (p : Nat) (rh : Hd) (roa : Option Addr) (rn rc : Nat) (w : World) (n : FuncId) (k : Int) (q : V × Int) (hT : ∀ W, Calls Tryz.prog 32 #[.int .i64 rh.op] W fun e w' => e = .returned (.tuple #[.func (.func n) #[] #[], .int .i64 k]) ∧ Gr W w') (hk : k < 0 ∨ (rn : Int) = k) (hF : ∀ args W, (callFunc n args).run Tryz.prog W = .ok (.enter n args) W)
    (hM : ∀ W, Gr w W → Calls Tryz.prog n #[.pointer (some ⟨p, 0, none⟩), XR.val ⟨rh, roa, rn, rc⟩] W (Vp q W)) :
    Calls Tryz.prog 18 #[.pointer (some ⟨p, 0, none⟩), XR.val ⟨rh, roa, rn, rc⟩] w (Vp q w) := by
  obtain ⟨op, ⟨vt, vn, vs, vb⟩, tab, name, t, c, nt, st⟩ := rh
  obtain ⟨⟨tq, nq, sq, bq⟩, eq⟩ := q
  have t1 : (decide (0 ≤ k) = false ∨ (decide (0 ≤ k) = true ∧ ((rn : Int) != k) = false)) := by
    rcases hk with h | h
    · left; simpa using h
    · right; exact ⟨by rw [← h]; simp, by rw [h]; simp⟩
  have HM := hid hM
  unfold XR.val Vp pairR at *
  clear hk hM
  rcases t1 with t1 | ⟨t1, t2⟩
  all_goals
    have fs := fnil_some
    go_enter Tryz.func18, Tryz.ntmps18
    go_wp2_with fail
    refine (hT _).mono ?_
    rintro e w' ⟨rfl, hg⟩
    have hc := hg.cells
    have hf := hg.frees
    have hz := hg.size
    try simp only [World.size_alloc, World.size_setCell, World.size_drew] at hz
    try have : 0 < w'.heap.size := by omega
    try have : w.heap.size < w'.heap.size := by omega
    try have : w.heap.size + 1 < w'.heap.size := by omega
    try have : w.heap.size + 1 + 1 < w'.heap.size := by omega
    try have : w.heap.size + 1 + 1 + 1 < w'.heap.size := by omega
    go_wp2_with (refine (HM.out _ ?_).mono ?_)
    rotate_left
    · rintro e w2 ⟨rfl, hg2⟩
      have hc := hg2.cells
      have hf := hg2.frees
      have hz := hg2.size
      have : w.heap.size < w2.heap.size := by omega
      have : w.heap.size + 1 < w2.heap.size := by omega
      go_wp2
      all_goals
        (try (go_step3; (try simp only [Exit.then]); (try change Rg.once _ _ _ _ _ _); rw [Rg.once_goto]; go_wp2))
        (try rw [Rg.once_ret])
        (try rw [Exit.noGoto_ret])
        (try change bodyPost _ _ _ _ _ _)
        first
        | (go_returns; refine ⟨?_, ?_⟩)
        | (refine bodyPost_ret (by simp [results, Tryz.results18, go_sem, *]; try rfl) rfl ⟨?_, ?_⟩)
        rotate_left
        · repeat' (first | exact Gr.refl _ | exact Nat.le_refl _ | exact Nat.le_add_right _ _ | refine Gr.setCell ?_ ?_ _ | refine Gr.alloc ?_ _ | refine Gr.drew ?_ | refine Gr.trans ?_ (by assumption) | omega | (dsimp only; omega))
      all_goals rfl
    · repeat' (first | exact Gr.refl _ | exact Nat.le_refl _ | exact Nat.le_add_right _ _ | refine Gr.setCell ?_ ?_ _ | refine Gr.alloc ?_ _ | refine Gr.drew ?_ | refine Gr.trans ?_ (by assumption) | omega | (dsimp only; omega))
end Go.Proofs.YtbeinfhgfflneaaGreat
end
section
namespace Go.Proofs.YtbeinfhgfflneaaGreat
open Go.RowKit
set_option linter.unusedSimpArgs false
set_option linter.unusedVariables false
attribute [local go_sem] Rg.leads_value Rg.leads_skip Rg.leads_enter Rg.brings_value Rg.brings_skip Rg.brings_enter Rg.bringsG_value Rg.bringsG_enter Rg.once_normal Rg.once_exit Rg.once_ret Rg.once_panic Rg.once_goto
def Kp (rs : List (V × Int)) (w : World) (e : Ending) (w' : World) : Prop := Gr w w' ∧ ((errR rs = 0 ∧ ∃ oa c, e = .returned (.tuple #[.slice oa rs.length c, .int .i64 0]) ∧ VAt w' oa (valsR rs)) ∨ (errR rs ≠ 0 ∧ e = .returned (.tuple #[.slice none 0 0, .int .i64 (errR rs)])))
theorem errR_drop (rs : List (V × Int)) (k : Nat) (h : k < rs.length) (h0 : rs[k].2 = 0) : errR (rs.drop k) = errR (rs.drop (k + 1)) := by
  rw [List.drop_eq_getElem_cons h]
  simp only [errR]
  rw [if_pos (by simpa using h0)]
theorem errR_bad (rs : List (V × Int)) (k : Nat) (h : k < rs.length) (h0 : rs[k].2 ≠ 0) : errR (rs.drop k) = rs[k].2 := by
  rw [List.drop_eq_getElem_cons h]
  simp only [errR]
  rw [if_neg (by simpa using h0)]
theorem vals_snoc (rs : List (V × Int)) (k : Nat) (h : k < rs.length) : valsR (rs.take (k + 1)) = valsR (rs.take k) ++ [rs[k].1] := by
  unfold valsR
  rw [List.take_add_one, List.getElem?_eq_getElem h, List.map_append]
  rfl
def zeroV : Array Value := #[.int .i64 0, .int .i64 0, .string ⟨#[]⟩, .bool false]
def KdRel (rs : List (V × Int)) (w : World) (s6 s14 : Value) (wr : World) : Prop := ∃ k : Nat, s14 = .int .i64 (k : Int) ∧ k ≤ rs.length ∧ Gr w wr ∧ wr.ownsRow w.heap.size 23 4 s6 k (cellsF vF (valsR (rs.take k))) ∧ errR (rs.drop k) = errR rs
theorem KdRel.next {rs : List (V × Int)} {w wr w3 w5 : World} {k : Nat} {v6 v' : Value} {cs : Array Value} (hk : k < rs.length) (ha : rs[k].2 = 0) (hE : errR (rs.drop k) = errR rs) (hg : Gr w wr) (hown : wr.ownsRow w.heap.size 23 4 v6 k (cellsF vF (valsR (rs.take k)))) (hg3 : Gr wr w3)
    (hown' : w5.ownsRow w.heap.size 23 4 v' (k + 1) (cellsF vF (valsR (rs.take k)) ++ vF rs[k].1)) (hz5 : Gz v6 (w3.alloc (.cells cs 23)) w5) : KdRel rs w v' (.int .i64 ((k : Int) + 1)) w5 := by
  refine ⟨k + 1, by simp, hk, ((hg.trans hg3).alloc _).grown hz5 (fun g e => (World.ownsRow.lt hown g e).1), ?_, ?_⟩
  · rw [vals_snoc rs k hk, cellsF_snoc]; exact hown'
  · rw [← errR_drop rs k hk ha]; exact hE
set_option maxHeartbeats 8000000 in
set_option maxRecDepth 100000 in
theorem kids_form (p : Nat) (rh : Hd) (roa : Option Addr) (rn rc : Nat) (w : World) (rs : List (V × Int)) (hK : KD p w roa rn rs) : Calls Tryz.prog 72 #[.pointer (some ⟨p, 0, none⟩), XR.val ⟨rh, roa, rn, rc⟩] w (Kp rs w) := by
  obtain ⟨hn, hb, hk⟩ := hK
  subst hn
  obtain ⟨op, ⟨vt, vn, vs, vb⟩, tab, name, t, c, nt, st⟩ := rh
  have HK := hid hk
  have HP : Hid (∀ e w', (Gr w w' ∧ ((errR rs = 0 ∧ ∃ oa c, e = .returned (.tuple #[.slice oa rs.length c, .int .i64 0]) ∧ VAt w' oa (valsR rs)) ∨ (errR rs ≠ 0 ∧ e = .returned (.tuple #[.slice none 0 0, .int .i64 (errR rs)])))) → Kp rs w e w') := hid (fun e w' h => h)
  generalize Kp rs w = Q at *
  clear hk
  unfold XR.val
  go_enter Tryz.func72, Tryz.ntmps72
  go_wp2_with fail
  go_loopw [6, 14] (fun s6 s14 wr => KdRel rs w s6 s14 wr) (fun _ s14 _ => rs.length - (intOf s14).toNat)
  · refine ⟨0, rfl, Nat.zero_le _, (Gr.refl _).alloc _, ?_, rfl⟩
    exact ⟨by simp [cellsF, valsR], .inl ⟨rfl, rfl⟩⟩
  · obtain ⟨k, rfl, hk, hg, hown, hE⟩ := hrel
    have HOWN := hid hown
    have HE := hid hE
    have HG := hid hg
    clear hown hE
    by_cases hkn : k < rs.length
    · have t0 : decide ((k : Int) < (rs.length : Int)) = true := by rw [decide_eq_true_iff]; omega
      have g1 : (k : Int) < (rs.length : Int) := by omega
      have hwk : wrap64 ((k : Int) + 1) = (k : Int) + 1 := by unfold wrap64; omega
      obtain ⟨b, off, rk, hoa, hbl, hcs, HC⟩ := HK.out k hkn
      subst hoa
      have hbr : b < wr.heap.size := Nat.lt_of_lt_of_le hbl hg.size
      obtain ⟨k0, k1, k2, k3, k4, k5, k6, k7, k8, k9, k10, k11⟩ := kid_cells (w := wr) (fun i u hu => hg.keep (hcs i u hu))
      have HC := hid (fun W h => HC W (hg.trans h))
      obtain ⟨a, ha⟩ : ∃ a, rs[k] = a := ⟨_, rfl⟩
      simp only [ha] at HC
      have HA := hid ha
      have HM : Hid (rs.length - (k + 1) < rs.length - k) := hid (by omega)
      obtain ⟨⟨ta, na, sa, ba⟩, ea⟩ := a
      have HAL := hid (alloc_at wr (.cells zeroX 26))
      have HGB := hid (fun W5 h => gr_boxE (w1 := wr) (o := .cells zeroX 26) (W := W5) h)
      clear hcs ha hg hk
      unfold XR.val Vp pairR at HC
      by_cases h : ea = 0
      · subst h
        go_wp2_with (first | (guard_target =~ wpList _ _ _ (Oper.mk _ (Op.store 26 _ _) _ _ _ _ :: _) _ _; refine st_row (ty := 26) rfl rfl wr.heap.size rk.cells rfl rfl 26 _ HAL.out (by kernel_rfl) rfl (by kernel_rfl) ?_; intro W5 hW5 gW5 zW5; have hg5 := HGB.out W5 gW5; have HW5 := hid hW5; clear gW5 zW5 hW5) | (guard_target =~ wpList _ _ _ (Oper.mk _ (Op.load 26 _) _ _ _ _ :: _) _ _; refine wpList_load_row rfl 26 _ rfl wr.heap.size rfl 26 rk.cells (0, 0) _ HW5.out Tryz.underlying26 rfl (by kernel_rfl) ?_))
        refine (HC.out W5 hg5).mono ?_
        rintro e w3 ⟨rfl, hg3⟩
        have HG3 := hid (hg5.trans hg3)
        have HAV := hid (alloc_at w3 (.cells zeroV 23))
        have HGV := hid (fun W6 h => gr_boxE (w1 := w3) (o := .cells zeroV 23) (W := W6) h)
        clear hg3 hg5 HC HAL HGB HW5 k0 k1 k2 k3 k4 k5 k6 k7 k8 k9 k10 k11
        obtain ⟨i0, hi0, hz0, hz1, hz2⟩ := info_parts v_info
        go_wp2_with (first | (guard_target =~ wpList _ _ _ (Oper.mk _ (Op.store 23 _ _) _ _ _ _ :: _) _ _; refine st_row (ty := 23) rfl rfl w3.heap.size #[.int .i64 ta, .int .i64 na, .string sa, .bool ba] rfl rfl 23 _ HAV.out (by kernel_rfl) rfl (by kernel_rfl) ?_; intro W6 hW6 gW6 zW6; have HG6 := hid (HG3.out.trans (HGV.out W6 gW6)); have HW6 := hid hW6; clear gW6 zW6 hW6) | (guard_target =~ wpList _ _ _ (Oper.mk _ (Op.load 23 _) _ _ _ _ :: _) _ _; refine wpList_load_row rfl 23 _ rfl w3.heap.size rfl 23 #[.int .i64 ta, .int .i64 na, .string sa, .bool ba] (0, 0) _ HW6.out Tryz.underlying23 rfl (by kernel_rfl) ?_) | (at_builtin; refine append_one _ rfl _ _ 42 rfl w.heap.size 23 i0 _ 4 40 Tryz.underlying42 hi0 hz0 hz1 hz2 rfl (by decide) u6 k (cellsF vF (valsR (rs.take k))) rfl (own_keep HOWN.out (HG6.out.alloc _)) ⟨W6.heap.size, 0, none⟩ 1 (vF ⟨ta, na, sa, ba⟩) rfl rfl ?ma1 ?ma2 ?ma3 ?ma4 ?ma5 ?_))
        case ma1 =>
          intro j u hu
          rw [addN, Nat.zero_add, Rg.blk_cells (alloc_at _ _)]
          simpa [vF] using hu
        case ma2 => exact vE.one _
        case ma3 => unfold maxLen; omega
        case ma4 => omega
        case ma5 => simp; have := HG.out.size; have := HG6.out.size; omega
        intro v' w5 hown5 hz5 hmv
        have HX := hid (KdRel.next hkn (by rw [HA.out]) HE.out HG.out HOWN.out HG6.out (by rw [HA.out]; exact hown5) hz5)
        clear hown5 hz5 hmv HOWN HE HG HA HG6 HW6 HG3 HAV HGV HK HP
        go_wp2
        exact ⟨HX.out, HM.out⟩
      · have q1 : (ea != 0) = true := by simpa using h
        have HEB : Hid (errR rs = ea) := hid (by rw [← HE.out, errR_bad rs k hkn (by rw [HA.out]; exact h)]; rw [HA.out])
        have HQ : Hid (∀ w', Gr w w' → Q (.returned (.tuple #[.slice none 0 0, .int .i64 ea])) w') := hid (fun w' hw => HP.out _ w' ⟨hw, .inr ⟨by rw [HEB.out]; exact h, by rw [HEB.out]⟩⟩)
        clear h HP HEB HE HA HOWN HM
        go_wp2_with (first | (guard_target =~ wpList _ _ _ (Oper.mk _ (Op.store 26 _ _) _ _ _ _ :: _) _ _; refine st_row (ty := 26) rfl rfl wr.heap.size rk.cells rfl rfl 26 _ HAL.out (by kernel_rfl) rfl (by kernel_rfl) ?_; intro W5 hW5 gW5 zW5; have hg5 := HGB.out W5 gW5; have HW5 := hid hW5; clear gW5 zW5 hW5) | (guard_target =~ wpList _ _ _ (Oper.mk _ (Op.load 26 _) _ _ _ _ :: _) _ _; refine wpList_load_row rfl 26 _ rfl wr.heap.size rfl 26 rk.cells (0, 0) _ HW5.out Tryz.underlying26 rfl (by kernel_rfl) ?_))
        refine (HC.out W5 hg5).mono ?_
        rintro e w3 ⟨rfl, hg3⟩
        have HG3 := hid (hg5.trans hg3)
        have HAV := hid (alloc_at w3 (.cells zeroV 23))
        have HGV := hid (fun W6 h => gr_boxE (w1 := w3) (o := .cells zeroV 23) (W := W6) h)
        clear hg3 hg5 HC HAL HGB HW5 k0 k1 k2 k3 k4 k5 k6 k7 k8 k9 k10 k11
        go_wp2_with (guard_target =~ wpList _ _ _ (Oper.mk _ (Op.store 23 _ _) _ _ _ _ :: _) _ _; refine st_row (ty := 23) rfl rfl w3.heap.size #[.int .i64 ta, .int .i64 na, .string sa, .bool ba] rfl rfl 23 _ HAV.out (by kernel_rfl) rfl (by kernel_rfl) ?_; intro W6 hW6 gW6 zW6; have HG6 := hid (HG3.out.trans (HGV.out W6 gW6)); clear gW6 zW6 hW6)
        have HF := hid (HQ.out W6 (HG.out.trans HG6.out))
        clear HQ HG HG6 HG3
        first | exact HF.out | (go_ret; exact HF.out) | (go_ret3; exact HF.out)
    · have t0 : decide ((k : Int) < (rs.length : Int)) = false := by rw [decide_eq_false_iff_not]; omega
      obtain rfl : k = rs.length := by omega
      have hE0 : errR rs = 0 := by rw [← HE.out, List.drop_length]; rfl
      have hO := HOWN.out
      rw [List.take_length] at hO
      obtain ⟨oa, c2, rfl, hat, _⟩ := own_at0 (f := vF) (n := 4) (l := valsR rs) vE (by rw [show (valsR rs).length = rs.length from by simp [valsR]]; exact hO)
      rw [show (valsR rs).length = rs.length from by simp [valsR]]
      have HF := hid (HP.out _ wr ⟨hg, .inl ⟨hE0, oa, c2, rfl, hat⟩⟩)
      clear hO hat hE0 HP HK HOWN HE HG hg
      go_wp2
      first | exact HF.out | (go_ret; exact HF.out) | (go_ret3; exact HF.out)
end Go.Proofs.YtbeinfhgfflneaaGreat
end
section
namespace Go.Proofs.YtbeinfhgfflneaaGreat
open Go.RowKit
set_option linter.unusedSimpArgs false
set_option linter.unusedVariables false
attribute [local go_sem] Rg.leads_value Rg.leads_skip Rg.leads_enter Rg.brings_value Rg.brings_skip Rg.brings_enter Rg.bringsG_value Rg.bringsG_enter Rg.once_normal Rg.once_exit Rg.once_ret Rg.once_panic Rg.once_goto
theorem Kp.two {a b : V × Int} {w w' : World} {e : Ending} (h : Kp [a, b] w e w') : Gr w w' ∧ ((errR [a, b] = 0 ∧ ∃ g off c, e = .returned (.tuple #[.slice (some ⟨g, off, none⟩) 2 c, .int .i64 0]) ∧ g < w'.heap.size ∧
    w'.cell? ⟨g, off, none⟩ = some (.int .i64 a.1.t) ∧ w'.cell? ⟨g, off + 1, none⟩ = some (.int .i64 a.1.n) ∧ w'.cell? ⟨g, off + 2, none⟩ = some (.string a.1.s) ∧ w'.cell? ⟨g, off + 3, none⟩ = some (.bool a.1.b) ∧
    w'.cell? ⟨g, off + 4, none⟩ = some (.int .i64 b.1.t) ∧ w'.cell? ⟨g, off + 5, none⟩ = some (.int .i64 b.1.n) ∧ w'.cell? ⟨g, off + 6, none⟩ = some (.string b.1.s) ∧ w'.cell? ⟨g, off + 7, none⟩ = some (.bool b.1.b)) ∨
    (errR [a, b] ≠ 0 ∧ e = .returned (.tuple #[.slice none 0 0, .int .i64 (errR [a, b])]))) := by
  obtain ⟨hg, ⟨h0, oa, c, rfl, hat⟩ | h⟩ := h
  · refine ⟨hg, .inl ⟨h0, ?_⟩⟩
    rcases (hat : AtF vF 4 w' oa _) with h | ⟨g, off, rfl, hl, hr⟩
    · cases h
    · have h1 := hr 0 (show 0 < 2 by decide)
      have h2 := hr 1 (show 1 < 2 by decide)
      simp only [Nat.zero_mul, Nat.one_mul, Nat.add_zero] at h1 h2
      exact ⟨g, off, c, rfl, hl, h1 0 _ rfl, h1 1 _ rfl, h1 2 _ rfl, h1 3 _ rfl, h2 0 _ rfl, h2 1 _ rfl, h2 2 _ rfl, h2 3 _ rfl⟩
  · exact ⟨hg, .inr h⟩
set_option maxHeartbeats 8000000 in
set_option maxRecDepth 100000 in
theorem less_form (p : Nat) (rh : Hd) (roa : Option Addr) (rn rc : Nat) (w : World) (a b : V × Int) (hK : KD p w roa rn [a, b]) : Calls Tryz.prog 53 #[.pointer (some ⟨p, 0, none⟩), XR.val ⟨rh, roa, rn, rc⟩] w (Vp (twoX (lessR rh.op) [a, b]) w) := by
  have KC : Hid (∀ W, Gr w W → _) := hid (fun W h => kids_form p rh roa rn rc W [a, b] (hK.keep h))
  have LC : Hid (∀ W, _) := hid (fun W => less_any rh.op a.1 b.1 W)
  have HR : Hid (twoX (lessR rh.op) [a, b] = if errR [a, b] == 0 then lessR rh.op a.1 b.1 else (nul, errR [a, b])) := hid rfl
  generalize twoX (lessR rh.op) [a, b] = R at *
  generalize lessR rh.op a.1 b.1 = N at *
  clear hK
  obtain ⟨op, ⟨vt, vn, vs, vb⟩, tab, name, t, c, nt, st⟩ := rh
  unfold XR.val Vp at *
  go_enter Tryz.func53, Tryz.ntmps53
  go_wp2_with fail
  refine (KC.out _ (((Gr.refl _).alloc _).alloc _)).mono ?_
  rintro e w1 hKp
  obtain ⟨hg, ⟨h0, g, off, cc, rfl, hgl, k0, k1, k2, k3, k4, k5, k6, k7⟩ | ⟨h0, rfl⟩⟩ := hKp.two
  · obtain rfl : R = N := by rw [HR.out, if_pos (by simpa using h0)]
    clear hKp HR KC h0
    obtain ⟨⟨ta, na, sa, ba⟩, ea⟩ := a
    obtain ⟨⟨tb, nb, sb, bb⟩, eb⟩ := b
    obtain ⟨⟨tn, nn, sn, bn⟩, en⟩ := R
    unfold pairR at *
    (try unfold V.val at *)
    have hc := hg.cells
    have hf := hg.frees
    have hz := hg.size
    try simp only [World.size_alloc, World.size_setCell, World.size_drew] at hz
    have : w.heap.size < w1.heap.size := by omega
    have : w.heap.size + 1 < w1.heap.size := by omega
    go_wp2_with fail
    refine Rg.region_text 11 (Below.drew (Below.refl _ _)) (by kernel_rfl) (by kernel_rfl) (fun _ _ d _ _ h => by cases d <;> exact h) ?_
    simp only [List.append_eq, List.cons_append, List.nil_append, List.take_succ_cons, List.take_zero, List.drop_succ_cons, List.drop_zero]
    repeat (first
        | (refine Rg.wpDets_skip (by rfl) ?_; simp only [Act.put, List.setIfInBounds_toArray, List.set_cons_zero, List.set_cons_succ])
        | (refine Rg.wpDets_step ?_ (by rfl) (fun w hS => ?_) ?_
           rotate_left
           · have hc := Gr.cells hS
             have hf := Gr.frees hS
             go_simp
             first
             | (refine ⟨?_, Below.refl _ _⟩; with_reducible rfl)
             | ((with_reducible refine (LC.out _).mono ?_); rintro e w' ⟨rfl, hg⟩; refine ⟨?_, hg⟩; with_reducible rfl)
           simp only [Act.put, List.setIfInBounds_toArray, List.set_cons_zero, List.set_cons_succ]))
    refine Rg.wpDets_nil ?_
    refine Rg.wpFlts_nil ?_
    refine Rg.wpLays_nil ?_
    intro w' hK
    have hg : Gr _ w' := hK.up
    have hc := hg.cells
    have hf := hg.frees
    have hz := hg.size
    try simp only [World.size_alloc, World.size_setCell, World.size_drew] at hz
    try have : 0 < w'.heap.size := by omega
    try have : w.heap.size < w'.heap.size := by omega
    try have : w.heap.size + 1 < w'.heap.size := by omega
    try have : w.heap.size + 1 + 1 < w'.heap.size := by omega
    try have : w.heap.size + 1 + 1 + 1 < w'.heap.size := by omega
    go_wp2
    all_goals
      (try (go_step3; (try simp only [Exit.then]); (try change Rg.once _ _ _ _ _ _); rw [Rg.once_goto]; go_wp2))
      (try rw [Rg.once_ret])
      (try rw [Exit.noGoto_ret])
      (try change bodyPost _ _ _ _ _ _)
      first
      | (go_returns; refine ⟨?_, ?_⟩)
      | (refine bodyPost_ret (by simp [results, Tryz.results53, go_sem, *]; try rfl) rfl ⟨?_, ?_⟩)
      rotate_left
      · repeat' (first | exact Gr.refl _ | exact Nat.le_refl _ | exact Nat.le_add_right _ _ | refine Gr.setCell ?_ ?_ _ | refine Gr.alloc ?_ _ | refine Gr.drew ?_ | refine Gr.trans ?_ (by assumption) | omega | (dsimp only; omega))
    all_goals rfl
  · obtain rfl : R = (nul, errR [a, b]) := by rw [HR.out, if_neg (by simpa using h0)]
    obtain ⟨ea, hEA⟩ : ∃ ea, errR [a, b] = ea := ⟨_, rfl⟩
    rw [hEA] at h0
    have HEA := hid hEA
    simp only [hEA]
    clear hEA
    have q1 : (ea != 0) = true := by simpa using h0
    clear hKp HR KC h0 LC
    have hc := hg.cells
    have hf := hg.frees
    have hz := hg.size
    try simp only [World.size_alloc, World.size_setCell, World.size_drew] at hz
    have : w.heap.size < w1.heap.size := by omega
    have : w.heap.size + 1 < w1.heap.size := by omega
    go_wp2
    all_goals
      (try (go_step3; (try simp only [Exit.then]); (try change Rg.once _ _ _ _ _ _); rw [Rg.once_goto]; go_wp2))
      (try rw [Rg.once_ret])
      (try rw [Exit.noGoto_ret])
      (try change bodyPost _ _ _ _ _ _)
      first
      | (go_returns; refine ⟨?_, ?_⟩)
      | (refine bodyPost_ret (by simp [results, Tryz.results53, go_sem, *]; try rfl) rfl ⟨?_, ?_⟩)
      rotate_left
      · repeat' (first | exact Gr.refl _ | exact Nat.le_refl _ | exact Nat.le_add_right _ _ | refine Gr.setCell ?_ ?_ _ | refine Gr.alloc ?_ _ | refine Gr.drew ?_ | refine Gr.trans ?_ (by assumption) | omega | (dsimp only; omega))
    all_goals (rw [HEA.out]; rfl)
set_option maxHeartbeats 8000000 in
set_option maxRecDepth 100000 in
theorem math_form (p : Nat) (rh : Hd) (roa : Option Addr) (rn rc : Nat) (w : World) (a b : V × Int) (hK : KD p w roa rn [a, b]) (ha : Bd a.1.n) (hb : Bd b.1.n) (hs : a.1.s.size + b.1.s.size ≤ 9223372036854775807) : Calls Tryz.prog 54 #[.pointer (some ⟨p, 0, none⟩), XR.val ⟨rh, roa, rn, rc⟩] w (Vp (twoX (mathR rh.op) [a, b]) w) := by
  have KC : Hid (∀ W, Gr w W → _) := hid (fun W h => kids_form p rh roa rn rc W [a, b] (hK.keep h))
  have LC : Hid (∀ W, _) := hid (fun W => math_all rh.op a.1 b.1 W ha hb hs)
  have HR : Hid (twoX (mathR rh.op) [a, b] = if errR [a, b] == 0 then mathR rh.op a.1 b.1 else (nul, errR [a, b])) := hid rfl
  generalize twoX (mathR rh.op) [a, b] = R at *
  generalize mathR rh.op a.1 b.1 = N at *
  clear hK
  obtain ⟨op, ⟨vt, vn, vs, vb⟩, tab, name, t, c, nt, st⟩ := rh
  unfold XR.val Vp at *
  go_enter Tryz.func54, Tryz.ntmps54
  go_wp2_with fail
  refine (KC.out _ (((Gr.refl _).alloc _).alloc _)).mono ?_
  rintro e w1 hKp
  obtain ⟨hg, ⟨h0, g, off, cc, rfl, hgl, k0, k1, k2, k3, k4, k5, k6, k7⟩ | ⟨h0, rfl⟩⟩ := hKp.two
  · obtain rfl : R = N := by rw [HR.out, if_pos (by simpa using h0)]
    clear hKp HR KC h0
    obtain ⟨⟨ta, na, sa, ba⟩, ea⟩ := a
    obtain ⟨⟨tb, nb, sb, bb⟩, eb⟩ := b
    obtain ⟨⟨tn, nn, sn, bn⟩, en⟩ := R
    unfold pairR at *
    (try unfold V.val at *)
    have hc := hg.cells
    have hf := hg.frees
    have hz := hg.size
    try simp only [World.size_alloc, World.size_setCell, World.size_drew] at hz
    have : w.heap.size < w1.heap.size := by omega
    have : w.heap.size + 1 < w1.heap.size := by omega
    go_wp2_with fail
    refine Rg.region_text 11 (Below.drew (Below.refl _ _)) (by kernel_rfl) (by kernel_rfl) (fun _ _ d _ _ h => by cases d <;> exact h) ?_
    simp only [List.append_eq, List.cons_append, List.nil_append, List.take_succ_cons, List.take_zero, List.drop_succ_cons, List.drop_zero]
    repeat (first
        | (refine Rg.wpDets_skip (by rfl) ?_; simp only [Act.put, List.setIfInBounds_toArray, List.set_cons_zero, List.set_cons_succ])
        | (refine Rg.wpDets_step ?_ (by rfl) (fun w hS => ?_) ?_
           rotate_left
           · have hc := Gr.cells hS
             have hf := Gr.frees hS
             go_simp
             first
             | (refine ⟨?_, Below.refl _ _⟩; with_reducible rfl)
             | ((with_reducible refine (LC.out _).mono ?_); rintro e w' ⟨rfl, hg⟩; refine ⟨?_, hg⟩; with_reducible rfl)
           simp only [Act.put, List.setIfInBounds_toArray, List.set_cons_zero, List.set_cons_succ]))
    refine Rg.wpDets_nil ?_
    refine Rg.wpFlts_nil ?_
    refine Rg.wpLays_nil ?_
    intro w' hK
    have hg : Gr _ w' := hK.up
    have hc := hg.cells
    have hf := hg.frees
    have hz := hg.size
    try simp only [World.size_alloc, World.size_setCell, World.size_drew] at hz
    try have : 0 < w'.heap.size := by omega
    try have : w.heap.size < w'.heap.size := by omega
    try have : w.heap.size + 1 < w'.heap.size := by omega
    try have : w.heap.size + 1 + 1 < w'.heap.size := by omega
    try have : w.heap.size + 1 + 1 + 1 < w'.heap.size := by omega
    go_wp2
    all_goals
      (try (go_step3; (try simp only [Exit.then]); (try change Rg.once _ _ _ _ _ _); rw [Rg.once_goto]; go_wp2))
      (try rw [Rg.once_ret])
      (try rw [Exit.noGoto_ret])
      (try change bodyPost _ _ _ _ _ _)
      first
      | (go_returns; refine ⟨?_, ?_⟩)
      | (refine bodyPost_ret (by simp [results, Tryz.results54, go_sem, *]; try rfl) rfl ⟨?_, ?_⟩)
      rotate_left
      · repeat' (first | exact Gr.refl _ | exact Nat.le_refl _ | exact Nat.le_add_right _ _ | refine Gr.setCell ?_ ?_ _ | refine Gr.alloc ?_ _ | refine Gr.drew ?_ | refine Gr.trans ?_ (by assumption) | omega | (dsimp only; omega))
    all_goals rfl
  · obtain rfl : R = (nul, errR [a, b]) := by rw [HR.out, if_neg (by simpa using h0)]
    obtain ⟨ea, hEA⟩ : ∃ ea, errR [a, b] = ea := ⟨_, rfl⟩
    rw [hEA] at h0
    have HEA := hid hEA
    simp only [hEA]
    clear hEA
    have q1 : (ea != 0) = true := by simpa using h0
    clear hKp HR KC h0 LC
    have hc := hg.cells
    have hf := hg.frees
    have hz := hg.size
    try simp only [World.size_alloc, World.size_setCell, World.size_drew] at hz
    have : w.heap.size < w1.heap.size := by omega
    have : w.heap.size + 1 < w1.heap.size := by omega
    go_wp2
    all_goals
      (try (go_step3; (try simp only [Exit.then]); (try change Rg.once _ _ _ _ _ _); rw [Rg.once_goto]; go_wp2))
      (try rw [Rg.once_ret])
      (try rw [Exit.noGoto_ret])
      (try change bodyPost _ _ _ _ _ _)
      first
      | (go_returns; refine ⟨?_, ?_⟩)
      | (refine bodyPost_ret (by simp [results, Tryz.results54, go_sem, *]; try rfl) rfl ⟨?_, ?_⟩)
      rotate_left
      · repeat' (first | exact Gr.refl _ | exact Nat.le_refl _ | exact Nat.le_add_right _ _ | refine Gr.setCell ?_ ?_ _ | refine Gr.alloc ?_ _ | refine Gr.drew ?_ | refine Gr.trans ?_ (by assumption) | omega | (dsimp only; omega))
    all_goals (rw [HEA.out]; rfl)
end Go.Proofs.YtbeinfhgfflneaaGreat
end
section
namespace Go.Proofs.YtbeinfhgfflneaaGreat
open Go.RowKit
set_option linter.unusedSimpArgs false
set_option linter.unusedVariables false
attribute [local go_sem] Rg.leads_value Rg.leads_skip Rg.leads_enter Rg.brings_value Rg.brings_skip Rg.brings_enter Rg.bringsG_value Rg.bringsG_enter Rg.once_normal Rg.once_exit Rg.once_ret Rg.once_panic Rg.once_goto
set_option maxHeartbeats 4000000 in
set_option maxRecDepth 100000 in
theorem denied_form (rh : Hd) (roa : Option Addr) (rn rc : Nat) (v : V) (f : Int) (w : World) : Calls Tryz.prog 79 #[XR.val ⟨rh, roa, rn, rc⟩, v.val, .int .i64 f] w (Vp (denR rh.nt (v, f)) w) := by
  have NC : Hid (∀ W, _) := hid (fun W => vnot_any v W)
  have HR : Hid (denR rh.nt (v, f) = if f != 0 || !rh.nt then (v, f) else notR v) := hid rfl
  generalize denR rh.nt (v, f) = R at *
  generalize notR v = N at *
  obtain ⟨op, ⟨vt, vn, vs, vb⟩, tab, name, t, c, nt, st⟩ := rh
  obtain ⟨tv, nv, sv, bv⟩ := v
  obtain ⟨⟨tn, nn, sn, bn⟩, en⟩ := N
  unfold XR.val Vp pairR V.val at *
  obtain ⟨x1, t1⟩ : ∃ x, (f != 0) = x := ⟨_, rfl⟩
  simp only [t1] at HR
  cases x1 <;> cases nt
  all_goals
    obtain rfl := HR.out
    clear HR
    go_enter Tryz.func79, Tryz.ntmps79
    go_wp2_with (first | (go_at_call 77; ((with_reducible refine (NC.out _).mono ?_)); rintro e w' ⟨rfl, hg⟩; have hc := hg.cells; have hf := hg.frees; have hz := hg.size; (try simp only [World.size_alloc, World.size_setCell, World.size_drew] at hz); (try have : 0 < w'.heap.size := by omega); (try have : w.heap.size < w'.heap.size := by omega); (try have : w.heap.size + 1 < w'.heap.size := by omega); (try have : w.heap.size + 1 + 1 < w'.heap.size := by omega); (try have : w.heap.size + 1 + 1 + 1 < w'.heap.size := by omega)))
    all_goals
      (try (go_step3; (try simp only [Exit.then]); (try change Rg.once _ _ _ _ _ _); rw [Rg.once_goto]; go_wp2))
      (try rw [Rg.once_ret])
      (try rw [Exit.noGoto_ret])
      (try change bodyPost _ _ _ _ _ _)
      first
      | (go_returns; refine ⟨?_, ?_⟩)
      | (refine bodyPost_ret (by simp [results, Tryz.results79, go_sem, *]; try rfl) rfl ⟨?_, ?_⟩)
      rotate_left
      · repeat' (first | exact Gr.refl _ | exact Nat.le_refl _ | exact Nat.le_add_right _ _ | refine Gr.setCell ?_ ?_ _ | refine Gr.alloc ?_ _ | refine Gr.drew ?_ | refine Gr.trans ?_ (by assumption) | omega | (dsimp only; omega))
    all_goals rfl
theorem alloc_two (w : World) (o o' : Obj) : ((w.alloc o).alloc o').heap[w.heap.size + 1]? = some o' := by have := alloc_at (w.alloc o) o'; rwa [World.size_alloc] at this
theorem lt_blk {W : World} {g : Nat} {o : Obj} (h : W.heap[g]? = some o) : g < W.heap.size := (Array.getElem?_eq_some_iff.1 h).1
theorem Kp.three {a b d : V × Int} {w w' : World} {e : Ending} (h : Kp [a, b, d] w e w') : Gr w w' ∧ ((errR [a, b, d] = 0 ∧ ∃ g off c, e = .returned (.tuple #[.slice (some ⟨g, off, none⟩) 3 c, .int .i64 0]) ∧ g < w'.heap.size ∧
    w'.cell? ⟨g, off, none⟩ = some (.int .i64 a.1.t) ∧ w'.cell? ⟨g, off + 1, none⟩ = some (.int .i64 a.1.n) ∧ w'.cell? ⟨g, off + 2, none⟩ = some (.string a.1.s) ∧ w'.cell? ⟨g, off + 3, none⟩ = some (.bool a.1.b) ∧
    w'.cell? ⟨g, off + 4, none⟩ = some (.int .i64 b.1.t) ∧ w'.cell? ⟨g, off + 4 + 1, none⟩ = some (.int .i64 b.1.n) ∧ w'.cell? ⟨g, off + 4 + 2, none⟩ = some (.string b.1.s) ∧ w'.cell? ⟨g, off + 4 + 3, none⟩ = some (.bool b.1.b) ∧
    w'.cell? ⟨g, off + 8, none⟩ = some (.int .i64 d.1.t) ∧ w'.cell? ⟨g, off + 8 + 1, none⟩ = some (.int .i64 d.1.n) ∧ w'.cell? ⟨g, off + 8 + 2, none⟩ = some (.string d.1.s) ∧ w'.cell? ⟨g, off + 8 + 3, none⟩ = some (.bool d.1.b)) ∨
    (errR [a, b, d] ≠ 0 ∧ e = .returned (.tuple #[.slice none 0 0, .int .i64 (errR [a, b, d])]))) := by
  obtain ⟨hg, ⟨h0, oa, c, rfl, hat⟩ | h⟩ := h
  · refine ⟨hg, .inl ⟨h0, ?_⟩⟩
    rcases (hat : AtF vF 4 w' oa _) with h | ⟨g, off, rfl, hl, hr⟩
    · cases h
    · have h1 := hr 0 (show 0 < 3 by decide)
      have h2 := hr 1 (show 1 < 3 by decide)
      have h3 := hr 2 (show 2 < 3 by decide)
      simp only [Nat.zero_mul, Nat.one_mul, Nat.add_zero, Nat.reduceMul] at h1 h2 h3
      exact ⟨g, off, c, rfl, hl, h1 0 _ rfl, h1 1 _ rfl, h1 2 _ rfl, h1 3 _ rfl, h2 0 _ rfl, h2 1 _ rfl, h2 2 _ rfl, h2 3 _ rfl, h3 0 _ rfl, h3 1 _ rfl, h3 2 _ rfl, h3 3 _ rfl⟩
  · exact ⟨hg, .inr h⟩
set_option maxHeartbeats 16000000 in
set_option maxRecDepth 100000 in
theorem between_form (p : Nat) (rh : Hd) (roa : Option Addr) (rn rc : Nat) (w : World) (a b d : V × Int) (hK : KD p w roa rn [a, b, d]) : Calls Tryz.prog 51 #[.pointer (some ⟨p, 0, none⟩), XR.val ⟨rh, roa, rn, rc⟩] w (Vp (betX rh.nt [a, b, d]) w) := by
  have KC : Hid (∀ W, Gr w W → _) := hid (fun W h => kids_form p rh roa rn rc W [a, b, d] (hK.keep h))
  obtain ⟨E, hE⟩ : ∃ E, errR [a, b, d] = E := ⟨_, rfl⟩
  obtain ⟨L1, hL1⟩ : ∃ L, lessR 12 b.1 a.1 = L := ⟨_, rfl⟩
  obtain ⟨L2, hL2⟩ : ∃ L, lessR 12 a.1 d.1 = L := ⟨_, rfl⟩
  have C1 : Hid (∀ W, _) := hid (fun W => less_any 12 b.1 a.1 W)
  have C2 : Hid (∀ W, _) := hid (fun W => less_any 12 a.1 d.1 W)
  have C3 : Hid (∀ W, _) := hid (fun W => vand_any L1.1 L2.1 W)
  have C4 : Hid (∀ W, _) := hid (fun W => denied_form rh roa rn rc (andR L1.1 L2.1).1 (andR L1.1 L2.1).2 W)
  have HR : Hid (betX rh.nt [a, b, d] = if E == 0 then (if L1.2 == 0 then (if L2.2 == 0 then denR rh.nt (andR L1.1 L2.1) else (nul, L2.2)) else (nul, L1.2)) else (nul, E)) := hid (by
    subst hE hL1 hL2
    rfl)
  rw [hL1] at C1
  rw [hL2] at C2
  have HE := hid hE
  clear hE hL1 hL2 hK
  generalize betX rh.nt [a, b, d] = R at *
  rw [show ((andR L1.1 L2.1).1, (andR L1.1 L2.1).2) = andR L1.1 L2.1 from rfl] at C4
  generalize andR L1.1 L2.1 = A at *
  generalize denR rh.nt A = D at *
  obtain ⟨op, ⟨vt, vn, vs, vb⟩, tab, name, t, c, nt, st⟩ := rh
  obtain ⟨⟨tn, nn, sn, bn⟩, e1⟩ := L1
  obtain ⟨⟨tm, nm, sm, bm⟩, e2⟩ := L2
  obtain ⟨⟨tA, nA, sA, bA⟩, eA⟩ := A
  obtain ⟨⟨tD, nD, sD, bD⟩, eD⟩ := D
  unfold XR.val Vp at *
  have HP : Hid (∀ w', Gr w w' → pairR R = pairR R ∧ Gr w w') := hid (fun w' h => ⟨rfl, h⟩)
  go_enter Tryz.func51, Tryz.ntmps51
  go_wp2_with fail
  refine (KC.out _ (((Gr.refl _).alloc _).alloc _)).mono ?_
  rintro e w1 hKp
  obtain ⟨hg, ⟨h0, g, off, cc, rfl, hgl, k0, k1, k2, k3, k4, k5, k6, k7, k8, k9, k10, k11⟩ | ⟨h0, rfl⟩⟩ := hKp.three
  · rw [HE.out] at h0
    clear hKp KC HE
    obtain ⟨⟨ta, na, sa, ba⟩, ea⟩ := a
    obtain ⟨⟨tb, nb, sb, bb⟩, eb⟩ := b
    obtain ⟨⟨td, nd, sd, bd⟩, ed⟩ := d
    unfold pairR at C1 C2 C3 C4
    (try unfold V.val at *)
    have HGw1 := hid hg
    have hc := hg.cells
    have hf := hg.frees
    have hz := hg.size
    try simp only [World.size_alloc, World.size_setCell, World.size_drew] at hz
    have : w.heap.size < w1.heap.size := by omega
    have : w.heap.size + 1 < w1.heap.size := by omega
    subst h0
    by_cases h1 : e1 = 0
    · subst h1
      by_cases h2 : e2 = 0
      · subst h2
        obtain rfl : R = (⟨tD, nD, sD, bD⟩, eD) := by rw [HR.out]; rfl
        clear HR HP
        go_wp2_with fail
        refine Rg.region_plan 11 [0, 1, 2, 3, 4, 5, 6, 7, 8] [9] [10] (Below.drew (Below.refl _ _)) (by kernel_rfl) (by kernel_rfl) (fun _ _ d _ _ h => by cases d <;> exact h) ?_
        simp only [Rg.opsAt, List.append_eq, List.cons_append, List.nil_append, List.filterMap_cons, List.filterMap_nil, List.getElem?_toArray, List.getElem?_cons_zero, List.getElem?_cons_succ, List.drop_succ_cons, List.drop_zero]
        repeat (first
            | (refine Rg.wpDets_skip (by rfl) ?_; simp only [Act.put, List.setIfInBounds_toArray, List.set_cons_zero, List.set_cons_succ])
            | (refine Rg.wpDets_step ?_ (by rfl) (fun w hS => ?_) ?_
               rotate_left
               · have hc := Gr.cells hS
                 have hf := Gr.frees hS
                 go_simp
                 first
                 | (refine ⟨?_, Below.refl _ _⟩; with_reducible rfl)
                 | ((with_reducible refine (C1.out _).mono ?_); rintro e w' ⟨rfl, hg⟩; refine ⟨?_, hg⟩; with_reducible rfl)
               simp only [Act.put, List.setIfInBounds_toArray, List.set_cons_zero, List.set_cons_succ]))
        refine Rg.wpDets_nil ?_
        first
        | (refine Rg.wpFlts_skip (by rfl) ?_; simp only [Act.put, List.setIfInBounds_toArray, List.set_cons_zero, List.set_cons_succ])
        | (refine Rg.wpFlts_step ?_ (by rfl) (fun w => ?_) ?_
           rotate_left
           · go_simp
             try with_reducible rfl
           simp only [Act.put, List.setIfInBounds_toArray, List.set_cons_zero, List.set_cons_succ])
        refine Rg.wpFlts_nil ?_
        refine Rg.wpLays_step ?_ (by rfl) (fun w => ?_) (fun g0 hg0 hu0 => ?_)
        rotate_left
        · go_simp
          try with_reducible rfl
        simp only [Act.put, List.setIfInBounds_toArray, List.set_cons_zero, List.set_cons_succ]
        refine Rg.wpLays_nil ?_
        intro w2 hK
        have hg : Gr _ w2 := hK.up
        obtain ⟨hb0, _⟩ := hK.psi
        have hcb0 := Rg.blk_cells hb0
        have hfb0 := Rg.blk_free hb0
        have hlb0 := lt_of_block hb0
        try simp only [World.size_alloc, World.size_setCell, World.size_drew] at hg0
        clear hK
        have hc := Gr.cells hg
        have hf := Gr.frees hg
        have hz := Gr.size hg
        try simp only [World.size_alloc, World.size_setCell, World.size_drew] at hz
        try have : 0 < w2.heap.size := by omega
        try have : w.heap.size < w2.heap.size := by omega
        try have : w.heap.size + 1 < w2.heap.size := by omega
        try have : w.heap.size + 1 + 1 < w2.heap.size := by omega
        try have : w.heap.size + 1 + 1 + 1 < w2.heap.size := by omega
        try have : w1.heap.size < w2.heap.size := by omega
        try have : w1.heap.size + 1 < w2.heap.size := by omega
        try have : w.heap.size < g0 := by omega
        try have : ¬ w.heap.size = g0 := by omega
        try have : ¬ g0 = w.heap.size := by omega
        try have : w1.heap.size < g0 := by omega
        try have : ¬ w1.heap.size = g0 := by omega
        try have : ¬ g0 = w1.heap.size := by omega
        clear hc hf hcb0 hfb0
        have HB0 := hid hb0
        clear hb0
        go_wp2_with (guard_target =~ wpList _ _ _ (Oper.mk _ (Op.store 23 _ _) _ _ _ _ :: _) _ _; refine st_row (ty := 23) rfl rfl g0 #[.int .i64 tn, .int .i64 nn, .string sn, .bool bn] rfl rfl 23 _ HB0.out (by kernel_rfl) rfl (by kernel_rfl) ?_; intro W5 hW5 gW5 zW5; have hg5 : Gr w1 W5 := hg.grown gW5 (fun k e => by cases e; exact hg0); have HW5 := hid hW5; clear gW5 zW5 hW5 HB0 hg)
        have hc := hg5.cells
        have hf := hg5.frees
        have hz := hg5.size
        have : w.heap.size < W5.heap.size := by omega
        have : w.heap.size + 1 < W5.heap.size := by omega
        have hl0 : g0 < W5.heap.size := hid_lt HW5
        have hgl5 : g < W5.heap.size := by omega
        have HGw5 : Hid (Gr w W5) := hid ((((Gr.refl w).alloc _).alloc _).trans (HGw1.out.trans hg5))
        have HBX : Hid (W5.heap[w.heap.size]? = some (.cells #[.int .i64 op, .int .i64 vt, .int .i64 vn, .string vs, .bool vb, .string tab, .string name, .int .i64 t, .int .i64 c, .bool nt, .bool st, .slice roa rn rc] 26 (0, 0)) ∧ W5.heap[w.heap.size + 1]? = some (.cells #[.int .i64 0, .int .i64 0, .string ⟨#[]⟩, .bool false] 23 (0, 0))) := hid ⟨(hg5.block _ (by omega)).trans ((HGw1.out.block _ (by simp; omega)).trans ((((Gr.refl _).alloc _).block _ (by simp)).trans (alloc_at _ _))), (hg5.block _ (by omega)).trans ((HGw1.out.block _ (by simp)).trans (alloc_two _ _ _))⟩
        have hlA := hg0
        generalize g0 = gA at *
        refine Rg.region_plan 11 [0, 1, 2, 3, 4, 5, 6, 7, 8] [9] [10] (Below.drew (Below.refl _ _)) (by kernel_rfl) (by kernel_rfl) (fun _ _ d _ _ h => by cases d <;> exact h) ?_
        simp only [Rg.opsAt, List.append_eq, List.cons_append, List.nil_append, List.filterMap_cons, List.filterMap_nil, List.getElem?_toArray, List.getElem?_cons_zero, List.getElem?_cons_succ, List.drop_succ_cons, List.drop_zero]
        repeat (first
            | (refine Rg.wpDets_skip (by rfl) ?_; simp only [Act.put, List.setIfInBounds_toArray, List.set_cons_zero, List.set_cons_succ])
            | (refine Rg.wpDets_step ?_ (by rfl) (fun w hS => ?_) ?_
               rotate_left
               · have hc := Gr.cells hS
                 have hf := Gr.frees hS
                 go_simp
                 first
                 | (refine ⟨?_, Below.refl _ _⟩; with_reducible rfl)
                 | ((with_reducible refine (C2.out _).mono ?_); rintro e w' ⟨rfl, hg⟩; refine ⟨?_, hg⟩; with_reducible rfl)
               simp only [Act.put, List.setIfInBounds_toArray, List.set_cons_zero, List.set_cons_succ]))
        refine Rg.wpDets_nil ?_
        first
        | (refine Rg.wpFlts_skip (by rfl) ?_; simp only [Act.put, List.setIfInBounds_toArray, List.set_cons_zero, List.set_cons_succ])
        | (refine Rg.wpFlts_step ?_ (by rfl) (fun w => ?_) ?_
           rotate_left
           · go_simp
             try with_reducible rfl
           simp only [Act.put, List.setIfInBounds_toArray, List.set_cons_zero, List.set_cons_succ])
        refine Rg.wpFlts_nil ?_
        refine Rg.wpLays_step ?_ (by rfl) (fun w => ?_) (fun g0 hg0 hu0 => ?_)
        rotate_left
        · go_simp
          try with_reducible rfl
        simp only [Act.put, List.setIfInBounds_toArray, List.set_cons_zero, List.set_cons_succ]
        refine Rg.wpLays_nil ?_
        intro w6 hK
        have hg : Gr _ w6 := hK.up
        obtain ⟨hb0, _⟩ := hK.psi
        have hcb0 := Rg.blk_cells hb0
        have hfb0 := Rg.blk_free hb0
        have hlb0 := lt_of_block hb0
        try simp only [World.size_alloc, World.size_setCell, World.size_drew] at hg0
        clear hK
        have hc := Gr.cells hg
        have hf := Gr.frees hg
        have hz := Gr.size hg
        try simp only [World.size_alloc, World.size_setCell, World.size_drew] at hz
        try have : 0 < w6.heap.size := by omega
        try have : w.heap.size < w6.heap.size := by omega
        try have : w.heap.size + 1 < w6.heap.size := by omega
        try have : w.heap.size + 1 + 1 < w6.heap.size := by omega
        try have : w.heap.size + 1 + 1 + 1 < w6.heap.size := by omega
        try have : w1.heap.size < w6.heap.size := by omega
        try have : w1.heap.size + 1 < w6.heap.size := by omega
        try have : w2.heap.size < w6.heap.size := by omega
        try have : w2.heap.size + 1 < w6.heap.size := by omega
        try have : w3.heap.size < w6.heap.size := by omega
        try have : w3.heap.size + 1 < w6.heap.size := by omega
        try have : w4.heap.size < w6.heap.size := by omega
        try have : w4.heap.size + 1 < w6.heap.size := by omega
        try have : w5.heap.size < w6.heap.size := by omega
        try have : w5.heap.size + 1 < w6.heap.size := by omega
        try have : w.heap.size < g0 := by omega
        try have : ¬ w.heap.size = g0 := by omega
        try have : ¬ g0 = w.heap.size := by omega
        try have : w1.heap.size < g0 := by omega
        try have : ¬ w1.heap.size = g0 := by omega
        try have : ¬ g0 = w1.heap.size := by omega
        try have : w2.heap.size < g0 := by omega
        try have : ¬ w2.heap.size = g0 := by omega
        try have : ¬ g0 = w2.heap.size := by omega
        try have : w3.heap.size < g0 := by omega
        try have : ¬ w3.heap.size = g0 := by omega
        try have : ¬ g0 = w3.heap.size := by omega
        try have : w4.heap.size < g0 := by omega
        try have : ¬ w4.heap.size = g0 := by omega
        try have : ¬ g0 = w4.heap.size := by omega
        try have : w5.heap.size < g0 := by omega
        try have : ¬ w5.heap.size = g0 := by omega
        try have : ¬ g0 = w5.heap.size := by omega
        clear hc hf hcb0 hfb0
        have HB0 := hid hb0
        have HA6 : Hid (w6.heap[gA]? = some (.cells #[.int .i64 tn, .int .i64 nn, .string sn, .bool bn] 23 (0, 0))) := hid ((hg.block _ hl0).trans HW5.out)
        have HBX6 : Hid (w6.heap[w.heap.size]? = some (.cells #[.int .i64 op, .int .i64 vt, .int .i64 vn, .string vs, .bool vb, .string tab, .string name, .int .i64 t, .int .i64 c, .bool nt, .bool st, .slice roa rn rc] 26 (0, 0)) ∧ w6.heap[w.heap.size + 1]? = some (.cells #[.int .i64 0, .int .i64 0, .string ⟨#[]⟩, .bool false] 23 (0, 0))) := hid ⟨(hg.block _ (by omega)).trans HBX.out.1, (hg.block _ (by omega)).trans HBX.out.2⟩
        have HG6 : Hid (Gr w w6) := hid (HGw5.out.trans hg)
        have hAB : gA < g0 := by omega
        clear hb0 HBX HW5 hg HGw5 hg5 HGw1
        go_wp2_with (first | (guard_target =~ wpList _ _ _ (Oper.mk _ (Op.store 23 _ _) _ _ _ _ :: _) _ _; refine st_row (ty := 23) rfl rfl g0 #[.int .i64 tm, .int .i64 nm, .string sm, .bool bm] rfl rfl 23 _ HB0.out (by kernel_rfl) rfl (by kernel_rfl) ?_; intro W7 hW7 gW7 zW7; have HA7 : Hid (W7.heap[gA]? = some (.cells #[.int .i64 tn, .int .i64 nn, .string sn, .bool bn] 23 (0, 0))) := hid ((gW7.get (by omega) (by omega)).trans HA6.out); have HBX7 : Hid (W7.heap[w.heap.size]? = some (.cells #[.int .i64 op, .int .i64 vt, .int .i64 vn, .string vs, .bool vb, .string tab, .string name, .int .i64 t, .int .i64 c, .bool nt, .bool st, .slice roa rn rc] 26 (0, 0)) ∧ W7.heap[w.heap.size + 1]? = some (.cells #[.int .i64 0, .int .i64 0, .string ⟨#[]⟩, .bool false] 23 (0, 0))) := hid ⟨(gW7.get (by omega) (by omega)).trans HBX6.out.1, (gW7.get (by omega) (by omega)).trans HBX6.out.2⟩; have HG7 : Hid (Gr w W7) := hid (HG6.out.grown gW7 (fun k e => by cases e; omega)); have HW7 := hid hW7; clear gW7 zW7 hW7 HA6 HBX6 HG6 HB0 k0 k1 k2 k3 k4 k5 k6 k7 k8 k9 k10 k11) | (guard_target =~ wpList _ _ _ (Oper.mk _ (Op.load 23 (Operand.tmp 8)) _ _ _ _ :: _) _ _; refine wpList_load_row rfl 23 _ rfl gA rfl 23 #[.int .i64 tn, .int .i64 nn, .string sn, .bool bn] (0, 0) _ HA7.out Tryz.underlying23 rfl (by kernel_rfl) ?_) | (guard_target =~ wpList _ _ _ (Oper.mk _ (Op.load 23 (Operand.tmp 9)) _ _ _ _ :: _) _ _; refine wpList_load_row rfl 23 _ rfl g0 rfl 23 #[.int .i64 tm, .int .i64 nm, .string sm, .bool bm] (0, 0) _ HW7.out Tryz.underlying23 rfl (by kernel_rfl) ?_))
        refine (C3.out _).mono ?_
        rintro e w8 ⟨rfl, hg8⟩
        have HA8 : Hid (w8.heap[gA]? = some (.cells #[.int .i64 tn, .int .i64 nn, .string sn, .bool bn] 23 (0, 0))) := hid ((hg8.block _ (hid_lt HA7)).trans HA7.out)
        have HBX8 : Hid (w8.heap[w.heap.size]? = some (.cells #[.int .i64 op, .int .i64 vt, .int .i64 vn, .string vs, .bool vb, .string tab, .string name, .int .i64 t, .int .i64 c, .bool nt, .bool st, .slice roa rn rc] 26 (0, 0)) ∧ w8.heap[w.heap.size + 1]? = some (.cells #[.int .i64 0, .int .i64 0, .string ⟨#[]⟩, .bool false] 23 (0, 0))) := hid ⟨(hg8.block _ (lt_blk HBX7.out.1)).trans HBX7.out.1, (hg8.block _ (lt_blk HBX7.out.2)).trans HBX7.out.2⟩
        have HG8 : Hid (Gr w w8) := hid (HG7.out.trans hg8)
        clear hg8 HA7 HBX7 HG7 HW7
        go_wp2_with (first | (guard_target =~ wpList _ _ _ (Oper.mk _ (Op.store 23 _ _) _ _ _ _ :: _) _ _; refine st_row (ty := 23) rfl rfl gA #[.int .i64 tA, .int .i64 nA, .string sA, .bool bA] rfl rfl 23 _ HA8.out (by kernel_rfl) rfl (by kernel_rfl) ?_; intro W9 hW9 gW9 zW9; have HBX9 : Hid (W9.heap[w.heap.size]? = some (.cells #[.int .i64 op, .int .i64 vt, .int .i64 vn, .string vs, .bool vb, .string tab, .string name, .int .i64 t, .int .i64 c, .bool nt, .bool st, .slice roa rn rc] 26 (0, 0)) ∧ W9.heap[w.heap.size + 1]? = some (.cells #[.int .i64 0, .int .i64 0, .string ⟨#[]⟩, .bool false] 23 (0, 0))) := hid ⟨(gW9.get (lt_blk HBX8.out.1) (by omega)).trans HBX8.out.1, (gW9.get (lt_blk HBX8.out.2) (by omega)).trans HBX8.out.2⟩; have HG9 : Hid (Gr w W9) := hid (HG8.out.grown gW9 (fun k e => by cases e; omega)); have HW9 := hid hW9; clear gW9 zW9 hW9 HBX8 HG8) | (guard_target =~ wpList _ _ _ (Oper.mk _ (Op.load 23 (Operand.tmp 8)) _ _ _ _ :: _) _ _; refine wpList_load_row rfl 23 _ rfl gA rfl 23 #[.int .i64 tA, .int .i64 nA, .string sA, .bool bA] (0, 0) _ HW9.out Tryz.underlying23 rfl (by kernel_rfl) ?_) | (guard_target =~ wpList _ _ _ (Oper.mk _ (Op.load 26 _) _ _ _ _ :: _) _ _; refine wpList_load_row rfl 26 _ rfl w.heap.size rfl 26 #[.int .i64 op, .int .i64 vt, .int .i64 vn, .string vs, .bool vb, .string tab, .string name, .int .i64 t, .int .i64 c, .bool nt, .bool st, .slice roa rn rc] (0, 0) _ HBX9.out.1 Tryz.underlying26 rfl (by kernel_rfl) ?_))
        refine (C4.out _).mono ?_
        rintro e w10 ⟨rfl, hg10⟩
        have hG := HG9.out.trans hg10
        have hz10 := hG.size
        have hZ10 : w10.heap[w.heap.size + 1]? = some (.cells #[.int .i64 0, .int .i64 0, .string ⟨#[]⟩, .bool false] 23 (0, 0)) := (hg10.block _ (lt_blk HBX9.out.2)).trans HBX9.out.2
        have cZ := Rg.blk_cells hZ10
        have fZ := Rg.blk_free hZ10
        have lZ := lt_blk hZ10
        clear hg10 HA8 HBX9 HG9 HW9 hZ10
        go_wp2
        all_goals
          (try (go_step3; (try simp only [Exit.then]); (try change Rg.once _ _ _ _ _ _); rw [Rg.once_goto]; go_wp2))
          (try rw [Rg.once_ret])
          (try rw [Exit.noGoto_ret])
          (try change bodyPost _ _ _ _ _ _)
          first
          | (go_returns; refine ⟨?_, ?_⟩)
          | (refine bodyPost_ret (by simp [results, Tryz.results51, go_sem, *]; try rfl) rfl ⟨?_, ?_⟩)
          rotate_left
          · repeat' (first | exact Gr.refl _ | exact Nat.le_refl _ | exact Nat.le_add_right _ _ | refine Gr.setCell ?_ ?_ _ | refine Gr.alloc ?_ _ | refine Gr.drew ?_ | refine Gr.trans ?_ (by assumption) | omega | (dsimp only; omega))
        all_goals rfl
      · obtain rfl : R = (nul, e2) := by rw [HR.out]; show (if (e2 == 0) = true then _ else _) = _; rw [if_neg (by simpa using h2)]
        have q1 : (e2 != 0) = true := by simpa using h2
        clear HR HP h2 C3 C4
        go_wp2_with fail
        refine Rg.region_plan 11 [0, 1, 2, 3, 4, 5, 6, 7, 8] [9] [10] (Below.drew (Below.refl _ _)) (by kernel_rfl) (by kernel_rfl) (fun _ _ d _ _ h => by cases d <;> exact h) ?_
        simp only [Rg.opsAt, List.append_eq, List.cons_append, List.nil_append, List.filterMap_cons, List.filterMap_nil, List.getElem?_toArray, List.getElem?_cons_zero, List.getElem?_cons_succ, List.drop_succ_cons, List.drop_zero]
        repeat (first
            | (refine Rg.wpDets_skip (by rfl) ?_; simp only [Act.put, List.setIfInBounds_toArray, List.set_cons_zero, List.set_cons_succ])
            | (refine Rg.wpDets_step ?_ (by rfl) (fun w hS => ?_) ?_
               rotate_left
               · have hc := Gr.cells hS
                 have hf := Gr.frees hS
                 go_simp
                 first
                 | (refine ⟨?_, Below.refl _ _⟩; with_reducible rfl)
                 | ((with_reducible refine (C1.out _).mono ?_); rintro e w' ⟨rfl, hg⟩; refine ⟨?_, hg⟩; with_reducible rfl)
               simp only [Act.put, List.setIfInBounds_toArray, List.set_cons_zero, List.set_cons_succ]))
        refine Rg.wpDets_nil ?_
        first
        | (refine Rg.wpFlts_skip (by rfl) ?_; simp only [Act.put, List.setIfInBounds_toArray, List.set_cons_zero, List.set_cons_succ])
        | (refine Rg.wpFlts_step ?_ (by rfl) (fun w => ?_) ?_
           rotate_left
           · go_simp
             try with_reducible rfl
           simp only [Act.put, List.setIfInBounds_toArray, List.set_cons_zero, List.set_cons_succ])
        refine Rg.wpFlts_nil ?_
        refine Rg.wpLays_step ?_ (by rfl) (fun w => ?_) (fun g0 hg0 hu0 => ?_)
        rotate_left
        · go_simp
          try with_reducible rfl
        simp only [Act.put, List.setIfInBounds_toArray, List.set_cons_zero, List.set_cons_succ]
        refine Rg.wpLays_nil ?_
        intro w2 hK
        have hg : Gr _ w2 := hK.up
        obtain ⟨hb0, _⟩ := hK.psi
        have hcb0 := Rg.blk_cells hb0
        have hfb0 := Rg.blk_free hb0
        have hlb0 := lt_of_block hb0
        try simp only [World.size_alloc, World.size_setCell, World.size_drew] at hg0
        clear hK
        have hc := Gr.cells hg
        have hf := Gr.frees hg
        have hz := Gr.size hg
        try simp only [World.size_alloc, World.size_setCell, World.size_drew] at hz
        try have : 0 < w2.heap.size := by omega
        try have : w.heap.size < w2.heap.size := by omega
        try have : w.heap.size + 1 < w2.heap.size := by omega
        try have : w.heap.size + 1 + 1 < w2.heap.size := by omega
        try have : w.heap.size + 1 + 1 + 1 < w2.heap.size := by omega
        try have : w1.heap.size < w2.heap.size := by omega
        try have : w1.heap.size + 1 < w2.heap.size := by omega
        try have : w.heap.size < g0 := by omega
        try have : ¬ w.heap.size = g0 := by omega
        try have : ¬ g0 = w.heap.size := by omega
        try have : w1.heap.size < g0 := by omega
        try have : ¬ w1.heap.size = g0 := by omega
        try have : ¬ g0 = w1.heap.size := by omega
        clear hc hf hcb0 hfb0
        have HB0 := hid hb0
        clear hb0
        go_wp2_with (guard_target =~ wpList _ _ _ (Oper.mk _ (Op.store 23 _ _) _ _ _ _ :: _) _ _; refine st_row (ty := 23) rfl rfl g0 #[.int .i64 tn, .int .i64 nn, .string sn, .bool bn] rfl rfl 23 _ HB0.out (by kernel_rfl) rfl (by kernel_rfl) ?_; intro W5 hW5 gW5 zW5; have hg5 : Gr w1 W5 := hg.grown gW5 (fun k e => by cases e; exact hg0); clear gW5 zW5 hW5 HB0 hg)
        have hc := hg5.cells
        have hf := hg5.frees
        have hz := hg5.size
        have : w.heap.size < W5.heap.size := by omega
        have : w.heap.size + 1 < W5.heap.size := by omega
        have hgl5 : g < W5.heap.size := by omega
        have HGw5 : Hid (Gr w W5) := hid ((((Gr.refl w).alloc _).alloc _).trans (HGw1.out.trans hg5))
        have HZ5 : Hid (W5.heap[w.heap.size + 1]? = some (.cells #[.int .i64 0, .int .i64 0, .string ⟨#[]⟩, .bool false] 23 (0, 0))) := hid ((hg5.block _ (by omega)).trans ((HGw1.out.block _ (by simp)).trans (alloc_two _ _ _)))
        generalize g0 = gA at *
        refine Rg.region_plan 11 [0, 1, 2, 3, 4, 5, 6, 7, 8] [9] [10] (Below.drew (Below.refl _ _)) (by kernel_rfl) (by kernel_rfl) (fun _ _ d _ _ h => by cases d <;> exact h) ?_
        simp only [Rg.opsAt, List.append_eq, List.cons_append, List.nil_append, List.filterMap_cons, List.filterMap_nil, List.getElem?_toArray, List.getElem?_cons_zero, List.getElem?_cons_succ, List.drop_succ_cons, List.drop_zero]
        repeat (first
            | (refine Rg.wpDets_skip (by rfl) ?_; simp only [Act.put, List.setIfInBounds_toArray, List.set_cons_zero, List.set_cons_succ])
            | (refine Rg.wpDets_step ?_ (by rfl) (fun w hS => ?_) ?_
               rotate_left
               · have hc := Gr.cells hS
                 have hf := Gr.frees hS
                 go_simp
                 first
                 | (refine ⟨?_, Below.refl _ _⟩; with_reducible rfl)
                 | ((with_reducible refine (C2.out _).mono ?_); rintro e w' ⟨rfl, hg⟩; refine ⟨?_, hg⟩; with_reducible rfl)
               simp only [Act.put, List.setIfInBounds_toArray, List.set_cons_zero, List.set_cons_succ]))
        refine Rg.wpDets_nil ?_
        first
        | (refine Rg.wpFlts_skip (by rfl) ?_; simp only [Act.put, List.setIfInBounds_toArray, List.set_cons_zero, List.set_cons_succ])
        | (refine Rg.wpFlts_step ?_ (by rfl) (fun w => ?_) ?_
           rotate_left
           · go_simp
             try with_reducible rfl
           simp only [Act.put, List.setIfInBounds_toArray, List.set_cons_zero, List.set_cons_succ])
        refine Rg.wpFlts_nil ?_
        refine Rg.wpLays_step ?_ (by rfl) (fun w => ?_) (fun g0 hg0 hu0 => ?_)
        rotate_left
        · go_simp
          try with_reducible rfl
        simp only [Act.put, List.setIfInBounds_toArray, List.set_cons_zero, List.set_cons_succ]
        refine Rg.wpLays_nil ?_
        intro w6 hK
        have hg : Gr _ w6 := hK.up
        obtain ⟨hb0, _⟩ := hK.psi
        have hcb0 := Rg.blk_cells hb0
        have hfb0 := Rg.blk_free hb0
        have hlb0 := lt_of_block hb0
        try simp only [World.size_alloc, World.size_setCell, World.size_drew] at hg0
        clear hK
        have hc := Gr.cells hg
        have hf := Gr.frees hg
        have hz := Gr.size hg
        try simp only [World.size_alloc, World.size_setCell, World.size_drew] at hz
        try have : 0 < w6.heap.size := by omega
        try have : w.heap.size < w6.heap.size := by omega
        try have : w.heap.size + 1 < w6.heap.size := by omega
        try have : w.heap.size + 1 + 1 < w6.heap.size := by omega
        try have : w.heap.size + 1 + 1 + 1 < w6.heap.size := by omega
        try have : w1.heap.size < w6.heap.size := by omega
        try have : w1.heap.size + 1 < w6.heap.size := by omega
        try have : w2.heap.size < w6.heap.size := by omega
        try have : w2.heap.size + 1 < w6.heap.size := by omega
        try have : w3.heap.size < w6.heap.size := by omega
        try have : w3.heap.size + 1 < w6.heap.size := by omega
        try have : w4.heap.size < w6.heap.size := by omega
        try have : w4.heap.size + 1 < w6.heap.size := by omega
        try have : w5.heap.size < w6.heap.size := by omega
        try have : w5.heap.size + 1 < w6.heap.size := by omega
        try have : w.heap.size < g0 := by omega
        try have : ¬ w.heap.size = g0 := by omega
        try have : ¬ g0 = w.heap.size := by omega
        try have : w1.heap.size < g0 := by omega
        try have : ¬ w1.heap.size = g0 := by omega
        try have : ¬ g0 = w1.heap.size := by omega
        try have : w2.heap.size < g0 := by omega
        try have : ¬ w2.heap.size = g0 := by omega
        try have : ¬ g0 = w2.heap.size := by omega
        try have : w3.heap.size < g0 := by omega
        try have : ¬ w3.heap.size = g0 := by omega
        try have : ¬ g0 = w3.heap.size := by omega
        try have : w4.heap.size < g0 := by omega
        try have : ¬ w4.heap.size = g0 := by omega
        try have : ¬ g0 = w4.heap.size := by omega
        try have : w5.heap.size < g0 := by omega
        try have : ¬ w5.heap.size = g0 := by omega
        try have : ¬ g0 = w5.heap.size := by omega
        clear hc hf hcb0 hfb0
        have HB0 := hid hb0
        have HG6 : Hid (Gr w w6) := hid (HGw5.out.trans hg)
        have HZ6 : Hid (w6.heap[w.heap.size + 1]? = some (.cells #[.int .i64 0, .int .i64 0, .string ⟨#[]⟩, .bool false] 23 (0, 0))) := hid ((hg.block _ (by omega)).trans HZ5.out)
        clear hb0 HZ5 hg HGw5 hg5 HGw1
        go_wp2_with (guard_target =~ wpList _ _ _ (Oper.mk _ (Op.store 23 _ _) _ _ _ _ :: _) _ _; refine st_row (ty := 23) rfl rfl g0 #[.int .i64 tm, .int .i64 nm, .string sm, .bool bm] rfl rfl 23 _ HB0.out (by kernel_rfl) rfl (by kernel_rfl) ?_; intro W7 hW7 gW7 zW7; have hG : Gr w W7 := HG6.out.grown gW7 (fun k e => by cases e; omega); have hZ7 : W7.heap[w.heap.size + 1]? = some (.cells #[.int .i64 0, .int .i64 0, .string ⟨#[]⟩, .bool false] 23 (0, 0)) := (gW7.get (by omega) (by omega)).trans HZ6.out; have cZ := Rg.blk_cells hZ7; have fZ := Rg.blk_free hZ7; have lZ := lt_blk hZ7; clear gW7 zW7 hW7 HG6 HZ6 HB0 hZ7 k0 k1 k2 k3 k4 k5 k6 k7 k8 k9 k10 k11)
        all_goals
          (try (go_step3; (try simp only [Exit.then]); (try change Rg.once _ _ _ _ _ _); rw [Rg.once_goto]; go_wp2))
          (try rw [Rg.once_ret])
          (try rw [Exit.noGoto_ret])
          (try change bodyPost _ _ _ _ _ _)
          first
          | (go_returns; refine ⟨?_, ?_⟩)
          | (refine bodyPost_ret (by simp [results, Tryz.results51, go_sem, *]; try rfl) rfl ⟨?_, ?_⟩)
          rotate_left
          · repeat' (first | exact Gr.refl _ | exact Nat.le_refl _ | exact Nat.le_add_right _ _ | refine Gr.setCell ?_ ?_ _ | refine Gr.alloc ?_ _ | refine Gr.drew ?_ | refine Gr.trans ?_ (by assumption) | omega | (dsimp only; omega))
        all_goals rfl
    · obtain rfl : R = (nul, e1) := by rw [HR.out]; show (if (e1 == 0) = true then _ else _) = _; rw [if_neg (by simpa using h1)]
      have q1 : (e1 != 0) = true := by simpa using h1
      clear HR HP h1 C2 C3 C4
      go_wp2_with fail
      refine Rg.region_plan 11 [0, 1, 2, 3, 4, 5, 6, 7, 8] [9] [10] (Below.drew (Below.refl _ _)) (by kernel_rfl) (by kernel_rfl) (fun _ _ d _ _ h => by cases d <;> exact h) ?_
      simp only [Rg.opsAt, List.append_eq, List.cons_append, List.nil_append, List.filterMap_cons, List.filterMap_nil, List.getElem?_toArray, List.getElem?_cons_zero, List.getElem?_cons_succ, List.drop_succ_cons, List.drop_zero]
      repeat (first
          | (refine Rg.wpDets_skip (by rfl) ?_; simp only [Act.put, List.setIfInBounds_toArray, List.set_cons_zero, List.set_cons_succ])
          | (refine Rg.wpDets_step ?_ (by rfl) (fun w hS => ?_) ?_
             rotate_left
             · have hc := Gr.cells hS
               have hf := Gr.frees hS
               go_simp
               first
               | (refine ⟨?_, Below.refl _ _⟩; with_reducible rfl)
               | ((with_reducible refine (C1.out _).mono ?_); rintro e w' ⟨rfl, hg⟩; refine ⟨?_, hg⟩; with_reducible rfl)
             simp only [Act.put, List.setIfInBounds_toArray, List.set_cons_zero, List.set_cons_succ]))
      refine Rg.wpDets_nil ?_
      first
      | (refine Rg.wpFlts_skip (by rfl) ?_; simp only [Act.put, List.setIfInBounds_toArray, List.set_cons_zero, List.set_cons_succ])
      | (refine Rg.wpFlts_step ?_ (by rfl) (fun w => ?_) ?_
         rotate_left
         · go_simp
           try with_reducible rfl
         simp only [Act.put, List.setIfInBounds_toArray, List.set_cons_zero, List.set_cons_succ])
      refine Rg.wpFlts_nil ?_
      refine Rg.wpLays_step ?_ (by rfl) (fun w => ?_) (fun g0 hg0 hu0 => ?_)
      rotate_left
      · go_simp
        try with_reducible rfl
      simp only [Act.put, List.setIfInBounds_toArray, List.set_cons_zero, List.set_cons_succ]
      refine Rg.wpLays_nil ?_
      intro w2 hK
      have hg : Gr _ w2 := hK.up
      obtain ⟨hb0, _⟩ := hK.psi
      have hcb0 := Rg.blk_cells hb0
      have hfb0 := Rg.blk_free hb0
      have hlb0 := lt_of_block hb0
      try simp only [World.size_alloc, World.size_setCell, World.size_drew] at hg0
      clear hK
      have hc := Gr.cells hg
      have hf := Gr.frees hg
      have hz := Gr.size hg
      try simp only [World.size_alloc, World.size_setCell, World.size_drew] at hz
      try have : 0 < w2.heap.size := by omega
      try have : w.heap.size < w2.heap.size := by omega
      try have : w.heap.size + 1 < w2.heap.size := by omega
      try have : w.heap.size + 1 + 1 < w2.heap.size := by omega
      try have : w.heap.size + 1 + 1 + 1 < w2.heap.size := by omega
      try have : w1.heap.size < w2.heap.size := by omega
      try have : w1.heap.size + 1 < w2.heap.size := by omega
      try have : w.heap.size < g0 := by omega
      try have : ¬ w.heap.size = g0 := by omega
      try have : ¬ g0 = w.heap.size := by omega
      try have : w1.heap.size < g0 := by omega
      try have : ¬ w1.heap.size = g0 := by omega
      try have : ¬ g0 = w1.heap.size := by omega
      clear hc hf hcb0 hfb0
      have HB0 := hid hb0
      have HG6 : Hid (Gr w w2) := hid ((((Gr.refl w).alloc _).alloc _).trans (HGw1.out.trans hg))
      have HZ6 : Hid (w2.heap[w.heap.size + 1]? = some (.cells #[.int .i64 0, .int .i64 0, .string ⟨#[]⟩, .bool false] 23 (0, 0))) := hid ((hg.block _ (by omega)).trans ((HGw1.out.block _ (by simp)).trans (alloc_two _ _ _)))
      clear hb0 hg HGw1
      go_wp2_with (guard_target =~ wpList _ _ _ (Oper.mk _ (Op.store 23 _ _) _ _ _ _ :: _) _ _; refine st_row (ty := 23) rfl rfl g0 #[.int .i64 tn, .int .i64 nn, .string sn, .bool bn] rfl rfl 23 _ HB0.out (by kernel_rfl) rfl (by kernel_rfl) ?_; intro W7 hW7 gW7 zW7; have hG : Gr w W7 := HG6.out.grown gW7 (fun k e => by cases e; omega); have hZ7 : W7.heap[w.heap.size + 1]? = some (.cells #[.int .i64 0, .int .i64 0, .string ⟨#[]⟩, .bool false] 23 (0, 0)) := (gW7.get (by omega) (by omega)).trans HZ6.out; have cZ := Rg.blk_cells hZ7; have fZ := Rg.blk_free hZ7; have lZ := lt_blk hZ7; clear gW7 zW7 hW7 HG6 HZ6 HB0 hZ7 k0 k1 k2 k3 k4 k5 k6 k7 k8 k9 k10 k11)
      all_goals
        (try (go_step3; (try simp only [Exit.then]); (try change Rg.once _ _ _ _ _ _); rw [Rg.once_goto]; go_wp2))
        (try rw [Rg.once_ret])
        (try rw [Exit.noGoto_ret])
        (try change bodyPost _ _ _ _ _ _)
        first
        | (go_returns; refine ⟨?_, ?_⟩)
        | (refine bodyPost_ret (by simp [results, Tryz.results51, go_sem, *]; try rfl) rfl ⟨?_, ?_⟩)
        rotate_left
        · repeat' (first | exact Gr.refl _ | exact Nat.le_refl _ | exact Nat.le_add_right _ _ | refine Gr.setCell ?_ ?_ _ | refine Gr.alloc ?_ _ | refine Gr.drew ?_ | refine Gr.trans ?_ (by assumption) | omega | (dsimp only; omega))
      all_goals rfl
  · rw [HE.out] at h0
    obtain rfl : R = (nul, E) := by rw [HR.out, if_neg (by simpa using h0)]
    have q1 : (E != 0) = true := by simpa using h0
    simp only [HE.out]
    clear hKp HR KC h0 HP C1 C2 C3 C4
    have hc := hg.cells
    have hf := hg.frees
    have hz := hg.size
    try simp only [World.size_alloc, World.size_setCell, World.size_drew] at hz
    have : w.heap.size < w1.heap.size := by omega
    have : w.heap.size + 1 < w1.heap.size := by omega
    go_wp2
    all_goals
      (try (go_step3; (try simp only [Exit.then]); (try change Rg.once _ _ _ _ _ _); rw [Rg.once_goto]; go_wp2))
      (try rw [Rg.once_ret])
      (try rw [Exit.noGoto_ret])
      (try change bodyPost _ _ _ _ _ _)
      first
      | (go_returns; refine ⟨?_, ?_⟩)
      | (refine bodyPost_ret (by simp [results, Tryz.results51, go_sem, *]; try rfl) rfl ⟨?_, ?_⟩)
      rotate_left
      · repeat' (first | exact Gr.refl _ | exact Nat.le_refl _ | exact Nat.le_add_right _ _ | refine Gr.setCell ?_ ?_ _ | refine Gr.alloc ?_ _ | refine Gr.drew ?_ | refine Gr.trans ?_ (by assumption) | omega | (dsimp only; omega))
    all_goals rfl
end Go.Proofs.YtbeinfhgfflneaaGreat
end
section
namespace Go.Proofs.YtbeinfhgfflneaaGreat
open Go.RowKit
set_option linter.unusedSimpArgs false
set_option linter.unusedVariables false
attribute [local go_sem] Rg.leads_value Rg.leads_skip Rg.leads_enter Rg.brings_value Rg.brings_skip Rg.brings_enter Rg.bringsG_value Rg.bringsG_enter Rg.once_normal Rg.once_exit Rg.once_ret Rg.once_panic Rg.once_goto
set_option maxHeartbeats 4000000 in
set_option maxRecDepth 100000 in
theorem in_few (p : Nat) (rh : Hd) (roa : Option Addr) (rn rc : Nat) (w : World) (h : rn < 2) : Calls Tryz.prog 50 #[.pointer (some ⟨p, 0, none⟩), XR.val ⟨rh, roa, rn, rc⟩] w (Vp (nul, 1) w) := by
  obtain ⟨op, ⟨vt, vn, vs, vb⟩, tab, name, t, c, nt, st⟩ := rh
  have t0 : decide ((rn : Int) < 2) = true := by rw [decide_eq_true_iff]; omega
  unfold XR.val Vp pairR nul
  clear h
  go_enter Tryz.func50, Tryz.ntmps50
  go_wp2
  all_goals
    (try (go_step3; (try simp only [Exit.then]); (try change Rg.once _ _ _ _ _ _); rw [Rg.once_goto]; go_wp2))
    (try rw [Rg.once_ret])
    (try rw [Exit.noGoto_ret])
    (try change bodyPost _ _ _ _ _ _)
    first
    | (go_returns; refine ⟨?_, ?_⟩)
    | (refine bodyPost_ret (by simp [results, Tryz.results50, go_sem, *]; try rfl) rfl ⟨?_, ?_⟩)
    rotate_left
    · repeat' (first | exact Gr.refl _ | exact Nat.le_refl _ | exact Nat.le_add_right _ _ | refine Gr.setCell ?_ ?_ _ | refine Gr.alloc ?_ _ | refine Gr.drew ?_ | refine Gr.trans ?_ (by assumption) | omega | (dsimp only; omega))
  all_goals rfl
theorem gr_boxE_lt {w1 W : World} {o : Obj} (h5 : Go1 w1.heap.size (w1.alloc o) W) : w1.heap.size < W.heap.size := by have := h5.size; simp at this; omega
structure InW (n gA gO : Nat) (box av : Array Value) (W0 : World) : Prop where
  box : W0.heap[n]? = some (.cells box 26 (0, 0))
  res : W0.heap[n + 1]? = some (.cells #[.int .i64 0, .int .i64 0, .string ⟨#[]⟩, .bool false] 23 (0, 0))
  av : W0.heap[gA]? = some (.cells av 23 (0, 0))
  lA : n + 1 < gA
  lO : gA < gO
theorem InW.go {n gA gO : Nat} {box av : Array Value} {W W' : World} (h : InW n gA gO box av W) (hg : Go1 gO W W') : InW n gA gO box av W' := by
  have h1 := h.lA
  have h2 := h.lO
  exact ⟨(hg.get (lt_blk h.box) (by omega)).trans h.box, (hg.get (lt_blk h.res) (by omega)).trans h.res, (hg.get (lt_blk h.av) (by omega)).trans h.av, h1, h2⟩
theorem InW.gr {n gA gO : Nat} {box av : Array Value} {W W' : World} (h : InW n gA gO box av W) (hg : Gr W W') : InW n gA gO box av W' := h.go (.of hg)
def InRel (a : V) (nt : Bool) (rs : List (V × Int)) (R : V × Int) (gO : Nat) (W0 : World) (s37 : Value) (wr : World) : Prop := ∃ (k : Nat) (out : V), s37 = .int .i64 (k : Int) ∧ k ≤ rs.length ∧ Go1 gO W0 wr ∧ wr.heap[gO]? = some (.cells out.cells 23 (0, 0)) ∧ inL a nt (rs.drop k) out = R
theorem in_dec {k m l : Nat} (hm : l = m + 1) (h : k < l) : decide ((k : Int) < (m : Int) + 1) = true := by rw [decide_eq_true_iff]; omega
theorem in_dec0 {k m l : Nat} (hm : l = m + 1) (h : ¬ k < l) : decide ((k : Int) < (m : Int) + 1) = false := by rw [decide_eq_false_iff_not]; omega
theorem in_lt {k m l : Nat} (hm : l = m + 1) (h : k < l) : (k : Int) < (m : Int) + 1 := by omega
theorem in_ltn {k m l : Nat} (hm : l = m + 1) (h : k < l) : k < m + 1 := by omega
theorem in_wrap {k m l : Nat} (hm : l = m + 1) (h : k < l) (hb : m ≤ 2000000) : wrap64 ((k : Int) + 1) = (k : Int) + 1 := by unfold wrap64; omega
theorem in_ms {k l : Nat} (h : k < l) : l - (intOf (.int .i64 ((k : Int) + 1))).toNat < l - (intOf (.int .i64 (k : Int))).toNat := by simp [intOf]; omega
theorem in_end {k l : Nat} (h : ¬ k < l) : l ≤ k := by omega
theorem in_next {k : Nat} : Value.int .i64 ((k : Int) + 1) = .int .i64 ((k + 1 : Nat) : Int) := by simp
theorem in_two (n : Nat) : n < n + 1 + 1 := by omega
theorem inL_at (a : V) (nt : Bool) (rs : List (V × Int)) (k : Nat) (h : k < rs.length) (out : V) : inL a nt (rs.drop k) out = (if (rs[k]).2 == 0 then (if (lessR 9 a (rs[k]).1).2 == 0 then (if (lessR 9 a (rs[k]).1).1.t == 0 then inL a nt (rs.drop (k + 1)) (lessR 9 a (rs[k]).1).1 else if (lessR 9 a (rs[k]).1).1.b then denR nt ((lessR 9 a (rs[k]).1).1, 0) else inL a nt (rs.drop (k + 1)) out) else (nul, (lessR 9 a (rs[k]).1).2)) else (nul, (rs[k]).2)) := by
  rw [List.drop_eq_getElem_cons h]
  rfl
set_option maxHeartbeats 16000000 in
set_option maxRecDepth 100000 in
theorem in_loop (p m : Nat) (g off rc : Nat) (op : Int) (vt vn : Int) (vs : ByteArray) (vb : Bool) (tab name : ByteArray) (t c : Int) (nt st : Bool) (w : World) (a : V × Int) (rs : List (V × Int)) (hm : rs.length = m + 1) (hb : m ≤ 2000000) (hcap : m + 2 ≤ rc)
    (hcs0 : ∃ rk : XR, (∀ i u, (xF rk)[i]? = some u → w.cell? ⟨g, off + i, none⟩ = some u) ∧ ∀ W, Gr w W → Calls Tryz.prog 18 #[.pointer (some ⟨p, 0, none⟩), XR.val rk] W (Vp a W))
    (hks : ∀ k (h : k < rs.length), ∃ rk : XR, (∀ i u, (xF rk)[i]? = some u → w.cell? ⟨g, off + 12 + k * 12 + i, none⟩ = some u) ∧ ∀ W, Gr w W → Calls Tryz.prog 18 #[.pointer (some ⟨p, 0, none⟩), XR.val rk] W (Vp rs[k] W)) :
    Calls Tryz.prog 50 #[.pointer (some ⟨p, 0, none⟩), XR.val ⟨⟨op, ⟨vt, vn, vs, vb⟩, tab, name, t, c, nt, st⟩, some ⟨g, off, none⟩, m + 2, rc⟩] w (Vp (if a.2 == 0 then inL a.1 nt rs (boolV false) else (nul, a.2)) w) := by
  obtain ⟨rk0, hcs, HC⟩ := hcs0
  obtain ⟨k0, k1, k2, k3, k4, k5, k6, k7, k8, k9, k10, k11⟩ := kid_cells hcs
  have hgl : g < w.heap.size := lt_of_cell k0
  have HC := hid HC
  have HK := hid hks
  have HM := hid hm
  have t0 : decide (((m + 2 : Nat) : Int) < 2) = false := by rw [decide_eq_false_iff_not]; omega
  have t0n : decide (m + 2 < 2) = false := by rw [decide_eq_false_iff_not]; omega
  have g0 : (0 : Int) < ((m + 2 : Nat) : Int) := by omega
  have DC : Hid (∀ W v, _) := hid (fun W v => denied_form ⟨op, ⟨vt, vn, vs, vb⟩, tab, name, t, c, nt, st⟩ (some ⟨g, off, none⟩) (m + 2) rc v 0 W)
  clear hcs hks hm
  obtain ⟨⟨ta, na, sa, ba⟩, ea⟩ := a
  have HA1 : Hid (∀ w1 : World, w1.heap.size = w1.heap.size) := hid (fun _ => rfl)
  by_cases ha : ea = 0
  · subst ha
    rw [show (if ((⟨ta, na, sa, ba⟩, 0) : V × Int).2 == 0 then inL ((⟨ta, na, sa, ba⟩, 0) : V × Int).1 nt rs (boolV false) else (nul, ((⟨ta, na, sa, ba⟩, 0) : V × Int).2)) = inL ⟨ta, na, sa, ba⟩ nt rs (boolV false) from rfl]
    obtain ⟨R, hR⟩ : ∃ R, inL ⟨ta, na, sa, ba⟩ nt rs (boolV false) = R := ⟨_, rfl⟩
    rw [hR]
    have HR := hid hR
    have HP : Hid (∀ w', Gr w w' → pairR R = pairR R ∧ Gr w w') := hid (fun w' h => ⟨rfl, h⟩)
    have h1c : ((1 : Nat) : Int) ≤ ((m + 2 : Nat) : Int) := by omega
    have c1 : ((m + 2 : Nat) : Int) ≤ (rc : Int) := by omega
    clear hR
    unfold XR.val Vp pairR at *
    go_enter Tryz.func50, Tryz.ntmps50
    go_wp2_with fail
    refine (HC.out _ (((Gr.refl _).alloc _).alloc _)).mono ?_
    rintro e w1 ⟨rfl, hg⟩
    have HG1 : Hid (Gr w w1) := hid ((((Gr.refl w).alloc _).alloc _).trans hg)
    have HB1 : Hid (w1.heap[w.heap.size]? = some (.cells #[.int .i64 op, .int .i64 vt, .int .i64 vn, .string vs, .bool vb, .string tab, .string name, .int .i64 t, .int .i64 c, .bool nt, .bool st, .slice (some ⟨g, off, none⟩) (m + 2) rc] 26 (0, 0))) := hid ((hg.block _ (by rw [World.size_alloc, World.size_alloc]; exact in_two _)).trans ((((Gr.refl _).alloc _).block _ (by rw [World.size_alloc]; exact Nat.lt_succ_self _)).trans (alloc_at _ _)))
    have HZ1 : Hid (w1.heap[w.heap.size + 1]? = some (.cells #[.int .i64 0, .int .i64 0, .string ⟨#[]⟩, .bool false] 23 (0, 0))) := hid ((hg.block _ (by rw [World.size_alloc, World.size_alloc]; exact Nat.lt_succ_self _)).trans (alloc_two _ _ _))
    have HAV := hid (alloc_at w1 (.cells #[.int .i64 0, .int .i64 0, .string ⟨#[]⟩, .bool false] 23))
    have hl1 : w.heap.size + 1 < w1.heap.size := lt_blk HZ1.out
    have cB := Rg.blk_cells HB1.out
    have b11 : w1.cell? ⟨w.heap.size, 11, none⟩ = some (.slice (some ⟨g, off, none⟩) (m + 2) rc) := cB 11
    have lB : w.heap.size < w1.heap.size := Nat.lt_of_succ_lt hl1
    clear hg cB HC k0 k1 k2 k3 k4 k5 k6 k7 k8 k9 k10 k11
    go_wp2_with (first | (guard_target =~ wpList _ _ _ (Oper.mk _ (Op.store 23 (Operand.tmp 6) _) _ _ _ _ :: _) _ _; refine st_row (ty := 23) rfl rfl w1.heap.size #[.int .i64 ta, .int .i64 na, .string sa, .bool ba] rfl rfl 23 _ HAV.out (by kernel_rfl) rfl (by kernel_rfl) ?_; intro W2 hW2 gW2 zW2; have HG2 : Hid (Gr w1 W2) := hid (gr_boxE gW2); have HW2 := hid hW2; have HV2 := hid (alloc_at W2 (.cells #[.int .i64 0, .int .i64 0, .string ⟨#[]⟩, .bool false] 23)); have lW2 := gr_boxE_lt gW2; have b11 : W2.cell? ⟨w.heap.size, 11, none⟩ = some (.slice (some ⟨g, off, none⟩) (m + 2) rc) := HG2.out.keep b11; clear gW2 zW2 hW2) | (guard_target =~ wpList _ _ _ (Oper.mk _ (Op.store 23 (Operand.tmp 8) _) _ _ _ _ :: _) _ _; refine st_row (ty := 23) rfl rfl W2.heap.size #[.int .i64 3, .int .i64 0, .string ⟨#[]⟩, .bool false] rfl rfl 23 _ HV2.out (by kernel_rfl) rfl (by kernel_rfl) ?_; intro W3 hW3 gW3 zW3; have HG3 : Hid (Gr W2 W3) := hid (gr_boxE gW3); have HW3 := hid hW3; have b11 : W3.cell? ⟨w.heap.size, 11, none⟩ = some (.slice (some ⟨g, off, none⟩) (m + 2) rc) := HG3.out.keep b11; clear gW3 zW3 hW3))
    have HIW0 : Hid (InW w.heap.size w1.heap.size W2.heap.size #[.int .i64 op, .int .i64 vt, .int .i64 vn, .string vs, .bool vb, .string tab, .string name, .int .i64 t, .int .i64 c, .bool nt, .bool st, .slice (some ⟨g, off, none⟩) (m + 2) rc] #[.int .i64 ta, .int .i64 na, .string sa, .bool ba] W3) := hid ⟨(HG3.out.block _ (Nat.lt_trans lB lW2)).trans ((HG2.out.block _ lB).trans HB1.out), (HG3.out.block _ (Nat.lt_trans hl1 lW2)).trans ((HG2.out.block _ hl1).trans HZ1.out), (HG3.out.block _ lW2).trans HW2.out, hl1, lW2⟩
    have HG0 : Hid (Gr w W3) := hid (HG1.out.trans (HG2.out.trans HG3.out))
    have hW2s : w.heap.size ≤ W2.heap.size := Nat.le_of_lt (Nat.lt_trans lB lW2)
    generalize hgO : W2.heap.size = gO at *
    generalize hgA : w1.heap.size = gA at *
    have HS0 : Hid (InRel ⟨ta, na, sa, ba⟩ nt rs R gO W3 (.int .i64 0) W3) := hid ⟨0, boolV false, rfl, Nat.zero_le _, Go1.refl _ _, HW3.out, HR.out⟩
    clear HR HW3 HW2 HV2 HAV HB1 HZ1 HG1 HG2 HG3 b11 lB
    go_loopw [37] (fun s37 wr => InRel ⟨ta, na, sa, ba⟩ nt rs R gO W3 s37 wr) (fun s37 _ => rs.length - (intOf s37).toNat)
    · exact HS0.out
    · clear HS0
      obtain ⟨k, out, rfl, hk, hg1, hO, hE⟩ := hrel
      have HIW := hid (HIW0.out.go hg1)
      have HG := hid (HG0.out.grown hg1 (fun i e => by cases e; exact hW2s))
      have HGo := hid hg1
      have HO := hid hO
      have HE := hid hE
      have hms := HM.out
      clear HIW0 HG0 hg1 hO hE HM
      by_cases hkn : k < rs.length
      · have t1 : decide ((k : Int) < (m : Int) + 1) = true := in_dec hms hkn
        have gk : (k : Int) < (m : Int) + 1 := in_lt hms hkn
        have gkn : k < m + 1 := in_ltn hms hkn
        have HWK := hid (in_wrap hms hkn hb)
        have HMS := hid (in_ms hkn)
        obtain ⟨rk, hcs, HCk⟩ := HK.out k hkn
        obtain ⟨k0, k1, k2, k3, k4, k5, k6, k7, k8, k9, k10, k11⟩ := kid_cells (w := wr) (fun i u hu => HG.out.keep (hcs i u hu))
        have HC := hid (fun W h => HCk W (HG.out.trans h))
        have hE2 := HE.out
        rw [inL_at _ nt rs k hkn] at hE2
        obtain ⟨b, hbk⟩ : ∃ b, rs[k] = b := ⟨_, rfl⟩
        simp only [hbk] at HC hE2
        have LC : Hid (∀ W, _) := hid (fun W => less_any 9 ⟨ta, na, sa, ba⟩ b.1 W)
        generalize lessR 9 ⟨ta, na, sa, ba⟩ b.1 = L at *
        obtain ⟨⟨tb, nb, sb, bb⟩, eb⟩ := b
        obtain ⟨⟨tn, nn, sn, bn⟩, en⟩ := L
        have HE2 := hid hE2
        have HAL := hid (alloc_at wr (.cells zeroX 26))
        have HGB := hid (fun W5 h => gr_boxE (w1 := wr) (o := .cells zeroX 26) (W := W5) h)
        clear hcs HCk hE2 hbk HE HK hms
        unfold pairR at LC
        (try unfold V.val at *)
        by_cases hb0 : eb = 0
        · subst hb0
          by_cases hn0 : en = 0
          · subst hn0
            obtain ⟨x1, t2⟩ : ∃ x, (tn == 0) = x := ⟨_, rfl⟩
            cases x1 with
            | true =>
              have HN : Hid (inL ⟨ta, na, sa, ba⟩ nt (rs.drop (k + 1)) ⟨tn, nn, sn, bn⟩ = R) := hid (by have h := HE2.out; simp only [t2] at h; exact h)
              clear HE2 HP DC
              go_wp2_with (first | (guard_target =~ wpList _ _ _ (Oper.mk _ (Op.store 26 (Operand.tmp 10) _) _ _ _ _ :: _) _ _; refine st_row (ty := 26) rfl rfl wr.heap.size rk.cells rfl rfl 26 _ HAL.out (by kernel_rfl) rfl (by kernel_rfl) ?_; intro W5 hW5 gW5 zW5; have hg5 := HGB.out W5 gW5; have HW5 := hid hW5; clear gW5 zW5 hW5) | (guard_target =~ wpList _ _ _ (Oper.mk _ (Op.load 26 (Operand.tmp 10)) _ _ _ _ :: _) _ _; refine wpList_load_row rfl 26 _ rfl wr.heap.size rfl 26 rk.cells (0, 0) _ HW5.out Tryz.underlying26 rfl (by kernel_rfl) ?_))
              refine (HC.out W5 hg5).mono ?_
              rintro e w4 ⟨rfl, hg4⟩
              have HG4 : Hid (Gr wr w4) := hid (hg5.trans hg4)
              have HAB := hid (alloc_at w4 (.cells #[.int .i64 0, .int .i64 0, .string ⟨#[]⟩, .bool false] 23))
              clear hg4 hg5 HC HAL HGB HW5 k0 k1 k2 k3 k4 k5 k6 k7 k8 k9 k10 k11
              go_wp2_with (first | (guard_target =~ wpList _ _ _ (Oper.mk _ (Op.store 23 (Operand.tmp 11) _) _ _ _ _ :: _) _ _; refine st_row (ty := 23) rfl rfl w4.heap.size #[.int .i64 tb, .int .i64 nb, .string sb, .bool bb] rfl rfl 23 _ HAB.out (by kernel_rfl) rfl (by kernel_rfl) ?_; intro W6 hW6 gW6 zW6; have HGW6 : Hid (Gr wr W6) := hid (HG4.out.trans (gr_boxE gW6)); have HW6 := hid hW6; have HIW6 := hid (HIW.out.gr HGW6.out); clear gW6 zW6 hW6) | (guard_target =~ wpList _ _ _ (Oper.mk _ (Op.load 23 (Operand.tmp 6)) _ _ _ _ :: _) _ _; refine wpList_load_row rfl 23 _ rfl gA rfl 23 #[.int .i64 ta, .int .i64 na, .string sa, .bool ba] (0, 0) _ HIW6.out.av Tryz.underlying23 rfl (by kernel_rfl) ?_) | (guard_target =~ wpList _ _ _ (Oper.mk _ (Op.load 23 (Operand.tmp 11)) _ _ _ _ :: _) _ _; refine wpList_load_row rfl 23 _ rfl w4.heap.size rfl 23 #[.int .i64 tb, .int .i64 nb, .string sb, .bool bb] (0, 0) _ HW6.out Tryz.underlying23 rfl (by kernel_rfl) ?_))
              refine (LC.out _).mono ?_
              rintro e w7 ⟨rfl, hg7⟩
              have HGW7 : Hid (Gr wr w7) := hid (HGW6.out.trans hg7)
              have HAS := hid (alloc_at w7 (.cells #[.int .i64 0, .int .i64 0, .string ⟨#[]⟩, .bool false] 23))
              clear hg7 LC HW6 HGW6 HAB HG4 HIW6
              go_wp2_with (first | fail | (guard_target =~ wpList _ _ _ (Oper.mk _ (Op.store 23 (Operand.tmp 13) _) _ _ _ _ :: _) _ _; refine st_row (ty := 23) rfl rfl w7.heap.size #[.int .i64 tn, .int .i64 nn, .string sn, .bool bn] rfl rfl 23 _ HAS.out (by kernel_rfl) rfl (by kernel_rfl) ?_; intro W8 hW8 gW8 zW8; have HGW : Hid (Gr wr W8) := hid (HGW7.out.trans (gr_boxE gW8)); have HW8 := hid hW8; have c80 : W8.cell? ⟨w7.heap.size, 0, none⟩ = some (.int .i64 tn) := Rg.blk_cells hW8 0; have c83 : W8.cell? ⟨w7.heap.size, 3, none⟩ = some (.bool bn) := Rg.blk_cells hW8 3; clear gW8 zW8 hW8) | (guard_target =~ wpList _ _ _ (Oper.mk _ (Op.load 23 (Operand.tmp 13)) _ _ _ _ :: _) _ _; refine wpList_load_row rfl 23 _ rfl w7.heap.size rfl 23 #[.int .i64 tn, .int .i64 nn, .string sn, .bool bn] (0, 0) _ HW8.out Tryz.underlying23 rfl (by kernel_rfl) ?_) | (guard_target =~ wpList _ _ _ (Oper.mk _ (Op.store 23 (Operand.tmp 8) _) _ _ _ _ :: _) _ _; refine st_row (ty := 23) rfl rfl gO #[.int .i64 tn, .int .i64 nn, .string sn, .bool bn] rfl rfl 23 _ ((HGW.out.block _ (lt_blk HO.out)).trans HO.out) (by kernel_rfl) rfl (by kernel_rfl) ?_; intro W9 hW9 gW9 zW9; have HW9 := hid hW9; have HGoF := hid ((HGo.out.trans (.of HGW.out)).trans gW9); clear gW9 zW9 hW9))
              exact ⟨⟨k + 1, ⟨tn, nn, sn, bn⟩, in_next, hkn, HGoF.out, HW9.out, HN.out⟩, HMS.out⟩
            | false =>
              cases bn with
              | true =>
                obtain rfl : R = denR nt (⟨tn, nn, sn, true⟩, 0) := by have h := HE2.out; simp only [t2] at h; exact h.symm
                clear HE2 HMS HP
                go_wp2_with (first | (guard_target =~ wpList _ _ _ (Oper.mk _ (Op.store 26 (Operand.tmp 10) _) _ _ _ _ :: _) _ _; refine st_row (ty := 26) rfl rfl wr.heap.size rk.cells rfl rfl 26 _ HAL.out (by kernel_rfl) rfl (by kernel_rfl) ?_; intro W5 hW5 gW5 zW5; have hg5 := HGB.out W5 gW5; have HW5 := hid hW5; clear gW5 zW5 hW5) | (guard_target =~ wpList _ _ _ (Oper.mk _ (Op.load 26 (Operand.tmp 10)) _ _ _ _ :: _) _ _; refine wpList_load_row rfl 26 _ rfl wr.heap.size rfl 26 rk.cells (0, 0) _ HW5.out Tryz.underlying26 rfl (by kernel_rfl) ?_))
                refine (HC.out W5 hg5).mono ?_
                rintro e w4 ⟨rfl, hg4⟩
                have HG4 : Hid (Gr wr w4) := hid (hg5.trans hg4)
                have HAB := hid (alloc_at w4 (.cells #[.int .i64 0, .int .i64 0, .string ⟨#[]⟩, .bool false] 23))
                clear hg4 hg5 HC HAL HGB HW5 k0 k1 k2 k3 k4 k5 k6 k7 k8 k9 k10 k11
                go_wp2_with (first | (guard_target =~ wpList _ _ _ (Oper.mk _ (Op.store 23 (Operand.tmp 11) _) _ _ _ _ :: _) _ _; refine st_row (ty := 23) rfl rfl w4.heap.size #[.int .i64 tb, .int .i64 nb, .string sb, .bool bb] rfl rfl 23 _ HAB.out (by kernel_rfl) rfl (by kernel_rfl) ?_; intro W6 hW6 gW6 zW6; have HGW6 : Hid (Gr wr W6) := hid (HG4.out.trans (gr_boxE gW6)); have HW6 := hid hW6; have HIW6 := hid (HIW.out.gr HGW6.out); clear gW6 zW6 hW6) | (guard_target =~ wpList _ _ _ (Oper.mk _ (Op.load 23 (Operand.tmp 6)) _ _ _ _ :: _) _ _; refine wpList_load_row rfl 23 _ rfl gA rfl 23 #[.int .i64 ta, .int .i64 na, .string sa, .bool ba] (0, 0) _ HIW6.out.av Tryz.underlying23 rfl (by kernel_rfl) ?_) | (guard_target =~ wpList _ _ _ (Oper.mk _ (Op.load 23 (Operand.tmp 11)) _ _ _ _ :: _) _ _; refine wpList_load_row rfl 23 _ rfl w4.heap.size rfl 23 #[.int .i64 tb, .int .i64 nb, .string sb, .bool bb] (0, 0) _ HW6.out Tryz.underlying23 rfl (by kernel_rfl) ?_))
                refine (LC.out _).mono ?_
                rintro e w7 ⟨rfl, hg7⟩
                have HGW7 : Hid (Gr wr w7) := hid (HGW6.out.trans hg7)
                have HAS := hid (alloc_at w7 (.cells #[.int .i64 0, .int .i64 0, .string ⟨#[]⟩, .bool false] 23))
                clear hg7 LC HW6 HGW6 HAB HG4 HIW6
                go_wp2_with (first | (guard_target =~ wpList _ _ _ (Oper.mk _ (Op.store 23 (Operand.tmp 13) _) _ _ _ _ :: _) _ _; refine st_row (ty := 23) rfl rfl w7.heap.size #[.int .i64 tn, .int .i64 nn, .string sn, .bool true] rfl rfl 23 _ HAS.out (by kernel_rfl) rfl (by kernel_rfl) ?_; intro W8 hW8 gW8 zW8; have HGW : Hid (Gr wr W8) := hid (HGW7.out.trans (gr_boxE gW8)); have HW8 := hid hW8; have c80 : W8.cell? ⟨w7.heap.size, 0, none⟩ = some (.int .i64 tn) := Rg.blk_cells hW8 0; have c83 : W8.cell? ⟨w7.heap.size, 3, none⟩ = some (.bool true) := Rg.blk_cells hW8 3; clear gW8 zW8 hW8) | (guard_target =~ wpList _ _ _ (Oper.mk _ (Op.load 23 (Operand.tmp 13)) _ _ _ _ :: _) _ _; refine wpList_load_row rfl 23 _ rfl w7.heap.size rfl 23 #[.int .i64 tn, .int .i64 nn, .string sn, .bool true] (0, 0) _ HW8.out Tryz.underlying23 rfl (by kernel_rfl) ?_) | (guard_target =~ wpList _ _ _ (Oper.mk _ (Op.load 26 (Operand.tmp 3)) _ _ _ _ :: _) _ _; refine wpList_load_row rfl 26 _ rfl w.heap.size rfl 26 #[.int .i64 op, .int .i64 vt, .int .i64 vn, .string vs, .bool vb, .string tab, .string name, .int .i64 t, .int .i64 c, .bool nt, .bool st, .slice (some ⟨g, off, none⟩) (m + 2) rc] (0, 0) _ (HIW.out.gr HGW.out).box Tryz.underlying26 rfl (by kernel_rfl) ?_))
                refine (DC.out _ ⟨tn, nn, sn, true⟩).mono ?_
                rintro e w10 ⟨rfl, hg10⟩
                have hG := (HG.out.trans HGW.out).trans hg10
                have hiw := (HIW.out.gr HGW.out).gr hg10
                have hZ : w10.heap[w.heap.size + 1]? = some (.cells #[.int .i64 0, .int .i64 0, .string ⟨#[]⟩, .bool false] 23 (0, 0)) := hiw.res
                have cZ := Rg.blk_cells hZ
                have fZ := Rg.blk_free hZ
                have lZ := lt_blk hZ
                clear hiw hZ HIW HG HGo HGW HW8 HGW7 DC hg10 HO
                go_wp2
                all_goals
                  (try (go_step3; (try simp only [Exit.then]); (try change Rg.once _ _ _ _ _ _); rw [Rg.once_goto]; go_wp2))
                  (try rw [Rg.once_ret])
                  (try rw [Exit.noGoto_ret])
                  (try change bodyPost _ _ _ _ _ _)
                  first
                  | (go_returns; refine ⟨?_, ?_⟩)
                  | (refine bodyPost_ret (by simp [results, Tryz.results50, go_sem, *]; try rfl) rfl ⟨?_, ?_⟩)
                  rotate_left
                  · repeat' (first | exact Gr.refl _ | exact Nat.le_refl _ | exact Nat.le_add_right _ _ | refine Gr.setCell ?_ ?_ _ | refine Gr.alloc ?_ _ | refine Gr.drew ?_ | refine Gr.trans ?_ (by assumption) | omega | (dsimp only; omega))
                all_goals rfl
              | false =>
                have HN : Hid (inL ⟨ta, na, sa, ba⟩ nt (rs.drop (k + 1)) out = R) := hid (by have h := HE2.out; simp only [t2] at h; exact h)
                clear HE2 HP DC
                go_wp2_with (first | (guard_target =~ wpList _ _ _ (Oper.mk _ (Op.store 26 (Operand.tmp 10) _) _ _ _ _ :: _) _ _; refine st_row (ty := 26) rfl rfl wr.heap.size rk.cells rfl rfl 26 _ HAL.out (by kernel_rfl) rfl (by kernel_rfl) ?_; intro W5 hW5 gW5 zW5; have hg5 := HGB.out W5 gW5; have HW5 := hid hW5; clear gW5 zW5 hW5) | (guard_target =~ wpList _ _ _ (Oper.mk _ (Op.load 26 (Operand.tmp 10)) _ _ _ _ :: _) _ _; refine wpList_load_row rfl 26 _ rfl wr.heap.size rfl 26 rk.cells (0, 0) _ HW5.out Tryz.underlying26 rfl (by kernel_rfl) ?_))
                refine (HC.out W5 hg5).mono ?_
                rintro e w4 ⟨rfl, hg4⟩
                have HG4 : Hid (Gr wr w4) := hid (hg5.trans hg4)
                have HAB := hid (alloc_at w4 (.cells #[.int .i64 0, .int .i64 0, .string ⟨#[]⟩, .bool false] 23))
                clear hg4 hg5 HC HAL HGB HW5 k0 k1 k2 k3 k4 k5 k6 k7 k8 k9 k10 k11
                go_wp2_with (first | (guard_target =~ wpList _ _ _ (Oper.mk _ (Op.store 23 (Operand.tmp 11) _) _ _ _ _ :: _) _ _; refine st_row (ty := 23) rfl rfl w4.heap.size #[.int .i64 tb, .int .i64 nb, .string sb, .bool bb] rfl rfl 23 _ HAB.out (by kernel_rfl) rfl (by kernel_rfl) ?_; intro W6 hW6 gW6 zW6; have HGW6 : Hid (Gr wr W6) := hid (HG4.out.trans (gr_boxE gW6)); have HW6 := hid hW6; have HIW6 := hid (HIW.out.gr HGW6.out); clear gW6 zW6 hW6) | (guard_target =~ wpList _ _ _ (Oper.mk _ (Op.load 23 (Operand.tmp 6)) _ _ _ _ :: _) _ _; refine wpList_load_row rfl 23 _ rfl gA rfl 23 #[.int .i64 ta, .int .i64 na, .string sa, .bool ba] (0, 0) _ HIW6.out.av Tryz.underlying23 rfl (by kernel_rfl) ?_) | (guard_target =~ wpList _ _ _ (Oper.mk _ (Op.load 23 (Operand.tmp 11)) _ _ _ _ :: _) _ _; refine wpList_load_row rfl 23 _ rfl w4.heap.size rfl 23 #[.int .i64 tb, .int .i64 nb, .string sb, .bool bb] (0, 0) _ HW6.out Tryz.underlying23 rfl (by kernel_rfl) ?_))
                refine (LC.out _).mono ?_
                rintro e w7 ⟨rfl, hg7⟩
                have HGW7 : Hid (Gr wr w7) := hid (HGW6.out.trans hg7)
                have HAS := hid (alloc_at w7 (.cells #[.int .i64 0, .int .i64 0, .string ⟨#[]⟩, .bool false] 23))
                clear hg7 LC HW6 HGW6 HAB HG4 HIW6
                go_wp2_with (first | (guard_target =~ wpList _ _ _ (Oper.mk _ (Op.store 23 (Operand.tmp 13) _) _ _ _ _ :: _) _ _; refine st_row (ty := 23) rfl rfl w7.heap.size #[.int .i64 tn, .int .i64 nn, .string sn, .bool false] rfl rfl 23 _ HAS.out (by kernel_rfl) rfl (by kernel_rfl) ?_; intro W8 hW8 gW8 zW8; have HGW : Hid (Gr wr W8) := hid (HGW7.out.trans (gr_boxE gW8)); have HW8 := hid hW8; have c80 : W8.cell? ⟨w7.heap.size, 0, none⟩ = some (.int .i64 tn) := Rg.blk_cells hW8 0; have c83 : W8.cell? ⟨w7.heap.size, 3, none⟩ = some (.bool false) := Rg.blk_cells hW8 3; clear gW8 zW8 hW8) | (guard_target =~ wpList _ _ _ (Oper.mk _ (Op.load 23 (Operand.tmp 13)) _ _ _ _ :: _) _ _; refine wpList_load_row rfl 23 _ rfl w7.heap.size rfl 23 #[.int .i64 tn, .int .i64 nn, .string sn, .bool false] (0, 0) _ HW8.out Tryz.underlying23 rfl (by kernel_rfl) ?_))
                exact ⟨⟨k + 1, out, in_next, hkn, HGo.out.trans (.of HGW.out), (HGW.out.block _ (lt_blk HO.out)).trans HO.out, HN.out⟩, HMS.out⟩
          · obtain rfl : R = (nul, en) := by rw [← HE2.out]; show (if (en == 0) = true then _ else _) = _; rw [if_neg (by simpa using hn0)]
            have q1 : (en != 0) = true := by simpa using hn0
            clear HE2 HMS HP DC hn0
            go_wp2_with (first | (guard_target =~ wpList _ _ _ (Oper.mk _ (Op.store 26 (Operand.tmp 10) _) _ _ _ _ :: _) _ _; refine st_row (ty := 26) rfl rfl wr.heap.size rk.cells rfl rfl 26 _ HAL.out (by kernel_rfl) rfl (by kernel_rfl) ?_; intro W5 hW5 gW5 zW5; have hg5 := HGB.out W5 gW5; have HW5 := hid hW5; clear gW5 zW5 hW5) | (guard_target =~ wpList _ _ _ (Oper.mk _ (Op.load 26 (Operand.tmp 10)) _ _ _ _ :: _) _ _; refine wpList_load_row rfl 26 _ rfl wr.heap.size rfl 26 rk.cells (0, 0) _ HW5.out Tryz.underlying26 rfl (by kernel_rfl) ?_))
            refine (HC.out W5 hg5).mono ?_
            rintro e w4 ⟨rfl, hg4⟩
            have HG4 : Hid (Gr wr w4) := hid (hg5.trans hg4)
            have HAB := hid (alloc_at w4 (.cells #[.int .i64 0, .int .i64 0, .string ⟨#[]⟩, .bool false] 23))
            clear hg4 hg5 HC HAL HGB HW5 k0 k1 k2 k3 k4 k5 k6 k7 k8 k9 k10 k11
            go_wp2_with (first | (guard_target =~ wpList _ _ _ (Oper.mk _ (Op.store 23 (Operand.tmp 11) _) _ _ _ _ :: _) _ _; refine st_row (ty := 23) rfl rfl w4.heap.size #[.int .i64 tb, .int .i64 nb, .string sb, .bool bb] rfl rfl 23 _ HAB.out (by kernel_rfl) rfl (by kernel_rfl) ?_; intro W6 hW6 gW6 zW6; have HGW6 : Hid (Gr wr W6) := hid (HG4.out.trans (gr_boxE gW6)); have HW6 := hid hW6; have HIW6 := hid (HIW.out.gr HGW6.out); clear gW6 zW6 hW6) | (guard_target =~ wpList _ _ _ (Oper.mk _ (Op.load 23 (Operand.tmp 6)) _ _ _ _ :: _) _ _; refine wpList_load_row rfl 23 _ rfl gA rfl 23 #[.int .i64 ta, .int .i64 na, .string sa, .bool ba] (0, 0) _ HIW6.out.av Tryz.underlying23 rfl (by kernel_rfl) ?_) | (guard_target =~ wpList _ _ _ (Oper.mk _ (Op.load 23 (Operand.tmp 11)) _ _ _ _ :: _) _ _; refine wpList_load_row rfl 23 _ rfl w4.heap.size rfl 23 #[.int .i64 tb, .int .i64 nb, .string sb, .bool bb] (0, 0) _ HW6.out Tryz.underlying23 rfl (by kernel_rfl) ?_))
            refine (LC.out _).mono ?_
            rintro e w7 ⟨rfl, hg7⟩
            have HGW7 : Hid (Gr wr w7) := hid (HGW6.out.trans hg7)
            have HAS := hid (alloc_at w7 (.cells #[.int .i64 0, .int .i64 0, .string ⟨#[]⟩, .bool false] 23))
            clear hg7 LC HW6 HGW6 HAB HG4 HIW6
            go_wp2_with ((guard_target =~ wpList _ _ _ (Oper.mk _ (Op.store 23 (Operand.tmp 13) _) _ _ _ _ :: _) _ _; refine st_row (ty := 23) rfl rfl w7.heap.size #[.int .i64 tn, .int .i64 nn, .string sn, .bool bn] rfl rfl 23 _ HAS.out (by kernel_rfl) rfl (by kernel_rfl) ?_; intro W8 hW8 gW8 zW8; have hg8 : Gr wr W8 := HGW7.out.trans (gr_boxE gW8); have hG := HG.out.trans hg8; have hiw := HIW.out.gr hg8; have hZ : W8.heap[w.heap.size + 1]? = some (.cells #[.int .i64 0, .int .i64 0, .string ⟨#[]⟩, .bool false] 23 (0, 0)) := hiw.res; have cZ := Rg.blk_cells hZ; have fZ := Rg.blk_free hZ; have lZ := lt_blk hZ; clear gW8 zW8 hW8 hg8 hZ hiw HGW7 HAS HIW HG HGo HO))
            all_goals
              (try (go_step3; (try simp only [Exit.then]); (try change Rg.once _ _ _ _ _ _); rw [Rg.once_goto]; go_wp2))
              (try rw [Rg.once_ret])
              (try rw [Exit.noGoto_ret])
              (try change bodyPost _ _ _ _ _ _)
              first
              | (go_returns; refine ⟨?_, ?_⟩)
              | (refine bodyPost_ret (by simp [results, Tryz.results50, go_sem, *]; try rfl) rfl ⟨?_, ?_⟩)
              rotate_left
              · repeat' (first | exact Gr.refl _ | exact Nat.le_refl _ | exact Nat.le_add_right _ _ | refine Gr.setCell ?_ ?_ _ | refine Gr.alloc ?_ _ | refine Gr.drew ?_ | refine Gr.trans ?_ (by assumption) | omega | (dsimp only; omega))
            all_goals rfl
        · obtain rfl : R = (nul, eb) := by rw [← HE2.out]; show (if (eb == 0) = true then _ else _) = _; rw [if_neg (by simpa using hb0)]
          have q1 : (eb != 0) = true := by simpa using hb0
          clear HE2 HMS HP DC LC hb0
          go_wp2_with (first | (guard_target =~ wpList _ _ _ (Oper.mk _ (Op.store 26 (Operand.tmp 10) _) _ _ _ _ :: _) _ _; refine st_row (ty := 26) rfl rfl wr.heap.size rk.cells rfl rfl 26 _ HAL.out (by kernel_rfl) rfl (by kernel_rfl) ?_; intro W5 hW5 gW5 zW5; have hg5 := HGB.out W5 gW5; have HW5 := hid hW5; clear gW5 zW5 hW5) | (guard_target =~ wpList _ _ _ (Oper.mk _ (Op.load 26 (Operand.tmp 10)) _ _ _ _ :: _) _ _; refine wpList_load_row rfl 26 _ rfl wr.heap.size rfl 26 rk.cells (0, 0) _ HW5.out Tryz.underlying26 rfl (by kernel_rfl) ?_))
          refine (HC.out W5 hg5).mono ?_
          rintro e w4 ⟨rfl, hg4⟩
          have HG4 : Hid (Gr wr w4) := hid (hg5.trans hg4)
          have HAB := hid (alloc_at w4 (.cells #[.int .i64 0, .int .i64 0, .string ⟨#[]⟩, .bool false] 23))
          clear hg4 hg5 HC HAL HGB HW5 k0 k1 k2 k3 k4 k5 k6 k7 k8 k9 k10 k11
          go_wp2_with ((guard_target =~ wpList _ _ _ (Oper.mk _ (Op.store 23 (Operand.tmp 11) _) _ _ _ _ :: _) _ _; refine st_row (ty := 23) rfl rfl w4.heap.size #[.int .i64 tb, .int .i64 nb, .string sb, .bool bb] rfl rfl 23 _ HAB.out (by kernel_rfl) rfl (by kernel_rfl) ?_; intro W6 hW6 gW6 zW6; have hg6 : Gr wr W6 := HG4.out.trans (gr_boxE gW6); have hG := HG.out.trans hg6; have hiw := HIW.out.gr hg6; have hZ : W6.heap[w.heap.size + 1]? = some (.cells #[.int .i64 0, .int .i64 0, .string ⟨#[]⟩, .bool false] 23 (0, 0)) := hiw.res; have cZ := Rg.blk_cells hZ; have fZ := Rg.blk_free hZ; have lZ := lt_blk hZ; clear gW6 zW6 hW6 hg6 hZ hiw HG4 HAB HIW HG HGo HO))
          all_goals
            (try (go_step3; (try simp only [Exit.then]); (try change Rg.once _ _ _ _ _ _); rw [Rg.once_goto]; go_wp2))
            (try rw [Rg.once_ret])
            (try rw [Exit.noGoto_ret])
            (try change bodyPost _ _ _ _ _ _)
            first
            | (go_returns; refine ⟨?_, ?_⟩)
            | (refine bodyPost_ret (by simp [results, Tryz.results50, go_sem, *]; try rfl) rfl ⟨?_, ?_⟩)
            rotate_left
            · repeat' (first | exact Gr.refl _ | exact Nat.le_refl _ | exact Nat.le_add_right _ _ | refine Gr.setCell ?_ ?_ _ | refine Gr.alloc ?_ _ | refine Gr.drew ?_ | refine Gr.trans ?_ (by assumption) | omega | (dsimp only; omega))
          all_goals rfl
      · have t1 : decide ((k : Int) < (m : Int) + 1) = false := in_dec0 hms hkn
        obtain rfl : R = denR nt (out, 0) := by
          have h := HE.out
          rw [List.drop_eq_nil_of_le (in_end hkn)] at h
          exact h.symm
        have DCO := hid (fun W => DC.out W out)
        obtain ⟨tq, nq, sq, bq⟩ := out
        (try unfold V.val at *)
        clear HE HP HK hkn hms hk DC
        go_wp2_with (first | (guard_target =~ wpList _ _ _ (Oper.mk _ (Op.load 26 (Operand.tmp 3)) _ _ _ _ :: _) _ _; refine wpList_load_row rfl 26 _ rfl w.heap.size rfl 26 #[.int .i64 op, .int .i64 vt, .int .i64 vn, .string vs, .bool vb, .string tab, .string name, .int .i64 t, .int .i64 c, .bool nt, .bool st, .slice (some ⟨g, off, none⟩) (m + 2) rc] (0, 0) _ HIW.out.box Tryz.underlying26 rfl (by kernel_rfl) ?_) | (guard_target =~ wpList _ _ _ (Oper.mk _ (Op.load 23 (Operand.tmp 8)) _ _ _ _ :: _) _ _; refine wpList_load_row rfl 23 _ rfl gO rfl 23 #[.int .i64 tq, .int .i64 nq, .string sq, .bool bq] (0, 0) _ HO.out Tryz.underlying23 rfl (by kernel_rfl) ?_))
        refine (DCO.out _).mono ?_
        rintro e w10 ⟨rfl, hg10⟩
        have hG := HG.out.trans hg10
        have hiw := HIW.out.gr hg10
        have hZ : w10.heap[w.heap.size + 1]? = some (.cells #[.int .i64 0, .int .i64 0, .string ⟨#[]⟩, .bool false] 23 (0, 0)) := hiw.res
        have cZ := Rg.blk_cells hZ
        have fZ := Rg.blk_free hZ
        have lZ := lt_blk hZ
        clear hiw hZ HIW HG HGo DCO hg10 HO
        go_wp2
        all_goals
          (try (go_step3; (try simp only [Exit.then]); (try change Rg.once _ _ _ _ _ _); rw [Rg.once_goto]; go_wp2))
          (try rw [Rg.once_ret])
          (try rw [Exit.noGoto_ret])
          (try change bodyPost _ _ _ _ _ _)
          first
          | (go_returns; refine ⟨?_, ?_⟩)
          | (refine bodyPost_ret (by simp [results, Tryz.results50, go_sem, *]; try rfl) rfl ⟨?_, ?_⟩)
          rotate_left
          · repeat' (first | exact Gr.refl _ | exact Nat.le_refl _ | exact Nat.le_add_right _ _ | refine Gr.setCell ?_ ?_ _ | refine Gr.alloc ?_ _ | refine Gr.drew ?_ | refine Gr.trans ?_ (by assumption) | omega | (dsimp only; omega))
        all_goals rfl
  · have q1 : (ea != 0) = true := by simpa using ha
    rw [show (if (((⟨ta, na, sa, ba⟩, ea) : V × Int).2 == 0) = true then inL ((⟨ta, na, sa, ba⟩, ea) : V × Int).1 nt rs (boolV false) else (nul, ((⟨ta, na, sa, ba⟩, ea) : V × Int).2)) = (nul, ea) from if_neg (by simpa using ha)]
    clear ha HK HM DC HA1
    unfold XR.val Vp pairR nul at *
    go_enter Tryz.func50, Tryz.ntmps50
    go_wp2_with fail
    refine (HC.out _ (((Gr.refl _).alloc _).alloc _)).mono ?_
    rintro e w' ⟨rfl, hg⟩
    have hc := hg.cells
    have hf := hg.frees
    have hz := hg.size
    try simp only [World.size_alloc, World.size_setCell, World.size_drew] at hz
    try have : 0 < w'.heap.size := by omega
    try have : w.heap.size < w'.heap.size := by omega
    try have : w.heap.size + 1 < w'.heap.size := by omega
    try have : w.heap.size + 1 + 1 < w'.heap.size := by omega
    try have : w.heap.size + 1 + 1 + 1 < w'.heap.size := by omega
    go_wp2
    all_goals
      (try (go_step3; (try simp only [Exit.then]); (try change Rg.once _ _ _ _ _ _); rw [Rg.once_goto]; go_wp2))
      (try rw [Rg.once_ret])
      (try rw [Exit.noGoto_ret])
      (try change bodyPost _ _ _ _ _ _)
      first
      | (go_returns; refine ⟨?_, ?_⟩)
      | (refine bodyPost_ret (by simp [results, Tryz.results50, go_sem, *]; try rfl) rfl ⟨?_, ?_⟩)
      rotate_left
      · repeat' (first | exact Gr.refl _ | exact Nat.le_refl _ | exact Nat.le_add_right _ _ | refine Gr.setCell ?_ ?_ _ | refine Gr.alloc ?_ _ | refine Gr.drew ?_ | refine Gr.trans ?_ (by assumption) | omega | (dsimp only; omega))
    all_goals rfl
end Go.Proofs.YtbeinfhgfflneaaGreat
end
section
namespace Go.Proofs.YtbeinfhgfflneaaGreat
open Go.RowKit
set_option linter.unusedSimpArgs false
set_option linter.unusedVariables false
attribute [local go_sem] Rg.leads_value Rg.leads_skip Rg.leads_enter Rg.brings_value Rg.brings_skip Rg.brings_enter Rg.bringsG_value Rg.bringsG_enter Rg.once_normal Rg.once_exit Rg.once_ret Rg.once_panic Rg.once_goto
def FiRel (l : List V) (R : V × Int) (n : Nat) (W0 : World) (s9 : Value) (wr : World) : Prop := ∃ (k : Nat) (out : V), s9 = .int .i64 (k : Int) ∧ k ≤ l.length ∧ Go1 (n + 1) W0 wr ∧ wr.heap[n + 1]? = some (.cells out.cells 23 (0, 0)) ∧ firstV (l.drop k) out = R
theorem firstV_at (l : List V) (k : Nat) (h : k < l.length) (out : V) : firstV (l.drop k) out = (if (l[k]).t == 0 then firstV (l.drop (k + 1)) out else if out.t == 0 then firstV (l.drop (k + 1)) l[k] else if (l[k]).t != out.t then (nul, 160) else firstV (l.drop (k + 1)) out) := by
  rw [List.drop_eq_getElem_cons h]
  rfl
theorem fi_dec {k m : Nat} (h : k < m) : decide ((k : Int) < (m : Int)) = true := by rw [decide_eq_true_iff]; omega
theorem fi_dec0 {k m : Nat} (h : ¬ k < m) : decide ((k : Int) < (m : Int)) = false := by rw [decide_eq_false_iff_not]; omega
theorem fi_decn0 {k m : Nat} (h : ¬ k < m) : decide (k < m) = false := by rw [decide_eq_false_iff_not]; omega
theorem fi_lt {k m : Nat} (h : k < m) : (k : Int) < (m : Int) := by omega
theorem fi_wrap {k m : Nat} (h : k < m) (hb : m ≤ 2000000) : wrap64 ((k : Int) + 1) = (k : Int) + 1 := by unfold wrap64; omega
set_option maxHeartbeats 16000000 in
set_option maxRecDepth 100000 in
theorem first_full (oa : Option Addr) (c : Nat) (l : List V) (w : World) (hat : VAt w oa l) (hb : l.length ≤ 2000000) : Calls Tryz.prog 92 #[.slice oa l.length c] w (Vp (firstV l nul) w) := by
  obtain ⟨R, hR⟩ : ∃ R, firstV l nul = R := ⟨_, rfl⟩
  rw [hR]
  have HAT := hid hat
  obtain ⟨W0, hW0⟩ : ∃ W0, (w.alloc (.cells #[.int .i64 0, .int .i64 0, .string ⟨#[]⟩, .bool false] 23)).alloc (.cells #[.int .i64 0, .int .i64 0, .string ⟨#[]⟩, .bool false] 23) = W0 := ⟨_, rfl⟩
  have HG0 : Hid (Gr w W0) := hid (by rw [← hW0]; exact ((Gr.refl w).alloc _).alloc _)
  have HZ0 : Hid (W0.heap[w.heap.size]? = some (.cells #[.int .i64 0, .int .i64 0, .string ⟨#[]⟩, .bool false] 23 (0, 0))) := hid (by rw [← hW0]; exact (((Gr.refl _).alloc _).block _ (by rw [World.size_alloc]; exact Nat.lt_succ_self _)).trans (alloc_at _ _))
  have HS0 : Hid (FiRel l R w.heap.size W0 (.int .i64 0) W0) := hid ⟨0, nul, rfl, Nat.zero_le _, Go1.refl _ _, by rw [← hW0]; exact alloc_two _ _ _, hR⟩
  have HW0 := hid hW0
  clear hR hat hW0
  unfold Vp
  go_enter Tryz.func92, Tryz.ntmps92
  go_wp2_with fail
  rw [HW0.out]
  clear HW0
  go_loopw [9] (fun s9 wr => FiRel l R w.heap.size W0 s9 wr) (fun s9 _ => l.length - (intOf s9).toNat)
  · exact HS0.out
  · clear HS0
    obtain ⟨k, out, rfl, hk, hg1, hO, hE⟩ := hrel
    have HGo := hid hg1
    have HO := hid hO
    have HG := hid (HG0.out.grown hg1 (fun i e => by cases e; exact Nat.le_succ _))
    have HZ : Hid (wr.heap[w.heap.size]? = some (.cells #[.int .i64 0, .int .i64 0, .string ⟨#[]⟩, .bool false] 23 (0, 0))) := hid ((hg1.get (lt_blk HZ0.out) (Nat.ne_of_lt (Nat.lt_succ_self _))).trans HZ0.out)
    have HE := hid hE
    clear hg1 hO hE HG0 HZ0
    by_cases hkn : k < l.length
    · have t1 : decide ((k : Int) < (l.length : Int)) = true := fi_dec hkn
      have gk : (k : Int) < (l.length : Int) := fi_lt hkn
      have HWK := hid (fi_wrap hkn hb)
      have HMS := hid (in_ms hkn)
      obtain ⟨b, off, rfl, v0, v1, v2, v3⟩ := v_get (HAT.out.keep HG.out) k hkn
      have hbl := lt_of_cell v0
      have hE2 := HE.out
      rw [firstV_at l k hkn] at hE2
      generalize l[k] = v at *
      obtain ⟨tv, nv, sv, bv⟩ := v
      obtain ⟨tq, nq, sq, bq⟩ := out
      obtain ⟨x1, t2⟩ : ∃ x, (tv == 0) = x := ⟨_, rfl⟩
      obtain ⟨x2, t3⟩ : ∃ x, (tq == 0) = x := ⟨_, rfl⟩
      obtain ⟨x3, t4⟩ : ∃ x, (tv != tq) = x := ⟨_, rfl⟩
      simp only [t2, t3, t4] at hE2
      have HE2 := hid hE2
      have HAL := hid (alloc_at wr (.cells zeroV 23))
      have HGB := hid (fun W5 h => gr_boxE (w1 := wr) (o := .cells zeroV 23) (W := W5) h)
      clear hE2 HE hk HAT
      (try unfold V.cells at *)
      cases x1 with
      | true =>
        have HN : Hid (firstV (l.drop (k + 1)) ⟨tq, nq, sq, bq⟩ = R) := hid HE2.out
        clear HE2
        go_wp2_with (guard_target =~ wpList _ _ _ (Oper.mk _ (Op.store 23 (Operand.tmp 6) _) _ _ _ _ :: _) _ _; refine st_row (ty := 23) rfl rfl wr.heap.size #[.int .i64 tv, .int .i64 nv, .string sv, .bool bv] rfl rfl 23 _ HAL.out (by kernel_rfl) rfl (by kernel_rfl) ?_; intro W5 hW5 gW5 zW5; have hg5 := HGB.out W5 gW5; have HG5 := hid hg5; have HW5 := hid hW5; have c50 : W5.cell? ⟨wr.heap.size, 0, none⟩ = some (.int .i64 tv) := Rg.blk_cells hW5 0; have o50 : W5.cell? ⟨w.heap.size + 1, 0, none⟩ = some (.int .i64 tq) := hg5.keep (Rg.blk_cells HO.out 0); clear gW5 zW5 hW5 hg5)
        exact ⟨⟨k + 1, ⟨tq, nq, sq, bq⟩, in_next, hkn, HGo.out.trans (.of HG5.out), (HG5.out.block _ (lt_blk HO.out)).trans HO.out, HN.out⟩, HMS.out⟩
      | false =>
        cases x2 with
        | true =>
          have HN : Hid (firstV (l.drop (k + 1)) ⟨tv, nv, sv, bv⟩ = R) := hid HE2.out
          clear HE2
          go_wp2_with (first | (guard_target =~ wpList _ _ _ (Oper.mk _ (Op.store 23 (Operand.tmp 6) _) _ _ _ _ :: _) _ _; refine st_row (ty := 23) rfl rfl wr.heap.size #[.int .i64 tv, .int .i64 nv, .string sv, .bool bv] rfl rfl 23 _ HAL.out (by kernel_rfl) rfl (by kernel_rfl) ?_; intro W5 hW5 gW5 zW5; have hg5 := HGB.out W5 gW5; have HG5 := hid hg5; have HW5 := hid hW5; have c50 : W5.cell? ⟨wr.heap.size, 0, none⟩ = some (.int .i64 tv) := Rg.blk_cells hW5 0; have o50 : W5.cell? ⟨w.heap.size + 1, 0, none⟩ = some (.int .i64 tq) := hg5.keep (Rg.blk_cells HO.out 0); clear gW5 zW5 hW5 hg5) | (guard_target =~ wpList _ _ _ (Oper.mk _ (Op.load 23 (Operand.tmp 6)) _ _ _ _ :: _) _ _; refine wpList_load_row rfl 23 _ rfl wr.heap.size rfl 23 #[.int .i64 tv, .int .i64 nv, .string sv, .bool bv] (0, 0) _ HW5.out Tryz.underlying23 rfl (by kernel_rfl) ?_) | (guard_target =~ wpList _ _ _ (Oper.mk _ (Op.store 23 (Operand.tmp 4) _) _ _ _ _ :: _) _ _; refine st_row (ty := 23) rfl rfl (w.heap.size + 1) #[.int .i64 tv, .int .i64 nv, .string sv, .bool bv] rfl rfl 23 _ ((HG5.out.block _ (lt_blk HO.out)).trans HO.out) (by kernel_rfl) rfl (by kernel_rfl) ?_; intro W9 hW9 gW9 zW9; have HW9 := hid hW9; have HG9 := hid gW9; clear gW9 zW9 hW9))
          exact ⟨⟨k + 1, ⟨tv, nv, sv, bv⟩, in_next, hkn, (HGo.out.trans (.of HG5.out)).trans HG9.out, HW9.out, HN.out⟩, HMS.out⟩
        | false =>
          cases x3 with
          | true =>
            obtain rfl : R = (nul, 160) := HE2.out.symm
            clear HE2 HMS
            go_wp2_with (guard_target =~ wpList _ _ _ (Oper.mk _ (Op.store 23 (Operand.tmp 6) _) _ _ _ _ :: _) _ _; refine st_row (ty := 23) rfl rfl wr.heap.size #[.int .i64 tv, .int .i64 nv, .string sv, .bool bv] rfl rfl 23 _ HAL.out (by kernel_rfl) rfl (by kernel_rfl) ?_; intro W5 hW5 gW5 zW5; have hg5 := HGB.out W5 gW5; have c50 : W5.cell? ⟨wr.heap.size, 0, none⟩ = some (.int .i64 tv) := Rg.blk_cells hW5 0; have o50 : W5.cell? ⟨w.heap.size + 1, 0, none⟩ = some (.int .i64 tq) := hg5.keep (Rg.blk_cells HO.out 0); have hG := HG.out.trans hg5; have hZ5 := (hg5.block _ (lt_blk HZ.out)).trans HZ.out; have cZ := Rg.blk_cells hZ5; have fZ := Rg.blk_free hZ5; have lZ := lt_blk hZ5; clear gW5 zW5 hW5 hg5 hZ5 HG HGo HO HZ HAL HGB)
            all_goals
              (try (go_step3; (try simp only [Exit.then]); (try change Rg.once _ _ _ _ _ _); rw [Rg.once_goto]; go_wp2))
              (try rw [Rg.once_ret])
              (try rw [Exit.noGoto_ret])
              (try change bodyPost _ _ _ _ _ _)
              first
              | (go_returns; refine ⟨?_, ?_⟩)
              | (refine bodyPost_ret (by simp [results, Tryz.results92, go_sem, *]; try rfl) rfl ⟨?_, ?_⟩)
              rotate_left
              · repeat' (first | exact Gr.refl _ | exact Nat.le_refl _ | exact Nat.le_add_right _ _ | refine Gr.setCell ?_ ?_ _ | refine Gr.alloc ?_ _ | refine Gr.drew ?_ | refine Gr.trans ?_ (by assumption) | omega | (dsimp only; omega))
            all_goals rfl
          | false =>
            have HN : Hid (firstV (l.drop (k + 1)) ⟨tq, nq, sq, bq⟩ = R) := hid HE2.out
            clear HE2
            go_wp2_with (guard_target =~ wpList _ _ _ (Oper.mk _ (Op.store 23 (Operand.tmp 6) _) _ _ _ _ :: _) _ _; refine st_row (ty := 23) rfl rfl wr.heap.size #[.int .i64 tv, .int .i64 nv, .string sv, .bool bv] rfl rfl 23 _ HAL.out (by kernel_rfl) rfl (by kernel_rfl) ?_; intro W5 hW5 gW5 zW5; have hg5 := HGB.out W5 gW5; have HG5 := hid hg5; have HW5 := hid hW5; have c50 : W5.cell? ⟨wr.heap.size, 0, none⟩ = some (.int .i64 tv) := Rg.blk_cells hW5 0; have o50 : W5.cell? ⟨w.heap.size + 1, 0, none⟩ = some (.int .i64 tq) := hg5.keep (Rg.blk_cells HO.out 0); clear gW5 zW5 hW5 hg5)
            exact ⟨⟨k + 1, ⟨tq, nq, sq, bq⟩, in_next, hkn, HGo.out.trans (.of HG5.out), (HG5.out.block _ (lt_blk HO.out)).trans HO.out, HN.out⟩, HMS.out⟩
    · have t1 : decide ((k : Int) < (l.length : Int)) = false := fi_dec0 hkn
      have t1n : decide (k < l.length) = false := fi_decn0 hkn
      obtain rfl : R = (out, 0) := by
        have h := HE.out
        rw [List.drop_eq_nil_of_le (in_end hkn)] at h
        exact h.symm
      have hG := HG.out
      have cZ := Rg.blk_cells HZ.out
      have fZ := Rg.blk_free HZ.out
      have lZ := lt_blk HZ.out
      obtain ⟨tq, nq, sq, bq⟩ := out
      (try unfold V.cells at *)
      clear HE HG HZ HGo hkn hk HAT
      go_wp2_with (guard_target =~ wpList _ _ _ (Oper.mk _ (Op.load 23 (Operand.tmp 4)) _ _ _ _ :: _) _ _; refine wpList_load_row rfl 23 _ rfl (w.heap.size + 1) rfl 23 #[.int .i64 tq, .int .i64 nq, .string sq, .bool bq] (0, 0) _ HO.out Tryz.underlying23 rfl (by kernel_rfl) ?_)
      all_goals
        (try (go_step3; (try simp only [Exit.then]); (try change Rg.once _ _ _ _ _ _); rw [Rg.once_goto]; go_wp2))
        (try rw [Rg.once_ret])
        (try rw [Exit.noGoto_ret])
        (try change bodyPost _ _ _ _ _ _)
        first
        | (go_returns; refine ⟨?_, ?_⟩)
        | (refine bodyPost_ret (by simp [results, Tryz.results92, go_sem, *]; try rfl) rfl ⟨?_, ?_⟩)
        rotate_left
        · repeat' (first | exact Gr.refl _ | exact Nat.le_refl _ | exact Nat.le_add_right _ _ | refine Gr.setCell ?_ ?_ _ | refine Gr.alloc ?_ _ | refine Gr.drew ?_ | refine Gr.trans ?_ (by assumption) | omega | (dsimp only; omega))
      all_goals rfl
end Go.Proofs.YtbeinfhgfflneaaGreat
end
section
namespace Go.Proofs.YtbeinfhgfflneaaGreat
open Go.RowKit
set_option linter.unusedSimpArgs false
set_option linter.unusedVariables false
attribute [local go_sem] Rg.leads_value Rg.leads_skip Rg.leads_enter Rg.brings_value Rg.brings_skip Rg.brings_enter Rg.bringsG_value Rg.bringsG_enter Rg.once_normal Rg.once_exit Rg.once_ret Rg.once_panic Rg.once_goto
set_option maxHeartbeats 4000000 in
set_option maxRecDepth 100000 in
theorem allf_any (k kind : Int) (g : Nat) (w : World) (hc : w.cell? ⟨g, 0, none⟩ = some (.int .i64 kind)) : Calls Tryz.prog 107 #[.int .i64 k, .pointer (some ⟨g, 0, none⟩)] w fun e w' => e = .returned (.bool (!(k == 0 || k == kind))) ∧ w' = w := by
  obtain ⟨x1, t1⟩ : ∃ x, (k == 0) = x := ⟨_, rfl⟩
  obtain ⟨x2, t2⟩ : ∃ x, (k == kind) = x := ⟨_, rfl⟩
  have n1 : (k != 0) = !x1 := by rw [← t1]; rfl
  have n2 : (k != kind) = !x2 := by rw [← t2]; rfl
  rw [t1, t2]
  cases x1 <;> cases x2
  all_goals
    go_enter Tryz.func107, Tryz.ntmps107
    go_wp2
    go_returns
    exact ⟨rfl, rfl⟩
theorem i_cell {w : World} {oa : Option Addr} {l : List Int} (h : AtF iF 1 w oa l) (k : Nat) (hk : k < l.length) : ∃ b off, oa = some ⟨b, off, none⟩ ∧ b < w.heap.size ∧ w.cell? ⟨b, off + k, none⟩ = some (.int .i64 l[k]) := by
  obtain ⟨b, off, e, hb, hc⟩ := h.get k hk
  refine ⟨b, off, e, hb, ?_⟩
  have := hc 0 _ rfl
  simpa using this
set_option maxHeartbeats 8000000 in
set_option maxRecDepth 100000 in
theorem idxi_any (oa : Option Addr) (c : Nat) (l : List Int) (kind : Int) (g : Nat) (w : World) (hat : AtF iF 1 w oa l) (hb : l.length ≤ 2000000) (hc : w.cell? ⟨g, 0, none⟩ = some (.int .i64 kind)) :
    Calls Tryz.prog 124 #[.slice oa l.length c, .func (.func 107) #[] #[.pointer (some ⟨g, 0, none⟩)]] w fun e w' => (∃ r : Int, e = .returned (.int .i64 r) ∧ decide (0 ≤ r) = !allB kind l) ∧ w' = w := by
  have HF : Hid (∀ k, _) := hid (fun k => allf_any k kind g w hc)
  have HAT := hid hat
  clear hat hc
  go_enter Tryz.func124, Tryz.ntmps124
  go_wp2_with fail
  go_loopw [8] (fun s8 wr => wr = w ∧ ∃ k : Nat, s8 = .int .i64 (k : Int) ∧ k ≤ l.length ∧ allB kind l = allB kind (l.drop k)) (fun s8 _ => l.length - (intOf s8).toNat)
  · exact ⟨rfl, 0, rfl, Nat.zero_le _, rfl⟩
  · obtain ⟨hw, k, rfl, hk, hall⟩ := hrel
    subst hw
    by_cases hkn : k < l.length
    · have t1 : decide ((k : Int) < (l.length : Int)) = true := fi_dec hkn
      have gk : (k : Int) < (l.length : Int) := fi_lt hkn
      have HWK := hid (fi_wrap hkn hb)
      have HMS := hid (in_ms hkn)
      obtain ⟨b, off, rfl, hbl, v0⟩ := i_cell HAT.out k hkn
      have hd : allB kind (l.drop k) = ((l[k] == 0 || l[k] == kind) && allB kind (l.drop (k + 1))) := by
        rw [List.drop_eq_getElem_cons hkn]; rfl
      rw [hd] at hall
      have HFK := hid (HF.out l[k])
      generalize l[k] = x at *
      obtain ⟨x1, t2⟩ : ∃ y, (x == 0 || x == kind) = y := ⟨_, rfl⟩
      rw [t2] at hall HFK
      have HALL := hid hall
      clear hall hd t2 hk HF HAT
      go_wp2_with fail
      refine HFK.out.mono ?_
      rintro e w' ⟨rfl, rfl⟩
      cases x1 with
      | true =>
        go_wp2
        exact ⟨⟨trivial, k + 1, in_next, hkn, by rw [HALL.out]; rfl⟩, HMS.out⟩
      | false =>
        go_wp2
        go_returns
        exact ⟨⟨_, rfl, by rw [HALL.out]; simp⟩, rfl⟩
    · have t1 : decide ((k : Int) < (l.length : Int)) = false := fi_dec0 hkn
      have t1n : decide (k < l.length) = false := fi_decn0 hkn
      have ha : allB kind l = true := by rw [hall, List.drop_eq_nil_of_le (in_end hkn)]; rfl
      have HA := hid ha
      clear ha hall HF HAT
      go_wp2
      go_returns
      exact ⟨⟨_, rfl, by rw [HA.out]; decide⟩, rfl⟩
set_option maxHeartbeats 4000000 in
set_option maxRecDepth 100000 in
theorem ball_any (oa : Option Addr) (c : Nat) (l : List Int) (kind : Int) (w : World) (hat : AtF iF 1 w oa l) (hb : l.length ≤ 2000000) : Calls Tryz.prog 91 #[.int .i64 kind, .slice oa l.length c] w fun e w' => e = .returned (.bool (allB kind l)) ∧ Gr w w' := by
  have HC : Hid (∀ g W, Gr w W → W.cell? ⟨g, 0, none⟩ = some (.int .i64 kind) → Calls Tryz.prog 106 #[.slice oa l.length c, .func (.func 107) #[] #[.pointer (some ⟨g, 0, none⟩)]] W fun e w' => e = .returned (.bool (!allB kind l)) ∧ w' = W) := hid (fun g W hW hc => by
    have HI := hid (idxi_any oa c l kind g W (hat.keep hW) hb hc)
    clear hc hW
    generalize allB kind l = B at *
    go_enter Tryz.func106, Tryz.ntmps106
    go_wp2_with fail
    refine HI.out.mono ?_
    rintro e w' ⟨⟨r, rfl, hr⟩, rfl⟩
    go_wp2
    go_returns
    exact ⟨rfl, rfl⟩)
  generalize allB kind l = B at *
  clear hat
  go_enter Tryz.func91, Tryz.ntmps91
  go_wp2_with fail
  refine (HC.out _ _ ((Gr.refl _).alloc _) (Rg.blk_cells (alloc_at _ _) 0)).mono ?_
  rintro e w' ⟨rfl, rfl⟩
  go_wp2
  go_returns
  exact ⟨by simp, (Gr.refl _).alloc _⟩
set_option maxHeartbeats 4000000 in
set_option maxRecDepth 100000 in
theorem bone_any (oa : Option Addr) (c : Nat) (l : List Int) (w : World) (hat : AtF iF 1 w oa l) (hb : l.length ≤ 2000000) : Calls Tryz.prog 70 #[.slice oa l.length c] w fun e w' => e = .returned (.tuple #[.int .i64 (firstK l), .bool (allB (firstK l) l)]) ∧ Gr w w' := by
  have HA : Hid (∀ kind W, Gr w W → _) := hid (fun kind W h => ball_any oa c l kind W (hat.keep h) hb)
  have HAT := hid hat
  clear hat
  go_enter Tryz.func70, Tryz.ntmps70
  go_wp2_with fail
  go_loopw [4, 9] (fun s4 s9 wr => wr = w ∧ ∃ (k : Nat) (q : Int), s9 = .int .i64 (k : Int) ∧ s4 = .int .i64 q ∧ k ≤ l.length ∧ firstK l = (if q == 0 then firstK (l.drop k) else q)) (fun _ s9 _ => l.length - (intOf s9).toNat)
  · exact ⟨rfl, 0, 0, rfl, rfl, Nat.zero_le _, rfl⟩
  · obtain ⟨hw, k, q, rfl, rfl, hk, hq⟩ := hrel
    subst hw
    have HQ := hid hq
    clear hq
    by_cases hkn : k < l.length
    · have t1 : decide ((k : Int) < (l.length : Int)) = true := fi_dec hkn
      have gk : (k : Int) < (l.length : Int) := fi_lt hkn
      have HWK := hid (fi_wrap hkn hb)
      have HMS := hid (in_ms hkn)
      obtain ⟨b, off, rfl, hbl, v0⟩ := i_cell HAT.out k hkn
      obtain ⟨x1, t2⟩ : ∃ y, (q == 0) = y := ⟨_, rfl⟩
      have hd : firstK (l.drop k) = if l[k] == 0 then firstK (l.drop (k + 1)) else l[k] := by
        rw [List.drop_eq_getElem_cons hkn]; rfl
      have HD := hid hd
      clear hd hk HA
      cases x1 with
      | true =>
        have HN : Hid (firstK l = if l[k] == 0 then firstK (l.drop (k + 1)) else l[k]) := hid (by rw [HQ.out, t2, if_pos rfl, HD.out])
        clear HQ HD
        go_wp2_with fail
        exact ⟨⟨trivial, k + 1, l[k], in_next, rfl, hkn, HN.out⟩, HMS.out⟩
      | false =>
        have HN : Hid (firstK l = if q == 0 then firstK (l.drop (k + 1)) else q) := hid (by rw [HQ.out, t2, if_neg (by decide), if_neg (by decide)])
        clear HQ HD
        go_wp2_with fail
        exact ⟨⟨trivial, k + 1, q, in_next, rfl, hkn, HN.out⟩, HMS.out⟩
    · have t1 : decide ((k : Int) < (l.length : Int)) = false := fi_dec0 hkn
      have t1n : decide (k < l.length) = false := fi_decn0 hkn
      have hf : q = firstK l := by
        have := HQ.out
        rw [List.drop_eq_nil_of_le (in_end hkn)] at this
        by_cases h0 : q = 0
        · subst h0; rw [this]; rfl
        · rw [if_neg (by simpa using h0)] at this; exact this.symm
      subst hf
      clear HQ HAT
      go_wp2_with fail
      refine (HA.out _ _ (Gr.refl _)).mono ?_
      rintro e w' ⟨rfl, hg⟩
      go_wp2
      go_returns
      exact ⟨rfl, hg⟩
end Go.Proofs.YtbeinfhgfflneaaGreat
end
section
namespace Go.Proofs.YtbeinfhgfflneaaGreat
open Go.RowKit
set_option linter.unusedSimpArgs false
set_option linter.unusedVariables false
attribute [local go_sem] Rg.leads_value Rg.leads_skip Rg.leads_enter Rg.brings_value Rg.brings_skip Rg.brings_enter Rg.bringsG_value Rg.bringsG_enter Rg.once_normal Rg.once_exit Rg.once_ret Rg.once_panic Rg.once_goto
def Kp2 (q : Int × Int) (w : World) (e : Ending) (w' : World) : Prop := e = .returned (.tuple #[.int .i64 q.1, .int .i64 q.2]) ∧ Gr w w'
set_option maxHeartbeats 4000000 in
set_option maxRecDepth 100000 in
theorem btyped_any (many : Bool) (kids kind : Int) (oa : Option Addr) (c : Nat) (l : List Int) (w : World) (hat : AtF iF 1 w oa l) (hb : l.length ≤ 2000000) : Calls Tryz.prog 69 #[.bool many, .int .i64 kids, .int .i64 kind, .slice oa l.length c] w (Kp2 (typedK many kids kind l) w) := by
  have HA := hid (ball_any oa c l kids w hat hb)
  have HR : Hid (typedK many kids kind l = if many then (if allB kids l then (kind, 0) else (0, 160)) else (0, 1)) := hid rfl
  generalize typedK many kids kind l = R at *
  generalize allB kids l = B at *
  clear hat hb
  unfold Kp2
  cases many with
  | false =>
    obtain rfl : R = (0, 1) := HR.out
    go_enter Tryz.func69, Tryz.ntmps69
    go_wp2
    go_returns
    exact ⟨rfl, Gr.refl _⟩
  | true =>
    cases B with
    | true =>
      obtain rfl : R = (kind, 0) := HR.out
      go_enter Tryz.func69, Tryz.ntmps69
      go_wp2_with fail
      refine HA.out.mono ?_
      rintro e w' ⟨rfl, hg⟩
      go_wp2
      go_returns
      exact ⟨rfl, hg⟩
    | false =>
      obtain rfl : R = (0, 160) := HR.out
      go_enter Tryz.func69, Tryz.ntmps69
      go_wp2_with fail
      refine HA.out.mono ?_
      rintro e w' ⟨rfl, hg⟩
      go_wp2
      go_returns
      exact ⟨rfl, hg⟩
end Go.Proofs.YtbeinfhgfflneaaGreat
end
section
namespace Go.Proofs.YtbeinfhgfflneaaGreat
open Go.RowKit
set_option linter.unusedSimpArgs false
set_option linter.unusedVariables false
attribute [local go_sem] Rg.leads_value Rg.leads_skip Rg.leads_enter Rg.brings_value Rg.brings_skip Rg.brings_enter Rg.bringsG_value Rg.bringsG_enter Rg.once_normal Rg.once_exit Rg.once_ret Rg.once_panic Rg.once_goto
set_option maxHeartbeats 16000000 in
set_option maxRecDepth 100000 in
theorem bcall_any (rh : Hd) (roa : Option Addr) (rn rc : Nat) (oa : Option Addr) (c : Nat) (l : List Int) (w : World) (hat : AtF iF 1 w oa l) (hb : l.length ≤ 2000000) : Calls Tryz.prog 68 #[XR.val ⟨rh, roa, rn, rc⟩, .slice oa l.length c] w (Kp2 (callK rh l) w) := by
  have OC : Hid (∀ W, Gr w W → _) := hid (fun W h => bone_any oa c l W (hat.keep h) hb)
  have T2 : Hid (∀ W, Gr w W → _) := hid (fun W h => btyped_any true 2 1 oa c l W (hat.keep h) hb)
  have T1 : Hid (∀ W, Gr w W → _) := hid (fun W h => btyped_any true 1 1 oa c l W (hat.keep h) hb)
  have HR : Hid (callK rh l = if l.length == 0 then (0, 1) else if !isName rh.name [108, 101, 110, 103, 116, 104] && !isName rh.name [97, 98, 115] && !isName rh.name [99, 111, 97, 108, 101, 115, 99, 101] then (0, 190) else if isName rh.name [99, 111, 97, 108, 101, 115, 99, 101] && allB (firstK l) l then (firstK l, 0) else if isName rh.name [99, 111, 97, 108, 101, 115, 99, 101] || l.length != 1 then (0, 160) else if isName rh.name [108, 101, 110, 103, 116, 104] then typedK true 2 1 l else typedK true 1 1 l) := hid rfl
  generalize callK rh l = R at *
  generalize typedK true 2 1 l = R2 at *
  generalize typedK true 1 1 l = R1 at *
  generalize firstK l = k at *
  generalize allB k l = B at *
  generalize l.length = n at *
  clear hat hb
  obtain ⟨op, ⟨vt, vn, vs, vb⟩, tab, name, t, cc, nt, st⟩ := rh
  obtain ⟨x1, e1⟩ : ∃ x, (name.toList == [108, 101, 110, 103, 116, 104]) = x := ⟨_, rfl⟩
  obtain ⟨x2, e2⟩ : ∃ x, (name.toList == [97, 98, 115]) = x := ⟨_, rfl⟩
  obtain ⟨x3, e3⟩ : ∃ x, (name.toList == [99, 111, 97, 108, 101, 115, 99, 101]) = x := ⟨_, rfl⟩
  obtain ⟨x4, e4⟩ : ∃ x, (n == 0) = x := ⟨_, rfl⟩
  obtain ⟨x5, e5⟩ : ∃ x, (n != 1) = x := ⟨_, rfl⟩
  have m1 : (name.toList != [108, 101, 110, 103, 116, 104]) = !x1 := by rw [← e1]; rfl
  have m2 : (name.toList != [97, 98, 115]) = !x2 := by rw [← e2]; rfl
  have m3 : (name.toList != [99, 111, 97, 108, 101, 115, 99, 101]) = !x3 := by rw [← e3]; rfl
  have i4 : ((n : Int) == 0) = x4 := by
    rw [← e4]
    by_cases h : n = 0
    · subst h; rfl
    · have h2 : ((n : Int) == 0) = false := by rw [beq_eq_false_iff_ne]; omega
      have h3 : (n == 0) = false := by rw [beq_eq_false_iff_ne]; exact h
      rw [h2, h3]
  have i5 : ((n : Int) != 1) = x5 := by
    rw [← e5]
    by_cases h : n = 1
    · subst h; rfl
    · have h2 : ((n : Int) == 1) = false := by rw [beq_eq_false_iff_ne]; omega
      have h3 : (n == 1) = false := by rw [beq_eq_false_iff_ne]; exact h
      unfold bne
      rw [h2, h3]
  simp only [isName, e1, e2, e3, e4, e5] at HR
  unfold XR.val Kp2 at *
  cases x4
  · cases x1 <;> cases x2 <;> cases x3 <;> cases B <;> cases x5
    all_goals
      obtain rfl := HR.out
      clear HR
      go_enter Tryz.func68, Tryz.ntmps68
      go_wp2_with (first | (go_at_call 70; ((with_reducible refine (OC.out _ ((Gr.refl _).alloc _)).mono ?_)); rintro e w' ⟨rfl, hg⟩; have hc := hg.cells; have hf := hg.frees; have hz := hg.size; (try simp only [World.size_alloc, World.size_setCell, World.size_drew] at hz); (try have : 0 < w'.heap.size := by omega); (try have : w.heap.size < w'.heap.size := by omega); (try have : w.heap.size + 1 < w'.heap.size := by omega); (try have : w.heap.size + 1 + 1 < w'.heap.size := by omega); (try have : w.heap.size + 1 + 1 + 1 < w'.heap.size := by omega)) | (go_at_call 69; ((with_reducible refine (T2.out _ (((Gr.refl _).alloc _).trans (by assumption))).mono ?_)); rintro e w' ⟨rfl, hg⟩; have hc := hg.cells; have hf := hg.frees; have hz := hg.size; (try simp only [World.size_alloc, World.size_setCell, World.size_drew] at hz); (try have : 0 < w'.heap.size := by omega); (try have : w.heap.size < w'.heap.size := by omega); (try have : w.heap.size + 1 < w'.heap.size := by omega); (try have : w.heap.size + 1 + 1 < w'.heap.size := by omega); (try have : w.heap.size + 1 + 1 + 1 < w'.heap.size := by omega)) | (go_at_call 69; ((with_reducible refine (T1.out _ (((Gr.refl _).alloc _).trans (by assumption))).mono ?_)); rintro e w' ⟨rfl, hg⟩; have hc := hg.cells; have hf := hg.frees; have hz := hg.size; (try simp only [World.size_alloc, World.size_setCell, World.size_drew] at hz); (try have : 0 < w'.heap.size := by omega); (try have : w.heap.size < w'.heap.size := by omega); (try have : w.heap.size + 1 < w'.heap.size := by omega); (try have : w.heap.size + 1 + 1 < w'.heap.size := by omega); (try have : w.heap.size + 1 + 1 + 1 < w'.heap.size := by omega)))
      all_goals
        (try (go_step3; (try simp only [Exit.then]); (try change Rg.once _ _ _ _ _ _); rw [Rg.once_goto]; go_wp2))
        (try rw [Rg.once_ret])
        (try rw [Exit.noGoto_ret])
        (try change bodyPost _ _ _ _ _ _)
        first
        | (go_returns; refine ⟨?_, ?_⟩)
        | (refine bodyPost_ret (by simp [results, Tryz.results68, go_sem, *]; try rfl) rfl ⟨?_, ?_⟩)
        rotate_left
        · repeat' (first | exact Gr.refl _ | exact Nat.le_refl _ | exact Nat.le_add_right _ _ | refine Gr.setCell ?_ ?_ _ | refine Gr.alloc ?_ _ | refine Gr.drew ?_ | refine Gr.trans ?_ (by assumption) | omega | (dsimp only; omega))
      all_goals rfl
  · obtain rfl : R = (0, 1) := HR.out
    go_enter Tryz.func68, Tryz.ntmps68
    go_wp2_with fail
    refine (OC.out _ ((Gr.refl _).alloc _)).mono ?_
    rintro e w' ⟨rfl, hg⟩
    have hc := hg.cells
    have hf := hg.frees
    have hz := hg.size
    try simp only [World.size_alloc, World.size_setCell, World.size_drew] at hz
    try have : 0 < w'.heap.size := by omega
    try have : w.heap.size < w'.heap.size := by omega
    try have : w.heap.size + 1 < w'.heap.size := by omega
    try have : w.heap.size + 1 + 1 < w'.heap.size := by omega
    try have : w.heap.size + 1 + 1 + 1 < w'.heap.size := by omega
    go_wp2
    all_goals
      (try (go_step3; (try simp only [Exit.then]); (try change Rg.once _ _ _ _ _ _); rw [Rg.once_goto]; go_wp2))
      (try rw [Rg.once_ret])
      (try rw [Exit.noGoto_ret])
      (try change bodyPost _ _ _ _ _ _)
      first
      | (go_returns; refine ⟨?_, ?_⟩)
      | (refine bodyPost_ret (by simp [results, Tryz.results68, go_sem, *]; try rfl) rfl ⟨?_, ?_⟩)
      rotate_left
      · repeat' (first | exact Gr.refl _ | exact Nat.le_refl _ | exact Nat.le_add_right _ _ | refine Gr.setCell ?_ ?_ _ | refine Gr.alloc ?_ _ | refine Gr.drew ?_ | refine Gr.trans ?_ (by assumption) | omega | (dsimp only; omega))
    all_goals rfl
end Go.Proofs.YtbeinfhgfflneaaGreat
end
section
namespace Go.Proofs.YtbeinfhgfflneaaGreat
open Go.RowKit
set_option linter.unusedSimpArgs false
set_option linter.unusedVariables false
attribute [local go_sem] Rg.leads_value Rg.leads_skip Rg.leads_enter Rg.brings_value Rg.brings_skip Rg.brings_enter Rg.bringsG_value Rg.bringsG_enter Rg.once_normal Rg.once_exit Rg.once_ret Rg.once_panic Rg.once_goto
structure Sv where
  fo : Option Addr
  fn : Nat
  fc : Nat
  no : Option Addr
  nn : Nat
  nc : Nat
def Sv.val (s : Sv) (aggs in_ : Bool) : Value := .agg #[.slice s.fo s.fn s.fc, .slice s.no s.nn s.nc, .bool aggs, .bool in_]
theorem nat_pos (n : Nat) (x : Bool) (h : decide (0 < n) = x) : decide ((0 : Int) < (n : Int)) = x := by
  rw [← h]
  by_cases h0 : 0 < n
  · rw [decide_eq_true h0, decide_eq_true (by omega)]
  · rw [decide_eq_false h0, decide_eq_false (by omega)]
theorem nat_eq (n m : Nat) (x : Bool) (h : (n == m) = x) : ((n : Int) == (m : Int)) = x := by
  rw [← h]
  by_cases h0 : n = m
  · subst h0; rw [beq_self_eq_true, beq_self_eq_true]
  · rw [beq_eq_false_iff_ne.2 h0, beq_eq_false_iff_ne.2 (by omega)]
theorem nat_ne (n m : Nat) (x : Bool) (h : (n == m) = x) : ((n : Int) != (m : Int)) = !x := by
  unfold bne; rw [nat_eq n m x h]
set_option maxHeartbeats 16000000 in
set_option maxRecDepth 100000 in
theorem bagg_any (s : Sv) (aggs in_ : Bool) (rh : Hd) (roa : Option Addr) (rn rc : Nat) (oa : Option Addr) (c : Nat) (l : List Int) (w : World) (hat : AtF iF 1 w oa l) (hb : l.length ≤ 2000000) : Calls Tryz.prog 67 #[s.val aggs in_, XR.val ⟨rh, roa, rn, rc⟩, .slice oa l.length c] w (Kp2 (aggK aggs in_ rh l) w) := by
  have T1 : Hid (∀ W, Gr w W → _) := hid (fun W h => btyped_any true 1 1 oa c l W (hat.keep h) hb)
  have HR : Hid (aggK aggs in_ rh l = if (rh.st && (!isName rh.name [99, 111, 117, 110, 116] || decide (0 < l.length))) || (!rh.st && l.length != 1) then (0, 1)
  else if !isName rh.name [99, 111, 117, 110, 116] && !isName rh.name [115, 117, 109] && !isName rh.name [109, 105, 110] && !isName rh.name [109, 97, 120] then (0, 1)
  else if !aggs || in_ then (0, 191)
  else if isName rh.name [99, 111, 117, 110, 116] then (1, 0)
  else if isName rh.name [115, 117, 109] then typedK true 1 1 l
  else (l.headD 0, 0)) := hid rfl
  have HC : Hid (l.length = 1 → ∃ b off, oa = some ⟨b, off, none⟩ ∧ b < w.heap.size ∧ w.cell? ⟨b, off, none⟩ = some (.int .i64 (l.headD 0))) := hid (fun h1 => by
    obtain ⟨b, off, e, h2, h3⟩ := i_cell hat 0 (by omega)
    refine ⟨b, off, e, h2, ?_⟩
    cases l with
    | nil => simp at h1
    | cons x r => simpa using h3)
  generalize aggK aggs in_ rh l = R at *
  generalize typedK true 1 1 l = R1 at *
  generalize l.headD 0 = k0 at *
  generalize l.length = n at *
  clear hat hb
  obtain ⟨fo, fn, fc, no, nn, nc⟩ := s
  obtain ⟨op, ⟨vt, vn, vs, vb⟩, tab, name, t, cc, nt, st⟩ := rh
  obtain ⟨x1, e1⟩ : ∃ x, (name.toList == [99, 111, 117, 110, 116]) = x := ⟨_, rfl⟩
  obtain ⟨x2, e2⟩ : ∃ x, (name.toList == [115, 117, 109]) = x := ⟨_, rfl⟩
  obtain ⟨x3, e3⟩ : ∃ x, (name.toList == [109, 105, 110]) = x := ⟨_, rfl⟩
  obtain ⟨x4, e4⟩ : ∃ x, (name.toList == [109, 97, 120]) = x := ⟨_, rfl⟩
  obtain ⟨x5, e5⟩ : ∃ x, decide (0 < n) = x := ⟨_, rfl⟩
  obtain ⟨x6, e6⟩ : ∃ x, (n == 1) = x := ⟨_, rfl⟩
  have e6n : (n != 1) = !x6 := by rw [← e6]; rfl
  have m1 : (name.toList != [99, 111, 117, 110, 116]) = !x1 := by rw [← e1]; rfl
  have m2 : (name.toList != [115, 117, 109]) = !x2 := by rw [← e2]; rfl
  have m3 : (name.toList != [109, 105, 110]) = !x3 := by rw [← e3]; rfl
  have m4 : (name.toList != [109, 97, 120]) = !x4 := by rw [← e4]; rfl
  have i5 : decide ((0 : Int) < (n : Int)) = x5 := nat_pos n x5 e5
  have i6 : ((n : Int) == 1) = x6 := nat_eq n 1 x6 e6
  have i6n : ((n : Int) != 1) = !x6 := nat_ne n 1 x6 e6
  have HC1 : Hid (x6 = true → n = 1) := hid (fun h => by rw [h] at e6; simpa using e6)
  simp only [isName, e1, e2, e3, e4, e5, e6n] at HR
  clear e6n
  unfold XR.val Sv.val Kp2 at *
  cases st
  · cases x6
    · skip
      obtain rfl := HR.out
      clear HR
      go_enter Tryz.func67, Tryz.ntmps67
      go_wp2
      all_goals
        (try (go_step3; (try simp only [Exit.then]); (try change Rg.once _ _ _ _ _ _); rw [Rg.once_goto]; go_wp2))
        (try rw [Rg.once_ret])
        (try rw [Exit.noGoto_ret])
        (try change bodyPost _ _ _ _ _ _)
        first
        | (go_returns; refine ⟨?_, ?_⟩)
        | (refine bodyPost_ret (by simp [results, Tryz.results67, go_sem, *]; try rfl) rfl ⟨?_, ?_⟩)
        rotate_left
        · repeat' (first | exact Gr.refl _ | exact Nat.le_refl _ | exact Nat.le_add_right _ _ | refine Gr.setCell ?_ ?_ _ | refine Gr.alloc ?_ _ | refine Gr.drew ?_ | refine Gr.trans ?_ (by assumption) | omega | (dsimp only; omega))
      all_goals rfl
    · cases x1
      · cases x2
        · cases x3
          · cases x4
            · skip
              obtain rfl := HR.out
              clear HR
              go_enter Tryz.func67, Tryz.ntmps67
              go_wp2
              all_goals
                (try (go_step3; (try simp only [Exit.then]); (try change Rg.once _ _ _ _ _ _); rw [Rg.once_goto]; go_wp2))
                (try rw [Rg.once_ret])
                (try rw [Exit.noGoto_ret])
                (try change bodyPost _ _ _ _ _ _)
                first
                | (go_returns; refine ⟨?_, ?_⟩)
                | (refine bodyPost_ret (by simp [results, Tryz.results67, go_sem, *]; try rfl) rfl ⟨?_, ?_⟩)
                rotate_left
                · repeat' (first | exact Gr.refl _ | exact Nat.le_refl _ | exact Nat.le_add_right _ _ | refine Gr.setCell ?_ ?_ _ | refine Gr.alloc ?_ _ | refine Gr.drew ?_ | refine Gr.trans ?_ (by assumption) | omega | (dsimp only; omega))
              all_goals rfl
            · skip
              cases aggs
              · cases in_
                all_goals
                  obtain rfl := HR.out
                  clear HR
                  go_enter Tryz.func67, Tryz.ntmps67
                  go_wp2
                  all_goals
                    (try (go_step3; (try simp only [Exit.then]); (try change Rg.once _ _ _ _ _ _); rw [Rg.once_goto]; go_wp2))
                    (try rw [Rg.once_ret])
                    (try rw [Exit.noGoto_ret])
                    (try change bodyPost _ _ _ _ _ _)
                    first
                    | (go_returns; refine ⟨?_, ?_⟩)
                    | (refine bodyPost_ret (by simp [results, Tryz.results67, go_sem, *]; try rfl) rfl ⟨?_, ?_⟩)
                    rotate_left
                    · repeat' (first | exact Gr.refl _ | exact Nat.le_refl _ | exact Nat.le_add_right _ _ | refine Gr.setCell ?_ ?_ _ | refine Gr.alloc ?_ _ | refine Gr.drew ?_ | refine Gr.trans ?_ (by assumption) | omega | (dsimp only; omega))
                  all_goals rfl
              · cases in_
                · skip
                  obtain rfl := HR.out
                  obtain ⟨b, off, rfl, hbl, v0⟩ := HC.out (HC1.out rfl)
                  obtain rfl : n = 1 := HC1.out rfl
                  clear HC HC1
                  clear HR
                  go_enter Tryz.func67, Tryz.ntmps67
                  go_wp2
                  all_goals
                    (try (go_step3; (try simp only [Exit.then]); (try change Rg.once _ _ _ _ _ _); rw [Rg.once_goto]; go_wp2))
                    (try rw [Rg.once_ret])
                    (try rw [Exit.noGoto_ret])
                    (try change bodyPost _ _ _ _ _ _)
                    first
                    | (go_returns; refine ⟨?_, ?_⟩)
                    | (refine bodyPost_ret (by simp [results, Tryz.results67, go_sem, *]; try rfl) rfl ⟨?_, ?_⟩)
                    rotate_left
                    · repeat' (first | exact Gr.refl _ | exact Nat.le_refl _ | exact Nat.le_add_right _ _ | refine Gr.setCell ?_ ?_ _ | refine Gr.alloc ?_ _ | refine Gr.drew ?_ | refine Gr.trans ?_ (by assumption) | omega | (dsimp only; omega))
                  all_goals rfl
                · skip
                  obtain rfl := HR.out
                  clear HR
                  go_enter Tryz.func67, Tryz.ntmps67
                  go_wp2
                  all_goals
                    (try (go_step3; (try simp only [Exit.then]); (try change Rg.once _ _ _ _ _ _); rw [Rg.once_goto]; go_wp2))
                    (try rw [Rg.once_ret])
                    (try rw [Exit.noGoto_ret])
                    (try change bodyPost _ _ _ _ _ _)
                    first
                    | (go_returns; refine ⟨?_, ?_⟩)
                    | (refine bodyPost_ret (by simp [results, Tryz.results67, go_sem, *]; try rfl) rfl ⟨?_, ?_⟩)
                    rotate_left
                    · repeat' (first | exact Gr.refl _ | exact Nat.le_refl _ | exact Nat.le_add_right _ _ | refine Gr.setCell ?_ ?_ _ | refine Gr.alloc ?_ _ | refine Gr.drew ?_ | refine Gr.trans ?_ (by assumption) | omega | (dsimp only; omega))
                  all_goals rfl
          · skip
            cases aggs
            · cases in_
              all_goals
                obtain rfl := HR.out
                clear HR
                go_enter Tryz.func67, Tryz.ntmps67
                go_wp2
                all_goals
                  (try (go_step3; (try simp only [Exit.then]); (try change Rg.once _ _ _ _ _ _); rw [Rg.once_goto]; go_wp2))
                  (try rw [Rg.once_ret])
                  (try rw [Exit.noGoto_ret])
                  (try change bodyPost _ _ _ _ _ _)
                  first
                  | (go_returns; refine ⟨?_, ?_⟩)
                  | (refine bodyPost_ret (by simp [results, Tryz.results67, go_sem, *]; try rfl) rfl ⟨?_, ?_⟩)
                  rotate_left
                  · repeat' (first | exact Gr.refl _ | exact Nat.le_refl _ | exact Nat.le_add_right _ _ | refine Gr.setCell ?_ ?_ _ | refine Gr.alloc ?_ _ | refine Gr.drew ?_ | refine Gr.trans ?_ (by assumption) | omega | (dsimp only; omega))
                all_goals rfl
            · cases in_
              · skip
                obtain rfl := HR.out
                obtain ⟨b, off, rfl, hbl, v0⟩ := HC.out (HC1.out rfl)
                obtain rfl : n = 1 := HC1.out rfl
                clear HC HC1
                clear HR
                go_enter Tryz.func67, Tryz.ntmps67
                go_wp2
                all_goals
                  (try (go_step3; (try simp only [Exit.then]); (try change Rg.once _ _ _ _ _ _); rw [Rg.once_goto]; go_wp2))
                  (try rw [Rg.once_ret])
                  (try rw [Exit.noGoto_ret])
                  (try change bodyPost _ _ _ _ _ _)
                  first
                  | (go_returns; refine ⟨?_, ?_⟩)
                  | (refine bodyPost_ret (by simp [results, Tryz.results67, go_sem, *]; try rfl) rfl ⟨?_, ?_⟩)
                  rotate_left
                  · repeat' (first | exact Gr.refl _ | exact Nat.le_refl _ | exact Nat.le_add_right _ _ | refine Gr.setCell ?_ ?_ _ | refine Gr.alloc ?_ _ | refine Gr.drew ?_ | refine Gr.trans ?_ (by assumption) | omega | (dsimp only; omega))
                all_goals rfl
              · skip
                obtain rfl := HR.out
                clear HR
                go_enter Tryz.func67, Tryz.ntmps67
                go_wp2
                all_goals
                  (try (go_step3; (try simp only [Exit.then]); (try change Rg.once _ _ _ _ _ _); rw [Rg.once_goto]; go_wp2))
                  (try rw [Rg.once_ret])
                  (try rw [Exit.noGoto_ret])
                  (try change bodyPost _ _ _ _ _ _)
                  first
                  | (go_returns; refine ⟨?_, ?_⟩)
                  | (refine bodyPost_ret (by simp [results, Tryz.results67, go_sem, *]; try rfl) rfl ⟨?_, ?_⟩)
                  rotate_left
                  · repeat' (first | exact Gr.refl _ | exact Nat.le_refl _ | exact Nat.le_add_right _ _ | refine Gr.setCell ?_ ?_ _ | refine Gr.alloc ?_ _ | refine Gr.drew ?_ | refine Gr.trans ?_ (by assumption) | omega | (dsimp only; omega))
                all_goals rfl
        · skip
          cases aggs
          · cases in_
            all_goals
              obtain rfl := HR.out
              clear HR
              go_enter Tryz.func67, Tryz.ntmps67
              go_wp2
              all_goals
                (try (go_step3; (try simp only [Exit.then]); (try change Rg.once _ _ _ _ _ _); rw [Rg.once_goto]; go_wp2))
                (try rw [Rg.once_ret])
                (try rw [Exit.noGoto_ret])
                (try change bodyPost _ _ _ _ _ _)
                first
                | (go_returns; refine ⟨?_, ?_⟩)
                | (refine bodyPost_ret (by simp [results, Tryz.results67, go_sem, *]; try rfl) rfl ⟨?_, ?_⟩)
                rotate_left
                · repeat' (first | exact Gr.refl _ | exact Nat.le_refl _ | exact Nat.le_add_right _ _ | refine Gr.setCell ?_ ?_ _ | refine Gr.alloc ?_ _ | refine Gr.drew ?_ | refine Gr.trans ?_ (by assumption) | omega | (dsimp only; omega))
              all_goals rfl
          · cases in_
            · skip
              obtain rfl := HR.out
              clear HR
              go_enter Tryz.func67, Tryz.ntmps67
              go_wp2_with (first | (go_at_call 69; ((with_reducible refine (T1.out _ (((Gr.refl _).alloc _).alloc _)).mono ?_)); rintro e w' ⟨rfl, hg⟩; have hc := hg.cells; have hf := hg.frees; have hz := hg.size; (try simp only [World.size_alloc, World.size_setCell, World.size_drew] at hz); (try have : 0 < w'.heap.size := by omega); (try have : w.heap.size < w'.heap.size := by omega); (try have : w.heap.size + 1 < w'.heap.size := by omega); (try have : w.heap.size + 1 + 1 < w'.heap.size := by omega); (try have : w.heap.size + 1 + 1 + 1 < w'.heap.size := by omega)))
              all_goals
                (try (go_step3; (try simp only [Exit.then]); (try change Rg.once _ _ _ _ _ _); rw [Rg.once_goto]; go_wp2))
                (try rw [Rg.once_ret])
                (try rw [Exit.noGoto_ret])
                (try change bodyPost _ _ _ _ _ _)
                first
                | (go_returns; refine ⟨?_, ?_⟩)
                | (refine bodyPost_ret (by simp [results, Tryz.results67, go_sem, *]; try rfl) rfl ⟨?_, ?_⟩)
                rotate_left
                · repeat' (first | exact Gr.refl _ | exact Nat.le_refl _ | exact Nat.le_add_right _ _ | refine Gr.setCell ?_ ?_ _ | refine Gr.alloc ?_ _ | refine Gr.drew ?_ | refine Gr.trans ?_ (by assumption) | omega | (dsimp only; omega))
              all_goals rfl
            · skip
              obtain rfl := HR.out
              clear HR
              go_enter Tryz.func67, Tryz.ntmps67
              go_wp2
              all_goals
                (try (go_step3; (try simp only [Exit.then]); (try change Rg.once _ _ _ _ _ _); rw [Rg.once_goto]; go_wp2))
                (try rw [Rg.once_ret])
                (try rw [Exit.noGoto_ret])
                (try change bodyPost _ _ _ _ _ _)
                first
                | (go_returns; refine ⟨?_, ?_⟩)
                | (refine bodyPost_ret (by simp [results, Tryz.results67, go_sem, *]; try rfl) rfl ⟨?_, ?_⟩)
                rotate_left
                · repeat' (first | exact Gr.refl _ | exact Nat.le_refl _ | exact Nat.le_add_right _ _ | refine Gr.setCell ?_ ?_ _ | refine Gr.alloc ?_ _ | refine Gr.drew ?_ | refine Gr.trans ?_ (by assumption) | omega | (dsimp only; omega))
              all_goals rfl
      · skip
        cases aggs
        · cases in_
          all_goals
            obtain rfl := HR.out
            clear HR
            go_enter Tryz.func67, Tryz.ntmps67
            go_wp2
            all_goals
              (try (go_step3; (try simp only [Exit.then]); (try change Rg.once _ _ _ _ _ _); rw [Rg.once_goto]; go_wp2))
              (try rw [Rg.once_ret])
              (try rw [Exit.noGoto_ret])
              (try change bodyPost _ _ _ _ _ _)
              first
              | (go_returns; refine ⟨?_, ?_⟩)
              | (refine bodyPost_ret (by simp [results, Tryz.results67, go_sem, *]; try rfl) rfl ⟨?_, ?_⟩)
              rotate_left
              · repeat' (first | exact Gr.refl _ | exact Nat.le_refl _ | exact Nat.le_add_right _ _ | refine Gr.setCell ?_ ?_ _ | refine Gr.alloc ?_ _ | refine Gr.drew ?_ | refine Gr.trans ?_ (by assumption) | omega | (dsimp only; omega))
            all_goals rfl
        · cases in_
          · skip
            obtain rfl := HR.out
            clear HR
            go_enter Tryz.func67, Tryz.ntmps67
            go_wp2
            all_goals
              (try (go_step3; (try simp only [Exit.then]); (try change Rg.once _ _ _ _ _ _); rw [Rg.once_goto]; go_wp2))
              (try rw [Rg.once_ret])
              (try rw [Exit.noGoto_ret])
              (try change bodyPost _ _ _ _ _ _)
              first
              | (go_returns; refine ⟨?_, ?_⟩)
              | (refine bodyPost_ret (by simp [results, Tryz.results67, go_sem, *]; try rfl) rfl ⟨?_, ?_⟩)
              rotate_left
              · repeat' (first | exact Gr.refl _ | exact Nat.le_refl _ | exact Nat.le_add_right _ _ | refine Gr.setCell ?_ ?_ _ | refine Gr.alloc ?_ _ | refine Gr.drew ?_ | refine Gr.trans ?_ (by assumption) | omega | (dsimp only; omega))
            all_goals rfl
          · skip
            obtain rfl := HR.out
            clear HR
            go_enter Tryz.func67, Tryz.ntmps67
            go_wp2
            all_goals
              (try (go_step3; (try simp only [Exit.then]); (try change Rg.once _ _ _ _ _ _); rw [Rg.once_goto]; go_wp2))
              (try rw [Rg.once_ret])
              (try rw [Exit.noGoto_ret])
              (try change bodyPost _ _ _ _ _ _)
              first
              | (go_returns; refine ⟨?_, ?_⟩)
              | (refine bodyPost_ret (by simp [results, Tryz.results67, go_sem, *]; try rfl) rfl ⟨?_, ?_⟩)
              rotate_left
              · repeat' (first | exact Gr.refl _ | exact Nat.le_refl _ | exact Nat.le_add_right _ _ | refine Gr.setCell ?_ ?_ _ | refine Gr.alloc ?_ _ | refine Gr.drew ?_ | refine Gr.trans ?_ (by assumption) | omega | (dsimp only; omega))
            all_goals rfl
  · cases x1
    · skip
      obtain rfl := HR.out
      clear HR
      go_enter Tryz.func67, Tryz.ntmps67
      go_wp2
      all_goals
        (try (go_step3; (try simp only [Exit.then]); (try change Rg.once _ _ _ _ _ _); rw [Rg.once_goto]; go_wp2))
        (try rw [Rg.once_ret])
        (try rw [Exit.noGoto_ret])
        (try change bodyPost _ _ _ _ _ _)
        first
        | (go_returns; refine ⟨?_, ?_⟩)
        | (refine bodyPost_ret (by simp [results, Tryz.results67, go_sem, *]; try rfl) rfl ⟨?_, ?_⟩)
        rotate_left
        · repeat' (first | exact Gr.refl _ | exact Nat.le_refl _ | exact Nat.le_add_right _ _ | refine Gr.setCell ?_ ?_ _ | refine Gr.alloc ?_ _ | refine Gr.drew ?_ | refine Gr.trans ?_ (by assumption) | omega | (dsimp only; omega))
      all_goals rfl
    · cases x5
      · skip
        cases aggs
        · cases in_
          all_goals
            obtain rfl := HR.out
            clear HR
            go_enter Tryz.func67, Tryz.ntmps67
            go_wp2
            all_goals
              (try (go_step3; (try simp only [Exit.then]); (try change Rg.once _ _ _ _ _ _); rw [Rg.once_goto]; go_wp2))
              (try rw [Rg.once_ret])
              (try rw [Exit.noGoto_ret])
              (try change bodyPost _ _ _ _ _ _)
              first
              | (go_returns; refine ⟨?_, ?_⟩)
              | (refine bodyPost_ret (by simp [results, Tryz.results67, go_sem, *]; try rfl) rfl ⟨?_, ?_⟩)
              rotate_left
              · repeat' (first | exact Gr.refl _ | exact Nat.le_refl _ | exact Nat.le_add_right _ _ | refine Gr.setCell ?_ ?_ _ | refine Gr.alloc ?_ _ | refine Gr.drew ?_ | refine Gr.trans ?_ (by assumption) | omega | (dsimp only; omega))
            all_goals rfl
        · cases in_
          · skip
            obtain rfl := HR.out
            clear HR
            go_enter Tryz.func67, Tryz.ntmps67
            go_wp2
            all_goals
              (try (go_step3; (try simp only [Exit.then]); (try change Rg.once _ _ _ _ _ _); rw [Rg.once_goto]; go_wp2))
              (try rw [Rg.once_ret])
              (try rw [Exit.noGoto_ret])
              (try change bodyPost _ _ _ _ _ _)
              first
              | (go_returns; refine ⟨?_, ?_⟩)
              | (refine bodyPost_ret (by simp [results, Tryz.results67, go_sem, *]; try rfl) rfl ⟨?_, ?_⟩)
              rotate_left
              · repeat' (first | exact Gr.refl _ | exact Nat.le_refl _ | exact Nat.le_add_right _ _ | refine Gr.setCell ?_ ?_ _ | refine Gr.alloc ?_ _ | refine Gr.drew ?_ | refine Gr.trans ?_ (by assumption) | omega | (dsimp only; omega))
            all_goals rfl
          · skip
            obtain rfl := HR.out
            clear HR
            go_enter Tryz.func67, Tryz.ntmps67
            go_wp2
            all_goals
              (try (go_step3; (try simp only [Exit.then]); (try change Rg.once _ _ _ _ _ _); rw [Rg.once_goto]; go_wp2))
              (try rw [Rg.once_ret])
              (try rw [Exit.noGoto_ret])
              (try change bodyPost _ _ _ _ _ _)
              first
              | (go_returns; refine ⟨?_, ?_⟩)
              | (refine bodyPost_ret (by simp [results, Tryz.results67, go_sem, *]; try rfl) rfl ⟨?_, ?_⟩)
              rotate_left
              · repeat' (first | exact Gr.refl _ | exact Nat.le_refl _ | exact Nat.le_add_right _ _ | refine Gr.setCell ?_ ?_ _ | refine Gr.alloc ?_ _ | refine Gr.drew ?_ | refine Gr.trans ?_ (by assumption) | omega | (dsimp only; omega))
            all_goals rfl
      · skip
        obtain rfl := HR.out
        clear HR
        go_enter Tryz.func67, Tryz.ntmps67
        go_wp2
        all_goals
          (try (go_step3; (try simp only [Exit.then]); (try change Rg.once _ _ _ _ _ _); rw [Rg.once_goto]; go_wp2))
          (try rw [Rg.once_ret])
          (try rw [Exit.noGoto_ret])
          (try change bodyPost _ _ _ _ _ _)
          first
          | (go_returns; refine ⟨?_, ?_⟩)
          | (refine bodyPost_ret (by simp [results, Tryz.results67, go_sem, *]; try rfl) rfl ⟨?_, ?_⟩)
          rotate_left
          · repeat' (first | exact Gr.refl _ | exact Nat.le_refl _ | exact Nat.le_add_right _ _ | refine Gr.setCell ?_ ?_ _ | refine Gr.alloc ?_ _ | refine Gr.drew ?_ | refine Gr.trans ?_ (by assumption) | omega | (dsimp only; omega))
        all_goals rfl
end Go.Proofs.YtbeinfhgfflneaaGreat
end

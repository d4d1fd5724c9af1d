/- row: the reader's methods: text, num, yes, count. (By mkR2.py.) -/
import Derived.Test.YtacbhkmkknicoaaDoorR1
namespace Go.Proofs.YtacbhkmkknicoaaDoor
open Go.RowKit
set_option linter.unusedSimpArgs false
set_option linter.unusedVariables false
attribute [local go_sem] Rg.leads_value Rg.leads_skip Rg.leads_enter Rg.brings_value Rg.brings_skip Rg.brings_enter Rg.bringsG_value Rg.bringsG_enter
theorem RS.keep {T : TypeId} {p : Nat} {w w' : World} {l : List V} {b : Bool} (h : RS T p w l b) (hg : Gr w w') : RS T p w' l b := by
  obtain ⟨oa, c, hh, hc, hat, hne⟩ := h.ex
  have hp : p < w.heap.size := (Array.getElem?_eq_some_iff.1 hh).1
  exact ⟨oa, c, by rw [hg.block p hp]; exact hh, hc, hat.keep hg, hne⟩
theorem field1 (a b : Int) (c : ByteArray) (e : Bool) (w : World) : (Instr.field 32 (.agg #[.int .i64 a, .int .i64 b, .string c, .bool e]) 1).run Tryd.prog w = .ok (.int .i64 b) w := by
  kernel_rfl
theorem field2 (a b : Int) (c : ByteArray) (e : Bool) (w : World) : (Instr.field 32 (.agg #[.int .i64 a, .int .i64 b, .string c, .bool e]) 2).run Tryd.prog w = .ok (.string c) w := by
  kernel_rfl
theorem field3 (a b : Int) (c : ByteArray) (e : Bool) (w : World) : (Instr.field 32 (.agg #[.int .i64 a, .int .i64 b, .string c, .bool e]) 3).run Tryd.prog w = .ok (.bool e) w := by
  kernel_rfl
/-- what a method of the reader leaves -/
def TfP (T : TypeId) (p : Nat) (w : World) (u : Value) (q : List V × Bool) (e : Ending) (w' : World) : Prop := e = .returned u ∧ RS T p w' q.1 q.2 ∧ Go1 p w w'
set_option maxHeartbeats 4000000 in
set_option maxRecDepth 100000 in
theorem rdtext_any (p : Nat) (l : List V) (bad : Bool) (w : World) (h : RS 69 p w l bad) : Calls Tryd.prog 32 #[.pointer (some ⟨p, 0, none⟩)] w (TfP 69 p w (.string (takeR 2 l bad).1.s) (takeR 2 l bad).2) := by
  have C := hid (take_any p 2 l bad w h)
  obtain ⟨⟨v, l', b'⟩, hq⟩ : ∃ q, takeR 2 l bad = q := ⟨_, rfl⟩
  rw [hq] at C ⊢
  obtain ⟨oa, c, hh, _⟩ := h.ex
  have hp : p < w.heap.size := (Array.getElem?_eq_some_iff.1 hh).1
  clear h hq hh
  simp only
  have FD := fun W => field2 v.t v.n v.s v.b W
  go_enter Tryd.func32, Tryd.ntmps32
  go_wp2_with fail
  refine C.out.mono ?_
  rintro e w1 ⟨rfl, hrs, hgo⟩
  simp only at hrs
  unfold V.val
  simp only
  have HRS := hid hrs
  have HGO := hid hgo
  clear C hrs hgo
  have FI : Hid (∀ u, TfP 69 p w u (l', b') (.returned u) w1) := hid (fun u => ⟨rfl, HRS.out, HGO.out⟩)
  go_wp2
  all_goals first | exact FI.out _ | (refine bodyPost_ret (by simp [results, Tryd.results32, go_sem]; try rfl) rfl (FI.out _))
set_option maxHeartbeats 4000000 in
set_option maxRecDepth 100000 in
theorem rdnum_any (p : Nat) (l : List V) (bad : Bool) (w : World) (h : RS 69 p w l bad) : Calls Tryd.prog 34 #[.pointer (some ⟨p, 0, none⟩)] w (TfP 69 p w (.int .i64 (takeR 1 l bad).1.n) (takeR 1 l bad).2) := by
  have C := hid (take_any p 1 l bad w h)
  obtain ⟨⟨v, l', b'⟩, hq⟩ : ∃ q, takeR 1 l bad = q := ⟨_, rfl⟩
  rw [hq] at C ⊢
  obtain ⟨oa, c, hh, _⟩ := h.ex
  have hp : p < w.heap.size := (Array.getElem?_eq_some_iff.1 hh).1
  clear h hq hh
  simp only
  have FD := fun W => field1 v.t v.n v.s v.b W
  go_enter Tryd.func34, Tryd.ntmps34
  go_wp2_with fail
  refine C.out.mono ?_
  rintro e w1 ⟨rfl, hrs, hgo⟩
  simp only at hrs
  unfold V.val
  simp only
  have HRS := hid hrs
  have HGO := hid hgo
  clear C hrs hgo
  have FI : Hid (∀ u, TfP 69 p w u (l', b') (.returned u) w1) := hid (fun u => ⟨rfl, HRS.out, HGO.out⟩)
  go_wp2
  all_goals first | exact FI.out _ | (refine bodyPost_ret (by simp [results, Tryd.results34, go_sem]; try rfl) rfl (FI.out _))
set_option maxHeartbeats 4000000 in
set_option maxRecDepth 100000 in
theorem rdyes_any (p : Nat) (l : List V) (bad : Bool) (w : World) (h : RS 69 p w l bad) : Calls Tryd.prog 35 #[.pointer (some ⟨p, 0, none⟩)] w (TfP 69 p w (.bool (takeR 3 l bad).1.b) (takeR 3 l bad).2) := by
  have C := hid (take_any p 3 l bad w h)
  obtain ⟨⟨v, l', b'⟩, hq⟩ : ∃ q, takeR 3 l bad = q := ⟨_, rfl⟩
  rw [hq] at C ⊢
  obtain ⟨oa, c, hh, _⟩ := h.ex
  have hp : p < w.heap.size := (Array.getElem?_eq_some_iff.1 hh).1
  clear h hq hh
  simp only
  have FD := fun W => field3 v.t v.n v.s v.b W
  go_enter Tryd.func35, Tryd.ntmps35
  go_wp2_with fail
  refine C.out.mono ?_
  rintro e w1 ⟨rfl, hrs, hgo⟩
  simp only at hrs
  unfold V.val
  simp only
  have HRS := hid hrs
  have HGO := hid hgo
  clear C hrs hgo
  have FI : Hid (∀ u, TfP 69 p w u (l', b') (.returned u) w1) := hid (fun u => ⟨rfl, HRS.out, HGO.out⟩)
  go_wp2
  all_goals first | exact FI.out _ | (refine bodyPost_ret (by simp [results, Tryd.results35, go_sem]; try rfl) rfl (FI.out _))
/-- how many items follow -/
def cntR (l : List V) (bad : Bool) : Int × List V × Bool :=
  let q := takeR 1 l bad
  if (decide (q.1.n < 0) || decide ((q.2.1.length : Int) < q.1.n)) = true then (0, q.2.1, true) else (q.1.n, q.2.1, q.2.2)
set_option maxHeartbeats 4000000 in
set_option maxRecDepth 100000 in
theorem count_any (p : Nat) (l : List V) (bad : Bool) (w : World) (h : RS 69 p w l bad) : Calls Tryd.prog 33 #[.pointer (some ⟨p, 0, none⟩)] w (TfP 69 p w (.int .i64 (cntR l bad).1) (cntR l bad).2) := by
  have C := hid (rdnum_any p l bad w h)
  unfold cntR
  simp only
  obtain ⟨⟨v, l', b'⟩, hq⟩ : ∃ q, takeR 1 l bad = q := ⟨_, rfl⟩
  rw [hq] at C ⊢
  clear h hq
  simp only at C ⊢
  generalize v.n = n at *
  have fin : ∀ W, RS 69 p W l' b' → ∃ oa c, (W.cell? ⟨p, 0, none⟩ = some (.slice oa l'.length c)) ∧ W.cell? ⟨p, 1, none⟩ = some (.bool b') ∧ W.frozen? ⟨p, 1, none⟩ = false ∧ p < W.heap.size := fun W hW => by
    obtain ⟨oa, c, hh, _⟩ := hW.ex
    exact ⟨oa, c, by rw [Rg.blk_cells hh 0]; rfl, by rw [Rg.blk_cells hh 1]; rfl, Rg.blk_free hh 1, (Array.getElem?_eq_some_iff.1 hh).1⟩
  by_cases h0 : n < 0
  · have q1 : decide (n < 0) = true := by simpa using h0
    rw [if_pos (by rw [q1]; rfl)]
    clear h0
    go_enter Tryd.func33, Tryd.ntmps33
    go_wp2_with fail
    refine C.out.mono ?_
    rintro e w1 ⟨rfl, hrs, hgo⟩
    obtain ⟨oa, c, r0, r1, f1, hp⟩ := fin w1 hrs
    obtain ⟨hb1, hb2⟩ := RS.bad (w' := w1.setCell ⟨p, 1, none⟩ (.bool true)) hrs (Gr.refl _)
    have HRS := hid hb1
    have HGO := hid (hgo.trans hb2)
    clear C hrs hgo hb1 hb2 fin
    go_wp2
    first | exact ⟨rfl, HRS.out, HGO.out⟩ | (go_ret; exact ⟨rfl, HRS.out, HGO.out⟩)
  · have q1 : decide (n < 0) = false := by simpa using h0
    by_cases h1 : (l'.length : Int) < n
    · have q2 : decide ((l'.length : Int) < n) = true := by simpa using h1
      rw [if_pos (by rw [q1, q2]; rfl)]
      clear h0 h1
      go_enter Tryd.func33, Tryd.ntmps33
      go_wp2_with fail
      refine C.out.mono ?_
      rintro e w1 ⟨rfl, hrs, hgo⟩
      obtain ⟨oa, c, r0, r1, f1, hp⟩ := fin w1 hrs
      obtain ⟨hb1, hb2⟩ := RS.bad (w' := w1.setCell ⟨p, 1, none⟩ (.bool true)) hrs (Gr.refl _)
      have HRS := hid hb1
      have HGO := hid (hgo.trans hb2)
      clear C hrs hgo hb1 hb2 fin
      go_wp2
      first | exact ⟨rfl, HRS.out, HGO.out⟩ | (go_ret; exact ⟨rfl, HRS.out, HGO.out⟩)
    · have q2 : decide ((l'.length : Int) < n) = false := by simpa using h1
      rw [if_neg (by rw [q1, q2]; decide)]
      clear h0 h1
      go_enter Tryd.func33, Tryd.ntmps33
      go_wp2_with fail
      refine C.out.mono ?_
      rintro e w1 ⟨rfl, hrs, hgo⟩
      obtain ⟨oa, c, r0, r1, f1, hp⟩ := fin w1 hrs
      have HRS := hid hrs
      have HGO := hid hgo
      clear C hrs hgo fin
      go_wp2
      first | exact ⟨rfl, HRS.out, HGO.out⟩ | (go_ret; exact ⟨rfl, HRS.out, HGO.out⟩)
end Go.Proofs.YtacbhkmkknicoaaDoor

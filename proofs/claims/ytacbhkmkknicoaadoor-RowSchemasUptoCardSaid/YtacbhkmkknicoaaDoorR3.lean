/- row: the reference's reader: take. (By mkR3.py.) -/
import Derived.Test.YtacbhkmkknicoaaDoorR2
namespace Go.Proofs.YtacbhkmkknicoaaDoor
open Go.RowKit
set_option linter.unusedSimpArgs false
set_option linter.unusedVariables false
attribute [local go_sem] Rg.leads_value Rg.leads_skip Rg.leads_enter Rg.brings_value Rg.brings_skip Rg.brings_enter Rg.bringsG_value Rg.bringsG_enter
set_option maxHeartbeats 8000000 in
set_option maxRecDepth 100000 in
theorem rtake_bad (p : Nat) (kind : Int) (l : List V) (w : World) (h : RS 77 p w l true) : Calls Tryd.prog 40 #[.pointer (some ⟨p, 0, none⟩), .int .i64 kind] w (TkP 77 p w (nul, l, true)) := by
  obtain ⟨oa, c, hh, hc, hat, hne⟩ := h.ex
  have HH := hid h
  have hp : p < w.heap.size := (Array.getElem?_eq_some_iff.1 hh).1
  have r0 := Rg.blk_cells hh 0
  have r1 := Rg.blk_cells hh 1
  have f0 := Rg.blk_free hh 0
  have f1 := Rg.blk_free hh 1
  simp only [List.getElem?_toArray, List.getElem?_cons_zero, List.getElem?_cons_succ] at r0 r1
  obtain ⟨hb1, hb2⟩ := HH.out.bad (w' := (w.setCell ⟨p, 1, none⟩ (.bool true)).alloc (.cells #[.int .i64 0, .int .i64 0, .string ⟨#[]⟩, .bool false] 32)) ((Gr.refl _).alloc _)
  have FI : Hid (TkP 77 p w (nul, l, true) (.returned nul.val) ((w.setCell ⟨p, 1, none⟩ (.bool true)).alloc (.cells #[.int .i64 0, .int .i64 0, .string ⟨#[]⟩, .bool false] 32))) := hid ⟨rfl, hb1, hb2⟩
  clear h hat hh hb1 hb2 HH
  generalize TkP 77 p w (nul, l, true) = Q at *
  go_enter Tryd.func40, Tryd.ntmps40
  go_wp2
  (try rw [Rg.once_ret])
  (try rw [Exit.noGoto_ret])
  (try change bodyPost _ _ _ _ _ _)
  refine bodyPost_ret (by simp [results, Tryd.results40, go_sem]; try rfl) rfl FI.out
set_option maxHeartbeats 8000000 in
set_option maxRecDepth 100000 in
theorem rtake_nil (p : Nat) (kind : Int) (w : World) (h : RS 77 p w ([]) false) : Calls Tryd.prog 40 #[.pointer (some ⟨p, 0, none⟩), .int .i64 kind] w (TkP 77 p w (nul, [], true)) := by
  obtain ⟨oa, c, hh, hc, hat, hne⟩ := h.ex
  have HH := hid h
  have hp : p < w.heap.size := (Array.getElem?_eq_some_iff.1 hh).1
  have r0 := Rg.blk_cells hh 0
  have r1 := Rg.blk_cells hh 1
  have f0 := Rg.blk_free hh 0
  have f1 := Rg.blk_free hh 1
  simp only [List.getElem?_toArray, List.getElem?_cons_zero, List.getElem?_cons_succ] at r0 r1
  obtain ⟨hb1, hb2⟩ := HH.out.bad (w' := ((w.setCell ⟨p, 1, none⟩ (.bool true)).alloc (.cells #[.int .i64 0, .int .i64 0, .string ⟨#[]⟩, .bool false] 32))) ((Gr.refl _).alloc _)
  have FI : Hid (TkP 77 p w (nul, [], true) (.returned nul.val) ((w.setCell ⟨p, 1, none⟩ (.bool true)).alloc (.cells #[.int .i64 0, .int .i64 0, .string ⟨#[]⟩, .bool false] 32))) := hid ⟨rfl, hb1, hb2⟩
  clear h hat hh hb1 hb2 HH
  generalize TkP 77 p w (nul, [], true) = Q at *
  simp only [List.length_nil] at r0
  go_enter Tryd.func40, Tryd.ntmps40
  go_wp2
  (try rw [Rg.once_ret])
  (try rw [Exit.noGoto_ret])
  (try change bodyPost _ _ _ _ _ _)
  refine bodyPost_ret (by simp [results, Tryd.results40, go_sem]; try rfl) rfl FI.out
set_option maxHeartbeats 8000000 in
set_option maxRecDepth 100000 in
theorem rtake_no (p : Nat) (kind : Int) (v : V) (r : List V) (w : World) (h : RS 77 p w (v :: r) false) (hk : v.t ≠ kind) : Calls Tryd.prog 40 #[.pointer (some ⟨p, 0, none⟩), .int .i64 kind] w (TkP 77 p w (nul, v :: r, true)) := by
  obtain ⟨oa, c, hh, hc, hat, hne⟩ := h.ex
  have HH := hid h
  have hp : p < w.heap.size := (Array.getElem?_eq_some_iff.1 hh).1
  have r0 := Rg.blk_cells hh 0
  have r1 := Rg.blk_cells hh 1
  have f0 := Rg.blk_free hh 0
  have f1 := Rg.blk_free hh 1
  simp only [List.getElem?_toArray, List.getElem?_cons_zero, List.getElem?_cons_succ] at r0 r1
  obtain ⟨b, off, hoa, c0, c1, c2, c3⟩ := v_get hat 0 (by simp)
  have hne := hne.resolve_left (by simp)
  have hb : b ≠ p := Nat.ne_of_lt (hne b off hoa)
  simp only [List.getElem_cons_zero, Nat.zero_mul, Nat.add_zero] at c0 c1 c2 c3
  have hbb := lt_of_cell c0
  obtain ⟨hb1, hb2⟩ := HH.out.bad (w' := ((w.setCell ⟨p, 1, none⟩ (.bool true)).alloc (.cells #[.int .i64 0, .int .i64 0, .string ⟨#[]⟩, .bool false] 32))) ((Gr.refl _).alloc _)
  have FI : Hid (TkP 77 p w (nul, v :: r, true) (.returned nul.val) ((w.setCell ⟨p, 1, none⟩ (.bool true)).alloc (.cells #[.int .i64 0, .int .i64 0, .string ⟨#[]⟩, .bool false] 32))) := hid ⟨rfl, hb1, hb2⟩
  clear h hat hh hb1 hb2 HH
  generalize TkP 77 p w (nul, v :: r, true) = Q at *
  subst hoa
  have q1 : (v.t == kind) = false := by simpa using hk
  have q2 : (v.t != kind) = true := by simpa using hk
  obtain ⟨n, hn⟩ : ∃ n, (v :: r).length = n := ⟨_, rfl⟩
  have hn1 : 1 ≤ n := by rw [← hn]; simp
  rw [hn] at r0 hc
  have g1 : ((n : Int) == 0) = false := by rw [beq_eq_false_iff_ne]; omega
  have g2 : (0 : Int) < (n : Int) := by omega
  clear hn hk hne
  go_enter Tryd.func40, Tryd.ntmps40
  go_wp2
  (try rw [Rg.once_ret])
  (try rw [Exit.noGoto_ret])
  (try change bodyPost _ _ _ _ _ _)
  refine bodyPost_ret (by simp [results, Tryd.results40, go_sem]; try rfl) rfl FI.out
set_option maxHeartbeats 8000000 in
set_option maxRecDepth 100000 in
theorem rtake_yes (p : Nat) (kind : Int) (v : V) (r : List V) (w : World) (h : RS 77 p w (v :: r) false) (hk : v.t = kind) : Calls Tryd.prog 40 #[.pointer (some ⟨p, 0, none⟩), .int .i64 kind] w (TkP 77 p w (v, r, false)) := by
  obtain ⟨oa, c, hh, hc, hat, hne⟩ := h.ex
  have HH := hid h
  have hp : p < w.heap.size := (Array.getElem?_eq_some_iff.1 hh).1
  have r0 := Rg.blk_cells hh 0
  have r1 := Rg.blk_cells hh 1
  have f0 := Rg.blk_free hh 0
  have f1 := Rg.blk_free hh 1
  simp only [List.getElem?_toArray, List.getElem?_cons_zero, List.getElem?_cons_succ] at r0 r1
  obtain ⟨b, off, hoa, c0, c1, c2, c3⟩ := v_get hat 0 (by simp)
  have hne := hne.resolve_left (by simp)
  have hb : b ≠ p := Nat.ne_of_lt (hne b off hoa)
  simp only [List.getElem_cons_zero, Nat.zero_mul, Nat.add_zero] at c0 c1 c2 c3
  have hbb := lt_of_cell c0
  have NX := fun W' => RS.next (w' := W') hh hc hat hne hoa
  obtain ⟨n, hn⟩ : ∃ n, (v :: r).length = n := ⟨_, rfl⟩
  have hn1 : 1 ≤ n := by rw [← hn]; simp
  rw [hn] at r0 hc NX
  have FI : Hid (TkP 77 p w (v, r, false) (.returned v.val) (((w.setCell ⟨p, 0, none⟩ (.slice (if c = 1 then some ⟨b, off, none⟩ else some ⟨b, off + 4, none⟩) (n - 1) (c - 1))).alloc (.cells #[.int .i64 v.t, .int .i64 v.n, .string v.s, .bool v.b] 32)).alloc (.cells #[.int .i64 v.t, .int .i64 v.n, .string v.s, .bool v.b] 32))) := hid (by
    obtain ⟨h1, h2⟩ := NX _ (((Gr.refl _).alloc (.cells #[.int .i64 v.t, .int .i64 v.n, .string v.s, .bool v.b] 32)).alloc (.cells #[.int .i64 v.t, .int .i64 v.n, .string v.s, .bool v.b] 32))
    exact ⟨rfl, h1, h2⟩)
  unfold V.val at FI
  subst hoa
  have q1 : (v.t == kind) = true := by simpa using hk
  have g1 : ((n : Int) == 0) = false := by rw [beq_eq_false_iff_ne]; omega
  have g2 : (0 : Int) < (n : Int) := by omega
  have g3 : (1 : Int) ≤ (n : Int) := by omega
  have g4 : decide ((1 : Int) ≤ (n : Int)) = true := by rw [decide_eq_true_iff]; omega
  have g5 : (n : Int) ≤ (c : Int) := by omega
  subst hk
  clear hn hne h hat hh HH NX
  generalize TkP 77 p w (v, r, false) = Q at *
  by_cases hc1 : c = 1
  · rw [if_pos hc1] at FI
    subst hc1
    have hn0 : n - 1 = 0 := by omega
    rw [hn0, Nat.sub_self] at FI
    clear hn0
    go_enter Tryd.func40, Tryd.ntmps40
    go_wp2
    (try rw [Rg.once_ret])
    (try rw [Exit.noGoto_ret])
    (try change bodyPost _ _ _ _ _ _)
    refine bodyPost_ret (by simp [results, Tryd.results40, go_sem]; try rfl) rfl FI.out
  · rw [if_neg hc1] at FI
    go_enter Tryd.func40, Tryd.ntmps40
    go_wp2
    (try rw [Rg.once_ret])
    (try rw [Exit.noGoto_ret])
    (try change bodyPost _ _ _ _ _ _)
    refine bodyPost_ret (by simp [results, Tryd.results40, go_sem]; try rfl) rfl FI.out
/-- the reference's take -/
theorem rtake_any (p : Nat) (kind : Int) (l : List V) (bad : Bool) (w : World) (h : RS 77 p w l bad) : Calls Tryd.prog 40 #[.pointer (some ⟨p, 0, none⟩), .int .i64 kind] w (TkP 77 p w (takeR kind l bad)) := by
  cases bad with
  | true => exact rtake_bad p kind l w h
  | false =>
    match l, h with
    | [], h => exact rtake_nil p kind w h
    | v :: r, h =>
      unfold takeR
      simp only [Bool.false_eq_true, if_false]
      by_cases hk : v.t = kind
      · rw [if_pos hk]; exact rtake_yes p kind v r w h hk
      · rw [if_neg hk]; exact rtake_no p kind v r w h hk
end Go.Proofs.YtacbhkmkknicoaaDoor

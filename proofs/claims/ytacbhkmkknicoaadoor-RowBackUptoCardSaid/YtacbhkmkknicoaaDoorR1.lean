/- row: the reader's methods. (By mkR1.py.) -/
import Derived.Test.YtacbhkmkknicoaaDoorSp2
import Derived.Test.YtacbhkmkknicoaaDoorS2
namespace Go.Proofs.YtacbhkmkknicoaaDoor
open Go.RowKit
set_option linter.unusedSimpArgs false
set_option linter.unusedVariables false
attribute [local go_sem] Rg.leads_value Rg.leads_skip Rg.leads_enter Rg.brings_value Rg.brings_skip Rg.brings_enter Rg.bringsG_value Rg.bringsG_enter Rg.once_normal Rg.once_exit Rg.once_ret Rg.once_panic Rg.once_goto
/-- all blocks but one stand -/
def Go1 (p : Nat) (w w' : World) : Prop := w.grownBy w' (some p)
theorem Go1.of {p : Nat} {w w' : World} (h : Gr w w') : Go1 p w w' := h.only _
theorem Go1.trans {p : Nat} {a b c : World} (h : Go1 p a b) (k : Go1 p b c) : Go1 p a c :=
  ⟨k.os.trans h.os, k.tape.trans h.tape, k.output.trans h.output, Nat.le_trans h.size k.size, fun i hi hne => (k.block i (Nat.lt_of_lt_of_le hi h.size) hne).trans (h.block i hi hne)⟩
theorem Go1.set (p k : Nat) (w : World) (u : Value) : Go1 p w (w.setCell ⟨p, k, none⟩ u) :=
  ⟨rfl, rfl, rfl, by simp, fun i _ hi => Below.heap_setCell _ _ _ i (fun e => hi (by rw [e]))⟩
theorem Go1.up {p : Nat} {a w w' : World} (h : Gr a w) (k : Go1 p w w') (hp : a.heap.size ≤ p) : Gr a w' := h.grown k (fun g hg => by cases hg; exact hp)
theorem vat_go {w w' : World} {p : Nat} {oa : Option Addr} {l : List V} (h : VAt w oa l) (hg : Go1 p w w') (hne : ∀ b off, oa = some ⟨b, off, none⟩ → b ≠ p) : VAt w' oa l := by
  rcases h with h | ⟨b, off, e1, hb, hr⟩
  · exact .inl h
  · refine .inr ⟨b, off, e1, Nat.lt_of_lt_of_le hb hg.size, fun i hi j u hu => ?_⟩
    rw [World.cell?_of_block (w := w) (hg.block b hb (fun e => hne b off e1 (by cases e; rfl)))]
    exact hr i hi j u hu
theorem set0 {w : World} {p : Nat} {a b x : Value} {T : TypeId} (h : w.heap[p]? = some (.cells #[a, b] T (0, 0))) : (w.setCell ⟨p, 0, none⟩ x).heap[p]? = some (.cells #[x, b] T (0, 0)) := by
  simp [World.setCell, Array.getElem?_modify, h]
theorem set1 {w : World} {p : Nat} {a b x : Value} {T : TypeId} (h : w.heap[p]? = some (.cells #[a, b] T (0, 0))) : (w.setCell ⟨p, 1, none⟩ x).heap[p]? = some (.cells #[a, x] T (0, 0)) := by
  simp [World.setCell, Array.getElem?_modify, h]
/-- a reader stands in a block -/
structure RS (T : TypeId) (p : Nat) (w : World) (l : List V) (bad : Bool) : Prop where
  ex : ∃ oa c, w.heap[p]? = some (.cells #[.slice oa l.length c, .bool bad] T (0, 0)) ∧ l.length ≤ c ∧ VAt w oa l ∧ (l = [] ∨ ∀ b off, oa = some ⟨b, off, none⟩ → b < p)
/-- what is taken, what is left, whether it was wrong -/
def takeR (kind : Int) (l : List V) (bad : Bool) : V × List V × Bool := if bad = true then (nul, l, true) else match l with
  | [] => (nul, [], true)
  | v :: r => if v.t = kind then (v, r, false) else (nul, v :: r, true)
theorem RS.bad {T : TypeId} {p : Nat} {w w' : World} {l : List V} {b : Bool} (h : RS T p w l b) (hg : Gr (w.setCell ⟨p, 1, none⟩ (.bool true)) w') : RS T p w' l true ∧ Go1 p w w' := by
  obtain ⟨oa, c, hh, hc, hat, hne⟩ := h.ex
  have hg1 : Go1 p w w' := (Go1.set p 1 w (.bool true)).trans (Go1.of hg)
  have hp : p < (w.setCell ⟨p, 1, none⟩ (.bool true)).heap.size := (Array.getElem?_eq_some_iff.1 (set1 hh)).1
  refine ⟨⟨oa, c, by rw [hg.block p hp]; exact set1 hh, hc, ?_, hne⟩, hg1⟩
  rcases hne with h0 | h0
  · exact .inl h0
  · exact vat_go hat hg1 (fun b off e => Nat.ne_of_lt (h0 b off e))
theorem RS.next {T : TypeId} {p : Nat} {w w' : World} {v : V} {r : List V} {b : Bool} {oa : Option Addr} {c : Nat} (hh : w.heap[p]? = some (.cells #[.slice oa (v :: r).length c, .bool b] T (0, 0))) (hc : (v :: r).length ≤ c) (hat : VAt w oa (v :: r)) (hne : ∀ b off, oa = some ⟨b, off, none⟩ → b < p)
    {bl off : Nat} (hoa : oa = some ⟨bl, off, none⟩) (hg : Gr (w.setCell ⟨p, 0, none⟩ (.slice (if c = 1 then some ⟨bl, off, none⟩ else some ⟨bl, off + 4, none⟩) ((v :: r).length - 1) (c - 1))) w') : RS T p w' r b ∧ Go1 p w w' := by
  have hg1 : Go1 p w w' := (Go1.set p 0 w _).trans (Go1.of hg)
  have hp : p < (w.setCell ⟨p, 0, none⟩ (.slice (if c = 1 then some ⟨bl, off, none⟩ else some ⟨bl, off + 4, none⟩) ((v :: r).length - 1) (c - 1))).heap.size := (Array.getElem?_eq_some_iff.1 (set0 hh)).1
  have hb := hne bl off hoa
  refine ⟨⟨_, c - 1, by rw [hg.block p hp]; exact set0 hh, by simp at hc; omega, ?_, .inr ?_⟩, hg1⟩
  · refine vat_go (p := p) ?_ hg1 ?_
    · by_cases h1 : c = 1
      · rw [if_pos h1]
        simp at hc
        exact .inl (List.eq_nil_of_length_eq_zero (by omega))
      · rw [if_neg h1]
        by_cases hr : r = []
        · exact .inl hr
        · subst hoa
          rcases hat with hat | ⟨b', off', e', hbl, hrow⟩
          · cases hat
          · cases e'
            refine .inr ⟨bl, off + 4, rfl, hbl, fun k hk j u hu => ?_⟩
            have := hrow (k + 1) (by simp; omega) j u (by simpa using hu)
            rw [show off + 4 + k * 4 + j = off + (k + 1) * 4 + j by omega]
            exact this
    · intro b' off' e
      split at e <;> cases e <;> exact Nat.ne_of_lt hb
  · intro b' off' e
    split at e <;> cases e <;> exact hb
/-- what take leaves -/
def TkP (T : TypeId) (p : Nat) (w : World) (q : V × List V × Bool) (e : Ending) (w' : World) : Prop := e = .returned q.1.val ∧ RS T p w' q.2.1 q.2.2 ∧ Go1 p w w'
set_option maxHeartbeats 8000000 in
set_option maxRecDepth 100000 in
theorem take_bad (p : Nat) (kind : Int) (l : List V) (w : World) (h : RS 69 p w l true) : Calls Tryd.prog 58 #[.pointer (some ⟨p, 0, none⟩), .int .i64 kind] w (TkP 69 p w (nul, l, true)) := by
  obtain ⟨oa, c, hh, hc, hat, hne⟩ := h.ex
  have HH := hid h
  have hp : p < w.heap.size := (Array.getElem?_eq_some_iff.1 hh).1
  have r0 := Rg.blk_cells hh 0
  have r1 := Rg.blk_cells hh 1
  have f0 := Rg.blk_free hh 0
  have f1 := Rg.blk_free hh 1
  simp only [List.getElem?_toArray, List.getElem?_cons_zero, List.getElem?_cons_succ] at r0 r1
  obtain ⟨hb1, hb2⟩ := HH.out.bad (w' := (w.setCell ⟨p, 1, none⟩ (.bool true)).alloc (.cells #[.int .i64 0, .int .i64 0, .string ⟨#[]⟩, .bool false] 32)) ((Gr.refl _).alloc _)
  have FI : Hid (TkP 69 p w (nul, l, true) (.returned nul.val) ((w.setCell ⟨p, 1, none⟩ (.bool true)).alloc (.cells #[.int .i64 0, .int .i64 0, .string ⟨#[]⟩, .bool false] 32))) := hid ⟨rfl, hb1, hb2⟩
  clear h hat hh hb1 hb2 HH
  generalize TkP 69 p w (nul, l, true) = Q at *
  go_enter Tryd.func58, Tryd.ntmps58
  go_wp2_with fail
  refine Rg.wp_scope_once 0 rfl ?_
  go_wp2
  go_step3
  (try simp only [Exit.then])
  (try change Rg.once _ _ _ _ _ _)
  rw [Rg.once_goto]
  go_wp2
  (try rw [Rg.once_ret])
  (try rw [Exit.noGoto_ret])
  (try change bodyPost _ _ _ _ _ _)
  refine bodyPost_ret (by simp [results, Tryd.results58, go_sem]; try rfl) rfl FI.out
set_option maxHeartbeats 8000000 in
set_option maxRecDepth 100000 in
theorem take_nil (p : Nat) (kind : Int) (w : World) (h : RS 69 p w ([]) false) : Calls Tryd.prog 58 #[.pointer (some ⟨p, 0, none⟩), .int .i64 kind] w (TkP 69 p w (nul, [], true)) := by
  obtain ⟨oa, c, hh, hc, hat, hne⟩ := h.ex
  have HH := hid h
  have hp : p < w.heap.size := (Array.getElem?_eq_some_iff.1 hh).1
  have r0 := Rg.blk_cells hh 0
  have r1 := Rg.blk_cells hh 1
  have f0 := Rg.blk_free hh 0
  have f1 := Rg.blk_free hh 1
  simp only [List.getElem?_toArray, List.getElem?_cons_zero, List.getElem?_cons_succ] at r0 r1
  obtain ⟨hb1, hb2⟩ := HH.out.bad (w' := ((w.setCell ⟨p, 1, none⟩ (.bool true)).alloc (.cells #[.int .i64 0, .int .i64 0, .string ⟨#[]⟩, .bool false] 32))) ((Gr.refl _).alloc _)
  have FI : Hid (TkP 69 p w (nul, [], true) (.returned nul.val) ((w.setCell ⟨p, 1, none⟩ (.bool true)).alloc (.cells #[.int .i64 0, .int .i64 0, .string ⟨#[]⟩, .bool false] 32))) := hid ⟨rfl, hb1, hb2⟩
  clear h hat hh hb1 hb2 HH
  generalize TkP 69 p w (nul, [], true) = Q at *
  simp only [List.length_nil] at r0
  go_enter Tryd.func58, Tryd.ntmps58
  go_wp2_with fail
  refine Rg.wp_scope_once 0 rfl ?_
  go_wp2
  go_step3
  (try simp only [Exit.then])
  (try change Rg.once _ _ _ _ _ _)
  rw [Rg.once_goto]
  go_wp2
  (try rw [Rg.once_ret])
  (try rw [Exit.noGoto_ret])
  (try change bodyPost _ _ _ _ _ _)
  refine bodyPost_ret (by simp [results, Tryd.results58, go_sem]; try rfl) rfl FI.out
set_option maxHeartbeats 8000000 in
set_option maxRecDepth 100000 in
theorem take_no (p : Nat) (kind : Int) (v : V) (r : List V) (w : World) (h : RS 69 p w (v :: r) false) (hk : v.t ≠ kind) : Calls Tryd.prog 58 #[.pointer (some ⟨p, 0, none⟩), .int .i64 kind] w (TkP 69 p w (nul, v :: r, true)) := by
  obtain ⟨oa, c, hh, hc, hat, hne⟩ := h.ex
  have HH := hid h
  have hp : p < w.heap.size := (Array.getElem?_eq_some_iff.1 hh).1
  have r0 := Rg.blk_cells hh 0
  have r1 := Rg.blk_cells hh 1
  have f0 := Rg.blk_free hh 0
  have f1 := Rg.blk_free hh 1
  simp only [List.getElem?_toArray, List.getElem?_cons_zero, List.getElem?_cons_succ] at r0 r1
  obtain ⟨b, off, hoa, c0, c1, c2, c3⟩ := v_get hat 0 (by simp)
  have hne := hne.resolve_left (by simp)
  have hb : b ≠ p := Nat.ne_of_lt (hne b off hoa)
  simp only [List.getElem_cons_zero, Nat.zero_mul, Nat.add_zero] at c0 c1 c2 c3
  have hbb := lt_of_cell c0
  obtain ⟨hb1, hb2⟩ := HH.out.bad (w' := ((w.setCell ⟨p, 1, none⟩ (.bool true)).alloc (.cells #[.int .i64 0, .int .i64 0, .string ⟨#[]⟩, .bool false] 32))) ((Gr.refl _).alloc _)
  have FI : Hid (TkP 69 p w (nul, v :: r, true) (.returned nul.val) ((w.setCell ⟨p, 1, none⟩ (.bool true)).alloc (.cells #[.int .i64 0, .int .i64 0, .string ⟨#[]⟩, .bool false] 32))) := hid ⟨rfl, hb1, hb2⟩
  clear h hat hh hb1 hb2 HH
  generalize TkP 69 p w (nul, v :: r, true) = Q at *
  subst hoa
  have q1 : (v.t == kind) = false := by simpa using hk
  have q2 : (v.t != kind) = true := by simpa using hk
  obtain ⟨n, hn⟩ : ∃ n, (v :: r).length = n := ⟨_, rfl⟩
  have hn1 : 1 ≤ n := by rw [← hn]; simp
  rw [hn] at r0 hc
  have g1 : ((n : Int) == 0) = false := by rw [beq_eq_false_iff_ne]; omega
  have g2 : (0 : Int) < (n : Int) := by omega
  clear hn hk hne
  go_enter Tryd.func58, Tryd.ntmps58
  go_wp2_with fail
  refine Rg.wp_scope_once 0 rfl ?_
  go_wp2
  go_step3
  (try simp only [Exit.then])
  (try change Rg.once _ _ _ _ _ _)
  rw [Rg.once_goto]
  go_wp2
  (try rw [Rg.once_ret])
  (try rw [Exit.noGoto_ret])
  (try change bodyPost _ _ _ _ _ _)
  refine bodyPost_ret (by simp [results, Tryd.results58, go_sem]; try rfl) rfl FI.out
set_option maxHeartbeats 8000000 in
set_option maxRecDepth 100000 in
theorem take_yes (p : Nat) (kind : Int) (v : V) (r : List V) (w : World) (h : RS 69 p w (v :: r) false) (hk : v.t = kind) : Calls Tryd.prog 58 #[.pointer (some ⟨p, 0, none⟩), .int .i64 kind] w (TkP 69 p w (v, r, false)) := by
  obtain ⟨oa, c, hh, hc, hat, hne⟩ := h.ex
  have HH := hid h
  have hp : p < w.heap.size := (Array.getElem?_eq_some_iff.1 hh).1
  have r0 := Rg.blk_cells hh 0
  have r1 := Rg.blk_cells hh 1
  have f0 := Rg.blk_free hh 0
  have f1 := Rg.blk_free hh 1
  simp only [List.getElem?_toArray, List.getElem?_cons_zero, List.getElem?_cons_succ] at r0 r1
  obtain ⟨b, off, hoa, c0, c1, c2, c3⟩ := v_get hat 0 (by simp)
  have hne := hne.resolve_left (by simp)
  have hb : b ≠ p := Nat.ne_of_lt (hne b off hoa)
  simp only [List.getElem_cons_zero, Nat.zero_mul, Nat.add_zero] at c0 c1 c2 c3
  have hbb := lt_of_cell c0
  have NX := fun W' => RS.next (w' := W') hh hc hat hne hoa
  obtain ⟨n, hn⟩ : ∃ n, (v :: r).length = n := ⟨_, rfl⟩
  have hn1 : 1 ≤ n := by rw [← hn]; simp
  rw [hn] at r0 hc NX
  have FI : Hid (TkP 69 p w (v, r, false) (.returned v.val) ((w.setCell ⟨p, 0, none⟩ (.slice (if c = 1 then some ⟨b, off, none⟩ else some ⟨b, off + 4, none⟩) (n - 1) (c - 1))).alloc (.cells #[.int .i64 v.t, .int .i64 v.n, .string v.s, .bool v.b] 32))) := hid (by
    obtain ⟨h1, h2⟩ := NX _ ((Gr.refl _).alloc (.cells #[.int .i64 v.t, .int .i64 v.n, .string v.s, .bool v.b] 32))
    exact ⟨rfl, h1, h2⟩)
  unfold V.val at FI
  subst hoa
  have q1 : (v.t == kind) = true := by simpa using hk
  have g1 : ((n : Int) == 0) = false := by rw [beq_eq_false_iff_ne]; omega
  have g2 : (0 : Int) < (n : Int) := by omega
  have g3 : (1 : Int) ≤ (n : Int) := by omega
  have g4 : decide ((1 : Int) ≤ (n : Int)) = true := by rw [decide_eq_true_iff]; omega
  have g5 : (n : Int) ≤ (c : Int) := by omega
  subst hk
  clear hn hne h hat hh HH NX
  generalize TkP 69 p w (v, r, false) = Q at *
  by_cases hc1 : c = 1
  · rw [if_pos hc1] at FI
    subst hc1
    have hn0 : n - 1 = 0 := by omega
    rw [hn0, Nat.sub_self] at FI
    clear hn0
    go_enter Tryd.func58, Tryd.ntmps58
    go_wp2_with fail
    refine Rg.wp_scope_once 0 rfl ?_
    go_wp2
    (try rw [Rg.once_ret])
    (try rw [Exit.noGoto_ret])
    (try change bodyPost _ _ _ _ _ _)
    refine bodyPost_ret (by simp [results, Tryd.results58, go_sem]; try rfl) rfl FI.out
  · rw [if_neg hc1] at FI
    go_enter Tryd.func58, Tryd.ntmps58
    go_wp2_with fail
    refine Rg.wp_scope_once 0 rfl ?_
    go_wp2
    (try rw [Rg.once_ret])
    (try rw [Exit.noGoto_ret])
    (try change bodyPost _ _ _ _ _ _)
    refine bodyPost_ret (by simp [results, Tryd.results58, go_sem]; try rfl) rfl FI.out
/-- row's take -/
theorem take_any (p : Nat) (kind : Int) (l : List V) (bad : Bool) (w : World) (h : RS 69 p w l bad) : Calls Tryd.prog 58 #[.pointer (some ⟨p, 0, none⟩), .int .i64 kind] w (TkP 69 p w (takeR kind l bad)) := by
  cases bad with
  | true => exact take_bad p kind l w h
  | false =>
    match l, h with
    | [], h => exact take_nil p kind w h
    | v :: r, h =>
      unfold takeR
      simp only [Bool.false_eq_true, if_false]
      by_cases hk : v.t = kind
      · rw [if_pos hk]; exact take_yes p kind v r w h hk
      · rw [if_neg hk]; exact take_no p kind v r w h hk
end Go.Proofs.YtacbhkmkknicoaaDoor

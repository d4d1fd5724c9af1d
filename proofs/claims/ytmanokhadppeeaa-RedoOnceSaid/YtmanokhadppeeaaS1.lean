/- redo: places in lists, copies, for transactions and pages. (By mkS1.py.) -/
import Derived.Test.YtmanokhadppeeaaGn
import Derived.Test.YtmanokhadppeeaaGrow
import Derived.BigRegion
import Derived.ChangeAlike
import Derived.BigQuiet
import Derived.Deep.QuietTactic
import Derived.Lib.LazyBuf
namespace Go.Proofs.Ytmanokhadppeeaa
open Go.RowKit
set_option linter.unusedSimpArgs false
set_option linter.unusedVariables false
attribute [local go_sem] Rg.leads_value Rg.leads_skip Rg.leads_enter Rg.brings_value Rg.brings_skip Rg.brings_enter
structure Tx where
  id : Int
  last : Int
  st : Int
structure Dy where
  page : Int
  lsn : Int
def tF (x : Tx) : List Value := [.int .i64 x.id, .int .i64 x.last, .int .i64 x.st]
def dF (x : Dy) : List Value := [.int .i64 x.page, .int .i64 x.lsn]
theorem tE : Enc tF 3 := ⟨fun _ => rfl, fun x u hu => by simp [tF] at hu; rcases hu with rfl | rfl | rfl <;> rfl, by omega⟩
theorem dE : Enc dF 2 := ⟨fun _ => rfl, fun x u hu => by simp [dF] at hu; rcases hu with rfl | rfl <;> rfl, by omega⟩
abbrev TAt := AtF tF 3
abbrev DAt := AtF dF 2
theorem t_get {w : World} {oa : Option Addr} {l : List Tx} (h : TAt w oa l) (k : Nat) (hk : k < l.length) : ∃ b off, oa = some ⟨b, off, none⟩ ∧ w.cell? ⟨b, off + k * 3, none⟩ = some (.int .i64 l[k].id) ∧ w.cell? ⟨b, off + k * 3 + 1, none⟩ = some (.int .i64 l[k].last) ∧ w.cell? ⟨b, off + k * 3 + 2, none⟩ = some (.int .i64 l[k].st) := by
  obtain ⟨b, off, e, _, hc⟩ := h.get k hk
  exact ⟨b, off, e, by simpa using hc 0 _ rfl, hc 1 _ rfl, hc 2 _ rfl⟩
theorem d_get {w : World} {oa : Option Addr} {l : List Dy} (h : DAt w oa l) (k : Nat) (hk : k < l.length) : ∃ b off, oa = some ⟨b, off, none⟩ ∧ w.cell? ⟨b, off + k * 2, none⟩ = some (.int .i64 l[k].page) ∧ w.cell? ⟨b, off + k * 2 + 1, none⟩ = some (.int .i64 l[k].lsn) := by
  obtain ⟨b, off, e, _, hc⟩ := h.get k hk
  exact ⟨b, off, e, by simpa using hc 0 _ rfl, hc 1 _ rfl⟩
/-- the place of the first that fits, from i on -/
def idxB {α : Type} (p : α → Bool) : List α → Nat → Int
  | [], _ => -1
  | x :: r, i => if p x = true then (i : Int) else idxB p r (i + 1)
theorem idx_drop {α : Type} {p : α → Bool} {l : List α} {k : Nat} (h : k < l.length) : idxB p (l.drop k) k = if p l[k] = true then (k : Int) else idxB p (l.drop (k + 1)) (k + 1) := by
  rw [List.drop_eq_getElem_cons h]; rfl
theorem idx_bd {α : Type} {p : α → Bool} : ∀ (l : List α) (i : Nat), idxB p l i = -1 ∨ ∃ k, ∃ h : k < l.length, idxB p l i = ((i + k : Nat) : Int) ∧ p l[k] = true ∧ ∀ j (hj : j < k), p (l[j]'(by omega)) = false
  | [], _ => .inl rfl
  | x :: r, i => by
    unfold idxB
    split
    · rename_i h; exact .inr ⟨0, by simp, rfl, h, fun j hj => by omega⟩
    · rename_i h
      rcases idx_bd r (i + 1) with h1 | ⟨k, hk, h1, h2, h3⟩
      · exact .inl h1
      · refine .inr ⟨k + 1, by simpa using hk, by rw [h1]; congr 1; omega, by simpa using h2, fun j hj => ?_⟩
        cases j with
        | zero => simpa using h
        | succ j => simpa using h3 j (by omega)
theorem idx_neg {α : Type} {p : α → Bool} : ∀ (l : List α) (i : Nat), idxB p l i < 0 ↔ ∀ x ∈ l, p x = false
  | [], i => by simp [idxB]
  | x :: r, i => by
    unfold idxB
    split
    · rename_i h
      simp only [List.mem_cons, forall_eq_or_imp, h]
      constructor
      · intro h0; omega
      · intro h0; cases h0.1
    · rename_i h
      rw [idx_neg r (i + 1)]
      simp [h]

theorem tof (x : Tx) (w : World) : Calls Try.prog 22 #[.agg #[.int .i64 x.id, .int .i64 x.last, .int .i64 x.st]] w fun e w' => e = .returned (.int .i64 x.id) ∧ Gr w w' := by
  go_enter Try.func22, Try.ntmps22
  go_wp2
  go_ret
  exact ⟨rfl, (Gr.refl w).alloc _⟩
theorem tis (x : Tx) (n : Int) (g1 g2 : Nat) (w : World) (h1 : w.cell? ⟨g1, 0, none⟩ = some (.func (.func 22) #[] #[])) (h2 : w.cell? ⟨g2, 0, none⟩ = some (.int .i64 n)) :
    Calls Try.prog 45 #[.agg #[.int .i64 x.id, .int .i64 x.last, .int .i64 x.st], .pointer (some ⟨g1, 0, none⟩), .pointer (some ⟨g2, 0, none⟩)] w fun e w' => e = .returned (.bool (x.id == n)) ∧ Gr w w' := by
  have l1 := lt_of_cell h1
  have l2 := lt_of_cell h2
  have l3 : g1 < w.heap.size + 1 := by omega
  have l4 : g2 < w.heap.size + 1 := by omega
  have T1 := fun W => tof x W
  go_enter Try.func45, Try.ntmps45
  go_wp2_with fail
  refine Rg.region_text 5 (Below.drew (Below.refl _ _)) (by kernel_rfl) (by kernel_rfl) (fun _ _ d _ _ h => by cases d <;> exact h) ?_
  simp only [List.append_eq, List.cons_append, List.nil_append, List.take_succ_cons, List.take_zero, List.drop_succ_cons, List.drop_zero]
  repeat (first
      | (refine Rg.wpDets_skip (by rfl) ?_; simp only [Act.put, List.setIfInBounds_toArray, List.set_cons_zero, List.set_cons_succ])
      | (refine Rg.wpDets_step ?_ (by rfl) (fun w hS => ?_) ?_
         rotate_left
         · have hc := Gr.cells hS
           have hf := Gr.frees hS
           go_simp
           first
           | (refine ⟨?_, Below.refl _ _⟩; with_reducible rfl)
           | ((with_reducible refine (T1 _).mono ?_); rintro e w' ⟨rfl, hg⟩; refine ⟨?_, hg⟩; with_reducible rfl)
         simp only [Act.put, List.setIfInBounds_toArray, List.set_cons_zero, List.set_cons_succ]))
  refine Rg.wpDets_nil ?_
  refine Rg.wpFlts_nil ?_
  refine Rg.wpLays_nil ?_
  intro w' hK
  have hg : Gr _ w' := hK.up
  have hc := hg.cells
  have hf := hg.frees
  have hz := hg.size
  try simp only [World.size_alloc, World.size_setCell, World.size_drew] at hz
  try have : 0 < w'.heap.size := by omega
  try have : w.heap.size < w'.heap.size := by omega
  try have : w.heap.size + 1 < w'.heap.size := by omega
  try have : w.heap.size + 1 + 1 < w'.heap.size := by omega
  try have : w.heap.size + 1 + 1 + 1 < w'.heap.size := by omega
  go_wp2
  go_ret
  exact ⟨rfl, ((Gr.refl _).alloc _).trans hK.up⟩
set_option maxHeartbeats 2000000 in
set_option maxRecDepth 100000 in
theorem tindex (oa : Option Addr) (c : Nat) (l : List Tx) (n : Int) (g1 g2 : Nat) (w : World) (hl : l.length ≤ 9223372036854775807) (hp : TAt w oa l) (h1 : w.cell? ⟨g1, 0, none⟩ = some (.func (.func 22) #[] #[])) (h2 : w.cell? ⟨g2, 0, none⟩ = some (.int .i64 n)) :
    Calls Try.prog 44 #[.slice oa l.length c, .func (.func 45) #[] #[.pointer (some ⟨g1, 0, none⟩), .pointer (some ⟨g2, 0, none⟩)]] w fun e w' => e = .returned (.int .i64 (idxB (fun x => x.id == n) l 0)) ∧ Gr w w' := by
  obtain ⟨RR, hRR⟩ : ∃ R, R = idxB (fun x : Tx => x.id == n) l 0 := ⟨_, rfl⟩
  rw [← hRR]
  have HR : Hid (RR = idxB (fun x : Tx => x.id == n) (l.drop 0) 0) := hid hRR
  have HP := hid hp
  clear hRR hp
  go_enter Try.func44, Try.ntmps44
  go_wp2_with fail
  go_loopw [8] (fun i wr => ∃ k : Nat, i = .int .i64 k ∧ k ≤ l.length ∧ Gr w wr ∧ Hid (RR = idxB (fun x : Tx => x.id == n) (l.drop k) k)) (fun i _ => l.length - (intOf i).toNat)
  case atStart => exact ⟨0, rfl, Nat.zero_le _, Gr.refl _, HR⟩
  case round =>
    obtain ⟨k, rfl, hk, hg, H⟩ := hrel
    by_cases hlt : k < l.length
    · obtain ⟨b, off, rfl, c0, c1, c2⟩ := t_get (HP.out.keep hg) k hlt
      have HH := H.out
      rw [idx_drop hlt] at HH
      have hbb := lt_of_cell c0
      have hkn : (k : Int) ≤ 9223372036854775807 := by omega
      have gk : decide ((l.length : Int) ≤ (k : Int)) = false := by simp; omega
      have I := fun W (hW : Gr w W) => tis l[k] n g1 g2 W (hW.keep h1) (hW.keep h2)
      have HI := hid I
      obtain ⟨tb, htb⟩ : ∃ t, (l[k].id == n) = t := ⟨_, rfl⟩
      have HI : Hid (∀ W, Gr w W → Calls Try.prog 45 #[.agg #[.int .i64 l[k].id, .int .i64 l[k].last, .int .i64 l[k].st], .pointer (some ⟨g1, 0, none⟩), .pointer (some ⟨g2, 0, none⟩)] W fun e w' => e = .returned (.bool tb) ∧ Gr W w') := hid (by rw [← htb]; exact I)
      simp only [htb] at HH
      clear I H htb
      generalize l[k].id = y0 at *
      generalize l[k].last = y1 at *
      generalize l[k].st = y2 at *
      cases tb
      · have HH' : Hid (RR = idxB (fun x : Tx => x.id == n) (l.drop (k + 1)) (k + 1)) := hid (by simpa using HH)
        clear HH
        go_wp2_with fail
        refine (HI.out _ hg).mono ?_
        rintro e w1 ⟨rfl, h1⟩
        go_wp2
        exact ⟨⟨k + 1, by go_num, by omega, hg.trans h1, HH'⟩, by simp [intOf]; omega⟩
      · have HH' : Hid (RR = (k : Int)) := hid (by simpa using HH)
        clear HH
        go_wp2_with fail
        refine (HI.out _ hg).mono ?_
        rintro e w1 ⟨rfl, h1⟩
        go_wp2
        go_ret
        exact ⟨by rw [HH'.out]; rfl, hg.trans h1⟩
    · obtain rfl : k = l.length := by omega
      have hn : RR = -1 := by rw [H.out, List.drop_length]; rfl
      subst hn
      go_wp2
      go_ret
      exact ⟨rfl, hg⟩
theorem tat (oa : Option Addr) (c : Nat) (l : List Tx) (n : Int) (w : World) (hl : l.length ≤ 9223372036854775807) (hp : TAt w oa l) :
    Calls Try.prog 21 #[.slice oa l.length c, .int .i64 n, .func (.func 22) #[] #[]] w fun e w' => e = .returned (.int .i64 (idxB (fun x => x.id == n) l 0)) ∧ Gr w w' := by
  have I := fun g1 g2 W (hW : Gr w W) => tindex oa c l n g1 g2 W hl (hp.keep hW)
  have HI := hid I
  generalize idxB (fun x : Tx => x.id == n) l 0 = R at *
  clear I hp
  go_enter Try.func21, Try.ntmps21
  go_wp2_with fail
  refine (HI.out _ _ _ ?_ ?_ ?_).mono ?_
  · exact ((Gr.refl w).alloc _).alloc _
  · go_simp
  · go_simp
  rintro e w1 ⟨rfl, h1⟩
  go_wp2
  go_ret
  exact ⟨rfl, (((Gr.refl w).alloc _).alloc _).trans h1⟩
theorem t_info : (Try.prog.info? 53).map (fun i => (i.zero, i.size, i.bytes)) = some (some (.agg #[.int .i64 0, .int .i64 0, .int .i64 0]), 3, 24) := by kernel_rfl
theorem tnil (W : World) (oa : Option Addr) (n c : Nat) : (binOp .eql 25 (.slice oa n c) (.slice none 0 0)).run Try.prog W = .ok (.bool oa.isNone) W := run_eql_slice_nil W 25 53 oa n c Try.underlying25
set_option maxHeartbeats 2000000 in
set_option maxRecDepth 100000 in
theorem tclone (oa : Option Addr) (c : Nat) (l : List Tx) (w : World) (hl : l.length ≤ 1000000) (hp : TAt w oa l) :
    Calls Try.prog 16 #[.slice oa l.length c] w fun e w' => ∃ v, e = .returned v ∧ w'.ownsRow w.heap.size 53 3 v l.length (cellsF tF l) ∧ Gr w w' := by
  obtain ⟨i0, hi, hz0, hz1, hz2⟩ := info_parts t_info
  have NN := fun (W : World) (oa : Option Addr) (n c : Nat) => tnil W oa n c
  cases oa with
  | none =>
    have h0 : l = [] := by
      rcases hp with h | ⟨b, off, h, _⟩
      · exact h
      · cases h
    subst h0
    simp only [List.length_nil]
    go_enter Try.func16, Try.ntmps16
    go_wp2
    go_ret
    exact ⟨_, rfl, World.ownsRow_nil _ _ _ _, Gr.refl _⟩
  | some ad =>
    have hc : ∀ W, Gr w W → ∀ j u, (cellsF tF l)[j]? = some u → W.cell? (ad.add j) = some u := by
      intro W hW
      rcases hp.keep hW with h | ⟨b, off, h, hb, hr⟩
      · subst h; intro j u hu; simp [cellsF] at hu
      · cases h; exact hr.cells tE
    have Hc := hid hc
    clear hc hp
    go_enter Try.func16, Try.ntmps16
    go_wp2_with (at_builtin; refine wpList_append_own _ rfl _ _ 25 rfl w.heap.size 53 i0 (.agg #[.int .i64 0, .int .i64 0, .int .i64 0]) 3 24 Try.underlying25 hi hz0 hz1 hz2 rfl (by decide) _ _ _ rfl (World.ownsRow_lit w #[] 0 (Nat.le_refl _) (by decide) rfl) ad l.length c (cellsF tF l) rfl (tE.cells_len l) ?c1 ?c2 ?c3 ?c4 ?c5 ?_)
    case c1 => exact Hc.out _ ((Gr.refl w).alloc _)
    case c2 => exact tE.cells_one l
    case c3 => unfold maxLen; omega
    case c4 => omega
    case c5 => simp
    intro v' w2 hown2 hg2 _
    have hown2 : w2.ownsRow w.heap.size 53 3 v' l.length (cellsF tF l) := by simpa using hown2
    have hg3 : Gr w w2 := ((Gr.refl w).alloc _).grown hg2 (fun b hb => by simp [Value.ownBlock] at hb; omega)
    have H := hid hown2
    clear hown2 hg2
    go_wp2
    go_ret
    exact ⟨_, rfl, H.out, hg3⟩
theorem tclip (oa : Option Addr) (n c : Nat) (w : World) (hn : n ≤ c) : Calls Try.prog 29 #[.slice oa n c] w fun e w' => e = .returned (.slice oa n n) ∧ w' = w := by
  go_enter Try.func29, Try.ntmps29
  go_wp2
  go_ret
  exact ⟨rfl, rfl⟩

theorem dof (x : Dy) (w : World) : Calls Try.prog 20 #[.agg #[.int .i64 x.page, .int .i64 x.lsn]] w fun e w' => e = .returned (.int .i64 x.page) ∧ Gr w w' := by
  go_enter Try.func20, Try.ntmps20
  go_wp2
  go_ret
  exact ⟨rfl, (Gr.refl w).alloc _⟩
theorem dis (x : Dy) (n : Int) (g1 g2 : Nat) (w : World) (h1 : w.cell? ⟨g1, 0, none⟩ = some (.func (.func 20) #[] #[])) (h2 : w.cell? ⟨g2, 0, none⟩ = some (.int .i64 n)) :
    Calls Try.prog 43 #[.agg #[.int .i64 x.page, .int .i64 x.lsn], .pointer (some ⟨g1, 0, none⟩), .pointer (some ⟨g2, 0, none⟩)] w fun e w' => e = .returned (.bool (x.page == n)) ∧ Gr w w' := by
  have l1 := lt_of_cell h1
  have l2 := lt_of_cell h2
  have l3 : g1 < w.heap.size + 1 := by omega
  have l4 : g2 < w.heap.size + 1 := by omega
  have T1 := fun W => dof x W
  go_enter Try.func43, Try.ntmps43
  go_wp2_with fail
  refine Rg.region_text 5 (Below.drew (Below.refl _ _)) (by kernel_rfl) (by kernel_rfl) (fun _ _ d _ _ h => by cases d <;> exact h) ?_
  simp only [List.append_eq, List.cons_append, List.nil_append, List.take_succ_cons, List.take_zero, List.drop_succ_cons, List.drop_zero]
  repeat (first
      | (refine Rg.wpDets_skip (by rfl) ?_; simp only [Act.put, List.setIfInBounds_toArray, List.set_cons_zero, List.set_cons_succ])
      | (refine Rg.wpDets_step ?_ (by rfl) (fun w hS => ?_) ?_
         rotate_left
         · have hc := Gr.cells hS
           have hf := Gr.frees hS
           go_simp
           first
           | (refine ⟨?_, Below.refl _ _⟩; with_reducible rfl)
           | ((with_reducible refine (T1 _).mono ?_); rintro e w' ⟨rfl, hg⟩; refine ⟨?_, hg⟩; with_reducible rfl)
         simp only [Act.put, List.setIfInBounds_toArray, List.set_cons_zero, List.set_cons_succ]))
  refine Rg.wpDets_nil ?_
  refine Rg.wpFlts_nil ?_
  refine Rg.wpLays_nil ?_
  intro w' hK
  have hg : Gr _ w' := hK.up
  have hc := hg.cells
  have hf := hg.frees
  have hz := hg.size
  try simp only [World.size_alloc, World.size_setCell, World.size_drew] at hz
  try have : 0 < w'.heap.size := by omega
  try have : w.heap.size < w'.heap.size := by omega
  try have : w.heap.size + 1 < w'.heap.size := by omega
  try have : w.heap.size + 1 + 1 < w'.heap.size := by omega
  try have : w.heap.size + 1 + 1 + 1 < w'.heap.size := by omega
  go_wp2
  go_ret
  exact ⟨rfl, ((Gr.refl _).alloc _).trans hK.up⟩
set_option maxHeartbeats 2000000 in
set_option maxRecDepth 100000 in
theorem dindex (oa : Option Addr) (c : Nat) (l : List Dy) (n : Int) (g1 g2 : Nat) (w : World) (hl : l.length ≤ 9223372036854775807) (hp : DAt w oa l) (h1 : w.cell? ⟨g1, 0, none⟩ = some (.func (.func 20) #[] #[])) (h2 : w.cell? ⟨g2, 0, none⟩ = some (.int .i64 n)) :
    Calls Try.prog 42 #[.slice oa l.length c, .func (.func 43) #[] #[.pointer (some ⟨g1, 0, none⟩), .pointer (some ⟨g2, 0, none⟩)]] w fun e w' => e = .returned (.int .i64 (idxB (fun x => x.page == n) l 0)) ∧ Gr w w' := by
  obtain ⟨RR, hRR⟩ : ∃ R, R = idxB (fun x : Dy => x.page == n) l 0 := ⟨_, rfl⟩
  rw [← hRR]
  have HR : Hid (RR = idxB (fun x : Dy => x.page == n) (l.drop 0) 0) := hid hRR
  have HP := hid hp
  clear hRR hp
  go_enter Try.func42, Try.ntmps42
  go_wp2_with fail
  go_loopw [8] (fun i wr => ∃ k : Nat, i = .int .i64 k ∧ k ≤ l.length ∧ Gr w wr ∧ Hid (RR = idxB (fun x : Dy => x.page == n) (l.drop k) k)) (fun i _ => l.length - (intOf i).toNat)
  case atStart => exact ⟨0, rfl, Nat.zero_le _, Gr.refl _, HR⟩
  case round =>
    obtain ⟨k, rfl, hk, hg, H⟩ := hrel
    by_cases hlt : k < l.length
    · obtain ⟨b, off, rfl, c0, c1⟩ := d_get (HP.out.keep hg) k hlt
      have HH := H.out
      rw [idx_drop hlt] at HH
      have hbb := lt_of_cell c0
      have hkn : (k : Int) ≤ 9223372036854775807 := by omega
      have gk : decide ((l.length : Int) ≤ (k : Int)) = false := by simp; omega
      have I := fun W (hW : Gr w W) => dis l[k] n g1 g2 W (hW.keep h1) (hW.keep h2)
      have HI := hid I
      obtain ⟨tb, htb⟩ : ∃ t, (l[k].page == n) = t := ⟨_, rfl⟩
      have HI : Hid (∀ W, Gr w W → Calls Try.prog 43 #[.agg #[.int .i64 l[k].page, .int .i64 l[k].lsn], .pointer (some ⟨g1, 0, none⟩), .pointer (some ⟨g2, 0, none⟩)] W fun e w' => e = .returned (.bool tb) ∧ Gr W w') := hid (by rw [← htb]; exact I)
      simp only [htb] at HH
      clear I H htb
      generalize l[k].page = y0 at *
      generalize l[k].lsn = y1 at *
      cases tb
      · have HH' : Hid (RR = idxB (fun x : Dy => x.page == n) (l.drop (k + 1)) (k + 1)) := hid (by simpa using HH)
        clear HH
        go_wp2_with fail
        refine (HI.out _ hg).mono ?_
        rintro e w1 ⟨rfl, h1⟩
        go_wp2
        exact ⟨⟨k + 1, by go_num, by omega, hg.trans h1, HH'⟩, by simp [intOf]; omega⟩
      · have HH' : Hid (RR = (k : Int)) := hid (by simpa using HH)
        clear HH
        go_wp2_with fail
        refine (HI.out _ hg).mono ?_
        rintro e w1 ⟨rfl, h1⟩
        go_wp2
        go_ret
        exact ⟨by rw [HH'.out]; rfl, hg.trans h1⟩
    · obtain rfl : k = l.length := by omega
      have hn : RR = -1 := by rw [H.out, List.drop_length]; rfl
      subst hn
      go_wp2
      go_ret
      exact ⟨rfl, hg⟩
theorem dat (oa : Option Addr) (c : Nat) (l : List Dy) (n : Int) (w : World) (hl : l.length ≤ 9223372036854775807) (hp : DAt w oa l) :
    Calls Try.prog 19 #[.slice oa l.length c, .int .i64 n, .func (.func 20) #[] #[]] w fun e w' => e = .returned (.int .i64 (idxB (fun x => x.page == n) l 0)) ∧ Gr w w' := by
  have I := fun g1 g2 W (hW : Gr w W) => dindex oa c l n g1 g2 W hl (hp.keep hW)
  have HI := hid I
  generalize idxB (fun x : Dy => x.page == n) l 0 = R at *
  clear I hp
  go_enter Try.func19, Try.ntmps19
  go_wp2_with fail
  refine (HI.out _ _ _ ?_ ?_ ?_).mono ?_
  · exact ((Gr.refl w).alloc _).alloc _
  · go_simp
  · go_simp
  rintro e w1 ⟨rfl, h1⟩
  go_wp2
  go_ret
  exact ⟨rfl, (((Gr.refl w).alloc _).alloc _).trans h1⟩
theorem d_info : (Try.prog.info? 36).map (fun i => (i.zero, i.size, i.bytes)) = some (some (.agg #[.int .i64 0, .int .i64 0]), 2, 16) := by kernel_rfl
theorem dnil (W : World) (oa : Option Addr) (n c : Nat) : (binOp .eql 26 (.slice oa n c) (.slice none 0 0)).run Try.prog W = .ok (.bool oa.isNone) W := run_eql_slice_nil W 26 36 oa n c Try.underlying26
set_option maxHeartbeats 2000000 in
set_option maxRecDepth 100000 in
theorem dclone (oa : Option Addr) (c : Nat) (l : List Dy) (w : World) (hl : l.length ≤ 1000000) (hp : DAt w oa l) :
    Calls Try.prog 17 #[.slice oa l.length c] w fun e w' => ∃ v, e = .returned v ∧ w'.ownsRow w.heap.size 36 2 v l.length (cellsF dF l) ∧ Gr w w' := by
  obtain ⟨i0, hi, hz0, hz1, hz2⟩ := info_parts d_info
  have NN := fun (W : World) (oa : Option Addr) (n c : Nat) => dnil W oa n c
  cases oa with
  | none =>
    have h0 : l = [] := by
      rcases hp with h | ⟨b, off, h, _⟩
      · exact h
      · cases h
    subst h0
    simp only [List.length_nil]
    go_enter Try.func17, Try.ntmps17
    go_wp2
    go_ret
    exact ⟨_, rfl, World.ownsRow_nil _ _ _ _, Gr.refl _⟩
  | some ad =>
    have hc : ∀ W, Gr w W → ∀ j u, (cellsF dF l)[j]? = some u → W.cell? (ad.add j) = some u := by
      intro W hW
      rcases hp.keep hW with h | ⟨b, off, h, hb, hr⟩
      · subst h; intro j u hu; simp [cellsF] at hu
      · cases h; exact hr.cells dE
    have Hc := hid hc
    clear hc hp
    go_enter Try.func17, Try.ntmps17
    go_wp2_with (at_builtin; refine wpList_append_own _ rfl _ _ 26 rfl w.heap.size 36 i0 (.agg #[.int .i64 0, .int .i64 0]) 2 16 Try.underlying26 hi hz0 hz1 hz2 rfl (by decide) _ _ _ rfl (World.ownsRow_lit w #[] 0 (Nat.le_refl _) (by decide) rfl) ad l.length c (cellsF dF l) rfl (dE.cells_len l) ?c1 ?c2 ?c3 ?c4 ?c5 ?_)
    case c1 => exact Hc.out _ ((Gr.refl w).alloc _)
    case c2 => exact dE.cells_one l
    case c3 => unfold maxLen; omega
    case c4 => omega
    case c5 => simp
    intro v' w2 hown2 hg2 _
    have hown2 : w2.ownsRow w.heap.size 36 2 v' l.length (cellsF dF l) := by simpa using hown2
    have hg3 : Gr w w2 := ((Gr.refl w).alloc _).grown hg2 (fun b hb => by simp [Value.ownBlock] at hb; omega)
    have H := hid hown2
    clear hown2 hg2
    go_wp2
    go_ret
    exact ⟨_, rfl, H.out, hg3⟩
theorem dclip (oa : Option Addr) (n c : Nat) (w : World) (hn : n ≤ c) : Calls Try.prog 30 #[.slice oa n c] w fun e w' => e = .returned (.slice oa n n) ∧ w' = w := by
  go_enter Try.func30, Try.ntmps30
  go_wp2
  go_ret
  exact ⟨rfl, rfl⟩
end Go.Proofs.Ytmanokhadppeeaa

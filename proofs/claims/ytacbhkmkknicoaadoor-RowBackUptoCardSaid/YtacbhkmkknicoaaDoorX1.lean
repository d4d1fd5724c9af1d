/- row: the text that bytes say. (By mkX1.py.) -/
import Derived.Test.YtacbhkmkknicoaaDoorJ2
import Derived.Laws.BytesArg
import Derived.ScopeJumps
namespace Go.Proofs.YtacbhkmkknicoaaDoor
open Go.RowKit
set_option linter.unusedSimpArgs false
set_option linter.unusedVariables false
attribute [local go_sem] Rg.leads_value Rg.leads_skip Rg.leads_enter Rg.brings_value Rg.brings_skip Rg.brings_enter Rg.bringsG_value Rg.bringsG_enter
theorem least_of {p : Nat → Prop} : ∀ n, p n → ∃ m, p m ∧ ∀ k, k < m → ¬ p k := by
  intro n
  induction n using Nat.strongRecOn with
  | _ n ih =>
    intro h
    by_cases hk : ∃ k, k < n ∧ p k
    · obtain ⟨k, hk, hp⟩ := hk
      exact ih k hk hp
    · exact ⟨n, h, fun k hk' hp => hk ⟨k, hk', hp⟩⟩
/-- a scope in which the run jumps back to one label; what holds at the label bears a number that each pass lowers -/
theorem scope_ghost {P : Program} {a : Act} {w : World} {Q : Exit → Act → World → Prop} {c rest : Code} (l : Nat) (J : Nat → Act → World → Prop) (hf : findLabel c l = some rest)
    (first : c.wp P (Exit.jump l (fun a' w' => ∃ n, J n a' w') Q) a w)
    (pass : ∀ n a w, J n a w → rest.wp P (Exit.jump l (fun a' w' => ∃ m, m < n ∧ J m a' w') Q) a w) : (Code.scope c).wp P Q a w := by
  classical
  have hl : ∀ a' w', ∃ m : Nat, (∃ n, J n a' w') → J m a' w' ∧ ∀ k, k < m → ¬ J k a' w' := fun a' w' => by
    by_cases h : ∃ n, J n a' w'
    · obtain ⟨n, hn⟩ := h
      obtain ⟨m, h1, h2⟩ := least_of (p := fun n => J n a' w') n hn
      exact ⟨m, fun _ => ⟨h1, h2⟩⟩
    · exact ⟨0, fun h' => absurd h' h⟩
  let μ : Act → World → Nat := fun a' w' => Classical.choose (hl a' w')
  have hμ : ∀ a' w', (∃ n, J n a' w') → J (μ a' w') a' w' ∧ ∀ k, k < μ a' w' → ¬ J k a' w' := fun a' w' => Classical.choose_spec (hl a' w')
  refine wp_scope_jumps l (fun a' w' => ∃ n, J n a' w') μ hf first ?_
  intro a w hJ
  refine Code.wp_mono ?_ (pass (μ a w) a w (hμ a w hJ).1)
  intro e a' w' h
  cases e with
  | goto l' =>
    obtain ⟨h1, m, hm, hJm⟩ := h
    refine ⟨h1, ⟨m, hJm⟩, ?_⟩
    refine Nat.lt_of_le_of_lt (Nat.le_of_not_lt fun hlt => ?_) hm
    exact (hμ a' w' ⟨m, hJm⟩).2 m hlt hJm
  | _ => exact h
theorem frame_out (t : Array Value) (n : Nat) (h : t.size = n) : t = ((List.range n).map fun i => t.getD i undef).toArray := by
  apply Array.ext
  · simp [h]
  · intro i h1 h2
    simp [Array.getD, h1]
def scopeOf : Code → Option Code
  | .scope c => some c
  | .seq a b => match scopeOf a with
    | some c => some c
    | none => scopeOf b
  | .block _ c => scopeOf c
  | _ => none
def behindSkip : Code → Code
  | .seq .skip b => b
  | c => c
theorem conv_b {w : World} {oa : Option Addr} {xs : List Int} (c : Nat) (h : BAt w oa xs) : (convert 30 9 (.slice oa xs.length c)).run Tryd.prog w = .ok (.string (strOfNums xs)) w := by
  have hn : ∀ oa : Option Addr, (convert 30 9 (.slice oa 0 c)).run Tryd.prog w = .ok (.string (strOfNums [])) w := by
    intro oa
    cases oa with
    | none => exact run_convert_bytes_nil w 30 5 Tryd.underlying30 Tryd.underlying5 0 c 9 Tryd.underlying9
    | some a =>
      have hl : (loadCells a 0).run Tryd.prog w = .ok (([] : List Int).map (Value.int .u8)).toArray w := by
        have := run_loadCells_list (P := Tryd.prog) w a [] (fun j v hj => by simp at hj)
        simpa using this
      rw [run_convert_bytes_string w 30 9 5 _ 0 c Tryd.underlying30 Tryd.underlying5 Tryd.underlying9, run_bytesToString w _ 0 c [] hl]
      rfl
  rcases h with h | ⟨b, off, rfl, hb, hr⟩
  · subst h; exact hn oa
  · refine run_convert_bytes_arg w 30 5 Tryd.underlying30 Tryd.underlying5 b off xs.length c xs rfl (fun i hi => ?_) 9 Tryd.underlying9
    have := hr i hi 0 (.int .u8 xs[i]) (by simp [bF])
    simpa [List.getD, List.getElem?_eq_getElem hi] using this
/-- the text that bytes say, and how many bytes say it -/
def txt : List Int → Option (List Int × Nat)
  | [] => none
  | [b] => if b = 0 then none else none
  | b :: c :: r => if b = 0 then (if c = 255 then (txt r).map fun p => (0 :: p.1, p.2 + 2) else if c = 0 then some ([], 2) else none) else (txt (c :: r)).map fun p => (b :: p.1, p.2 + 1)
/-- what is read so far, and what is to come -/
def txB (l : List Int) (i : Nat) (acc : List Int) : Option (List Int × Nat) := (txt (l.drop i)).map fun p => (acc ++ p.1, i + p.2)
/-- what key.text tells of it -/
def txR (r : Option (List Int × Nat)) : Value := match r with
  | none => .tuple #[.string ⟨#[]⟩, .int .i64 0, .bool false]
  | some p => .tuple #[.string (strOfNums p.1), .int .i64 (p.2 : Int), .bool true]
def TFrame (ol : Option Addr) (m cl : Nat) (out : Value) (i : Nat) (f : Nat → Value) : Act := { tmps := #[.slice ol m cl, f 1, f 2, f 3, f 4, out, .int .i64 (i : Int), f 7, f 8, f 9, f 10, f 11, f 12, f 13, f 14, f 15, f 16, f 17, f 18, f 19, f 20, f 21, f 22, f 23, f 24, f 25, f 26, f 27, f 28, f 29, f 30, f 31, f 32, f 33, f 34, f 35, f 36, f 37, f 38, f 39, f 40, f 41, f 42, f 43, f 44, f 45, f 46, f 47], defers := [] }
set_option maxRecDepth 100000 in
theorem TFrame_of {ol : Option Addr} {m cl : Nat} {out : Value} {i : Nat} (a : Act) (hd : a.defers = []) (hs : a.tmps.size = 48) (h0 : a.tmps.getD 0 undef = .slice ol m cl) (h5 : a.tmps.getD 5 undef = out) (h6 : a.tmps.getD 6 undef = .int .i64 (i : Int)) :
    a = TFrame ol m cl out i (fun i => a.tmps.getD i undef) := by
  obtain ⟨t, d⟩ := a
  subst hd
  have h := frame_out t 48 hs
  unfold TFrame
  rw [← h0, ← h5, ← h6]
  exact congrArg (fun t => Act.mk t []) h
noncomputable def scopeT : Code := (Tryd.f73.body.bind scopeOf).getD .skip
noncomputable def restT : Code := (findLabel scopeT 0).getD .skip
noncomputable def restU : Code := behindSkip restT
set_option maxRecDepth 100000 in
theorem findT : findLabel scopeT 0 = some restT := by kernel_rfl
theorem restT_eq : restT = .seq .skip restU := by kernel_rfl
structure TJ (ol : Option Addr) (l : List Int) (w : World) (R : Option (List Int × Nat)) (n : Nat) (out : Value) (i : Nat) (acc : List Int) (wr : World) : Prop where
  own : wr.ownsRow w.heap.size 5 1 out acc.length (cellsF bF acc)
  il : i ≤ l.length
  len : acc.length ≤ i
  mu : l.length - i < n
  eq : txB l i acc = R
  up : Gr w wr
def TG (ol : Option Addr) (cl : Nat) (l : List Int) (w : World) (R : Option (List Int × Nat)) (n : Nat) (a : Act) (wr : World) : Prop := ∃ f out i acc, a = TFrame ol l.length cl out i f ∧ TJ ol l w R n out i acc wr
/-- what key.text leaves -/
def TxP (w : World) (R : Option (List Int × Nat)) (e : Ending) (w' : World) : Prop := e = .returned (txR R) ∧ Gr w w'
noncomputable def TQ (ol : Option Addr) (cl : Nat) (l : List Int) (w : World) (R : Option (List Int × Nat)) (n : Nat) : Exit → Act → World → Prop :=
  Exit.jump 0 (fun a' w' => ∃ m, m < n ∧ TG ol cl l w R m a' w') (bodyPost Tryd.prog Tryd.f73 (TxP w R))
theorem txB_end {l : List Int} {i : Nat} {acc : List Int} (h : l.length ≤ i) : txB l i acc = none := by
  unfold txB
  rw [List.drop_eq_nil_of_le h]; rfl
theorem txB_one {l : List Int} {i : Nat} {acc : List Int} (h : i < l.length) (h0 : l[i] ≠ 0) : txB l i acc = txB l (i + 1) (acc ++ [l[i]]) := by
  unfold txB
  rw [List.drop_eq_getElem_cons h]
  cases hd : l.drop (i + 1) with
  | nil => simp [txt]
  | cons c r =>
    rw [txt, if_neg h0]
    cases txt (c :: r) with
    | none => rfl
    | some p => simp; omega
theorem txB_last {l : List Int} {i : Nat} {acc : List Int} (h : i < l.length) (h0 : l[i] = 0) (h1 : l.length ≤ i + 1) : txB l i acc = none := by
  unfold txB
  rw [List.drop_eq_getElem_cons h, List.drop_eq_nil_of_le h1]
  simp [txt]
theorem txB_two {l : List Int} {i : Nat} {acc : List Int} (h : i + 1 < l.length) (h0 : l[i] = 0) : txB l i acc = if l[i + 1] = 255 then txB l (i + 2) (acc ++ [0]) else if l[i + 1] = 0 then some (acc, i + 2) else none := by
  unfold txB
  rw [List.drop_eq_getElem_cons (by omega : i < l.length), List.drop_eq_getElem_cons h, h0, txt, if_pos rfl]
  split
  · cases txt (l.drop (i + 2)) with
    | none => rfl
    | some p => simp; omega
  · split <;> simp
set_option maxHeartbeats 8000000 in
set_option maxRecDepth 100000 in
theorem text_pass (ol : Option Addr) (cl : Nat) (l : List Int) (w : World) (R : Option (List Int × Nat)) (hl : l.length ≤ 140737488355328) (hp : BAt w ol l) (n : Nat) (f : Nat → Value) (out : Value) (i : Nat) (acc : List Int) (wr : World) (hJ : TJ ol l w R n out i acc wr) :
    Code.wp Tryd.prog restU (TQ ol cl l w R n) (TFrame ol l.length cl out i f) wr := by
  have HP := hid (hp.keep hJ.up)
  have HRW := hid hJ.own
  have HEQ := hid hJ.eq
  have HN := hid hJ.mu
  have hil := hJ.il
  have hal := hJ.len
  have hg := hJ.up
  have hwb := hg.size
  obtain ⟨i0, hi0, hz0, hz1, hz2⟩ := info_parts b_info
  clear hJ hp
  unfold TFrame
  conv => arg 2; whnf
  by_cases hlt : i < l.length
  · obtain ⟨b, off, rfl, c0⟩ := b_get HP.out i hlt
    have hbb := lt_of_cell c0
    have g1 : decide ((l.length : Int) ≤ (i : Int)) = false := by rw [decide_eq_false_iff_not]; omega
    have g2 : (i : Int) < (l.length : Int) := by omega
    have g3 : (0 : Int) ≤ (i : Int) := by omega
    by_cases h0 : l[i] = 0
    · rw [h0] at c0
      by_cases h1 : i + 1 < l.length
      · obtain ⟨b', off', e', c1⟩ := b_get HP.out (i + 1) h1
        cases e'
        have HE := hid (txB_two (acc := acc) h1 h0)
        have k1 : decide ((l.length : Int) ≤ (i : Int) + 1) = false := by rw [decide_eq_false_iff_not]; omega
        have k2 : (i : Int) + 1 < (l.length : Int) := by omega
        have k3 : (0 : Int) ≤ (i : Int) + 1 := by omega
        rw [HEQ.out] at HE
        generalize l[i + 1] = y at *
        by_cases h2 : y = 255
        · subst h2
          have HE2 : Hid (R = txB l (i + 2) (acc ++ [0])) := hid (by rw [HE.out, if_pos rfl])
          clear h0 HE HEQ
          go_wp2_with (at_builtin; refine wpList_append_own _ rfl _ _ 30 rfl w.heap.size 5 i0 (.int .u8 0) 1 1 Tryd.underlying30 hi0 hz0 hz1 hz2 rfl (by decide) _ _ _ rfl (HRW.out.alloc _) ⟨wr.heap.size, 0, none⟩ 1 1 (cellsF bF [0]) rfl rfl ?ma1 ?ma2 ?ma3 ?ma4 ?ma5 ?_)
          case ma1 =>
            intro q u hu
            rw [addN, Nat.zero_add, Rg.blk_cells (heap_alloc_new _ _) q]
            simpa [bF, cellsF] using hu
          case ma2 => exact bE.cells_one _
          case ma3 => unfold maxLen; omega
          case ma4 => omega
          case ma5 => first | omega | (simp; omega)
          intro v1 w3 hown hq8 _
          have G1 := Gz.up (hg.trans ((Gr.refl wr).alloc _)) hq8 (HRW.out.alloc _)
          have HJ : Hid (TJ (some ⟨b, off, none⟩) l w R (l.length - (i + 2) + 1) v1 (i + 2) (acc ++ [0]) w3) := hid ⟨by rw [List.length_append, cellsF_append]; exact hown, by omega, by simp; omega, by omega, HE2.out.symm, G1⟩
          have HM : Hid (l.length - (i + 2) + 1 < n) := hid (by have := HN.out; omega)
          clear hown hq8 G1 HE2 HRW HP hg
          go_wp2
          refine wp_goto ?_
          show TQ _ cl l w R n (Exit.goto 0) _ _
          exact ⟨rfl, _, HM.out, _, _, _, _, TFrame_of _ rfl rfl rfl rfl (by simp), HJ.out⟩
        · have q255 : (y == 255) = false := by simpa using h2
          by_cases h3 : y = 0
          · subst h3
            have HE2 : Hid (R = some (acc, i + 2)) := hid (by rw [HE.out, if_neg h2, if_pos rfl])
            obtain ⟨ox, cx, rfl, hat, _⟩ := own_at0 bE HRW.out
            have cv := conv_b cx hat
            have FI : Hid (TxP w R (.returned (.tuple #[.string (strOfNums acc), .int .i64 ((i : Int) + 2), .bool true])) wr) := hid ⟨by rw [HE2.out]; simp [txR], hg⟩
            generalize strOfNums acc = S at *
            clear h0 HE HEQ h2 HN HRW HP HE2 hat
            go_wp2
            show bodyPost Tryd.prog Tryd.f73 (TxP w R) Exit.ret _ _
            refine bodyPost_ret (by simp [results, Tryd.results73, go_sem]; try rfl) rfl FI.out
          · have q0 : (y == 0) = false := by simpa using h3
            have HE2 : Hid (R = none) := hid (by rw [HE.out, if_neg h2, if_neg h3])
            clear h0 HE HEQ h2 h3 HN HRW HP
            go_wp2
            show bodyPost Tryd.prog Tryd.f73 (TxP w R) Exit.ret _ _
            refine bodyPost_ret (by simp [results, Tryd.results73, go_sem]; try rfl) rfl ⟨by rw [HE2.out]; rfl, hg⟩
      · have HE2 : Hid (R = none) := hid (by rw [← HEQ.out]; exact txB_last hlt h0 (by omega))
        have k1 : decide ((l.length : Int) ≤ (i : Int) + 1) = true := by rw [decide_eq_true_iff]; omega
        clear h0 HEQ h1 HN HRW HP
        go_wp2
        show bodyPost Tryd.prog Tryd.f73 (TxP w R) Exit.ret _ _
        refine bodyPost_ret (by simp [results, Tryd.results73, go_sem]; try rfl) rfl ⟨by rw [HE2.out]; rfl, hg⟩
    · have HE := hid (txB_one (acc := acc) hlt h0)
      rw [HEQ.out] at HE
      have q0 : (l[i] != 0) = true := by simpa using h0
      generalize l[i] = y at *
      clear h0 HEQ
      go_wp2_with (at_builtin; refine wpList_append_own _ rfl _ _ 30 rfl w.heap.size 5 i0 (.int .u8 0) 1 1 Tryd.underlying30 hi0 hz0 hz1 hz2 rfl (by decide) _ _ _ rfl (HRW.out.alloc _) ⟨wr.heap.size, 0, none⟩ 1 1 (cellsF bF [y]) rfl rfl ?mb1 ?mb2 ?mb3 ?mb4 ?mb5 ?_)
      case mb1 =>
        intro q u hu
        rw [addN, Nat.zero_add, Rg.blk_cells (heap_alloc_new _ _) q]
        simpa [bF, cellsF] using hu
      case mb2 => exact bE.cells_one _
      case mb3 => unfold maxLen; omega
      case mb4 => omega
      case mb5 => first | omega | (simp; omega)
      intro v1 w3 hown hq8 _
      have G1 := Gz.up (hg.trans ((Gr.refl wr).alloc _)) hq8 (HRW.out.alloc _)
      have HJ : Hid (TJ (some ⟨b, off, none⟩) l w R (l.length - (i + 1) + 1) v1 (i + 1) (acc ++ [y]) w3) := hid ⟨by rw [List.length_append, cellsF_append]; exact hown, by omega, by simp; omega, by omega, HE.out.symm, G1⟩
      have HM : Hid (l.length - (i + 1) + 1 < n) := hid (by have := HN.out; omega)
      clear hown hq8 G1 HE HRW HP hg
      go_wp2
      refine wp_goto ?_
      show TQ _ cl l w R n (Exit.goto 0) _ _
      exact ⟨rfl, _, HM.out, _, _, _, _, TFrame_of _ rfl rfl rfl rfl (by simp), HJ.out⟩
  · have g1 : decide ((l.length : Int) ≤ (i : Int)) = true := by rw [decide_eq_true_iff]; omega
    have HE2 : Hid (R = none) := hid (by rw [← HEQ.out]; exact txB_end (by omega))
    clear HEQ HN HRW HP
    go_wp2
    show bodyPost Tryd.prog Tryd.f73 (TxP w R) Exit.ret _ _
    refine bodyPost_ret (by simp [results, Tryd.results73, go_sem]; try rfl) rfl ⟨by rw [HE2.out]; rfl, hg⟩
theorem TQ_first {ol : Option Addr} {cl : Nat} {l : List Int} {w : World} {R : Option (List Int × Nat)} {n : Nat} (e : Exit) (a' : Act) (w' : World) (h : TQ ol cl l w R n e a' w') : Exit.jump 0 (fun a' w' => ∃ n, TG ol cl l w R n a' w') (bodyPost Tryd.prog Tryd.f73 (TxP w R)) e a' w' := by
  cases e with
  | goto l' =>
    obtain ⟨h1, m, hm, h⟩ := h
    exact ⟨h1, m, h⟩
  | _ => exact h
theorem text_at (ol : Option Addr) (cl : Nat) (l : List Int) (w : World) (R : Option (List Int × Nat)) (hl : l.length ≤ 140737488355328) (hp : BAt w ol l) (n : Nat) (out : Value) (i : Nat) (acc : List Int) (wr : World) (hJ : TJ ol l w R n out i acc wr)
    (a : Act) (hd : a.defers = []) (hs : a.tmps.size = 48) (h0 : a.tmps.getD 0 undef = .slice ol l.length cl) (h5 : a.tmps.getD 5 undef = out) (h6 : a.tmps.getD 6 undef = .int .i64 (i : Int)) :
    Code.wp Tryd.prog restU (TQ ol cl l w R n) a wr := by
  rw [TFrame_of a hd hs h0 h5 h6]
  exact text_pass ol cl l w R hl hp n _ out i acc wr hJ
set_option maxHeartbeats 4000000 in
set_option maxRecDepth 100000 in
theorem text_any (ol : Option Addr) (cl : Nat) (l : List Int) (w : World) (hl : l.length ≤ 140737488355328) (hp : BAt w ol l) : Calls Tryd.prog 73 #[.slice ol l.length cl] w (TxP w (txt l)) := by
  obtain ⟨R, hR⟩ : ∃ R, txt l = R := ⟨_, rfl⟩
  rw [hR]
  have HJ : Hid (TJ ol l w R (l.length + 1) (.slice none 0 0) 0 [] w) := hid ⟨World.ownsRow_nil _ _ _ _, Nat.zero_le _, Nat.zero_le _, by omega, by unfold txB; rw [List.drop_zero, hR]; cases R <;> simp, Gr.refl _⟩
  have HP := hid hp
  clear hp hR
  go_enter Tryd.func73, Tryd.ntmps73
  go_wp2_with fail
  refine scope_ghost 0 (fun n a w' => TG ol cl l w R n a w') findT ?first ?pass
  case pass =>
    rintro n a wr ⟨f, out, i, acc, rfl, hJ⟩
    rw [restT_eq]
    exact wp_seq_k (fun _ hK => wp_skip (hK _ _ (text_pass ol cl l w R hl HP.out n f out i acc wr hJ)))
  case first =>
    go_wp2_with fail
    go_step3
    go_step
    go_step
    exact Code.wp_mono TQ_first (text_at ol cl l w R hl HP.out _ (.slice none 0 0) 0 [] w HJ.out _ rfl rfl rfl rfl rfl)
end Go.Proofs.YtacbhkmkknicoaaDoor

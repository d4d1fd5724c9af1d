/- redo: Undo. (By mkU3.py.) -/
import Derived.Test.YtmanokhadppeeaaU2
namespace Go.Proofs.Ytmanokhadppeeaa
open Go.RowKit
set_option linter.unusedSimpArgs false
set_option linter.unusedVariables false
attribute [local go_sem] Rg.leads_value Rg.leads_skip Rg.leads_enter Rg.brings_value Rg.brings_skip Rg.brings_enter Rg.bringsG_value Rg.bringsG_enter
theorem OutOk.nil (w : World) (base : Nat) : OutOk w base (.slice none 0 0) [] := ⟨[], rfl, World.ownsRow_nil _ _ _ _, fun z hz => by cases hz⟩
structure FRel (w : World) (ts : List Tx) (s5 s6 s18 : Value) (wr : World) : Prop where
  ex : ∃ (i : Nat) (os : List Oc) (lo : List Lo), s18 = .int .i64 i ∧ i ≤ ts.length ∧ OutOk wr w.heap.size s5 os ∧ wr.ownsRow w.heap.size 82 2 s6 lo.length (cellsF lF lo) ∧ Gr w wr ∧ os ++ endR (ts.drop i) = endR ts ∧ lo ++ loserR (ts.drop i) = loserR ts ∧ os.length ≤ i ∧ lo.length ≤ i
theorem loser_pos : ∀ (ts : List Tx), ∀ x ∈ loserR ts, 0 < x.next
  | [], x, hx => by cases hx
  | t :: r, x, hx => by
    unfold loserR at hx
    split at hx
    · exact loser_pos r x hx
    · split at hx
      · exact loser_pos r x hx
      · rcases List.mem_cons.1 hx with h | h
        · subst h; dsimp only; omega
        · exact loser_pos r x h
theorem UQ_first {ol : Option Addr} {cl : Nat} {l : List Ln} {w : World} {R : List Oc} {n : Nat} (e : Exit) (a' : Act) (w' : World) (h : UQ ol cl l w R n e a' w') : Exit.jump 0 (fun a' w' => ∃ n, UG ol cl l w R n a' w') (bodyPost Try.prog Try.f15 (UndoP w R)) e a' w' := by
  cases e with
  | goto l' =>
    obtain ⟨h1, m, hm, h⟩ := h
    exact ⟨h1, m, h⟩
  | _ => exact h
theorem pass_at (ol : Option Addr) (cl : Nat) (l : List Ln) (w : World) (R : List Oc) (hl : l.length ≤ 1000000) (hL : LAt w ol l) (hbs : ∀ x ∈ l, x.bs.length ≤ 1000000) (n : Nat) (out lov : Value) (wr : World) (lo : List Lo) (os : List Oc) (hJ : UJ ol cl l w R n out lov wr lo os)
    (a : Act) (hd : a.defers = []) (hs : a.tmps.size = 158) (h0 : a.tmps.getD 0 undef = .slice ol l.length cl) (h4 : a.tmps.getD 4 undef = .slice none 0 0) (h5 : a.tmps.getD 5 undef = out) (h6 : a.tmps.getD 6 undef = lov) :
    Code.wp Try.prog restB (UQ ol cl l w R n) a wr := by
  rw [UFrame_of a hd hs h0 h4 h5 h6]
  exact undo_pass ol cl l w R hl hL hbs n _ out lov wr lo os hJ
set_option maxHeartbeats 4000000 in
set_option maxRecDepth 100000 in
theorem undo_any (ol : Option Addr) (cl : Nat) (l : List Ln) (ot : Option Addr) (ct : Nat) (ts : List Tx) (w : World) (hl : l.length ≤ 1000000) (hL : LAt w ol l) (hbs : ∀ x ∈ l, x.bs.length ≤ 1000000) (hts : ts.length ≤ 1000000) (hT : TAt w ot ts) (hmu : loMu (loserR ts) ≤ 100000000) :
    Calls Try.prog 15 #[.slice ol l.length cl, .slice ot ts.length ct] w (UndoP w (undoAll l ts)) := by
  obtain ⟨R, hR⟩ : ∃ R, undoAll l ts = R := ⟨_, rfl⟩
  rw [hR]
  have HR := hid hR
  have HL := hid hL
  have HT := hid hT
  have HB := hid hbs
  have HM := hid hmu
  clear hR hL hT hbs hmu
  have h0 : FRel w ts (.slice none 0 0) (.slice none 0 0) (.int .i64 0) w := ⟨0, [], [], rfl, Nat.zero_le _, OutOk.nil _ _, World.ownsRow_nil _ _ _ _, Gr.refl _, rfl, rfl, Nat.le_refl _, Nat.le_refl _⟩
  go_enter Try.func15, Try.ntmps15
  go_wp2_with fail
  refine scope_ghost 0 (fun n a w' => UG ol cl l w R n a w') find0 ?first ?pass
  case pass =>
    rintro n a wr ⟨f, out, lov, lo, os, rfl, hJ⟩
    rw [rest0]
    exact wp_seq_k (fun _ hK => wp_skip (hK _ _ (undo_pass ol cl l w R hl HL.out HB.out n f out lov wr lo os hJ)))
  case first =>
    go_wp2_with fail
    go_loopw [5, 6, 18] (fun s5 s6 s18 wr => FRel w ts s5 s6 s18 wr) (fun _ _ s18 _ => ts.length - (intOf s18).toNat)
    case atStart => exact h0
    case round =>
      clear h0
      obtain ⟨i, os, lo, rfl, hi, hO, hLo, hg, he, hlo, hb1, hb2⟩ := hrel.ex
      have HO := hid hO
      have HLO := hid hLo
      clear hO hLo hrel
      by_cases hlt : i < ts.length
      · obtain ⟨b, off, rfl, c0, c1, c2⟩ := t_get (HT.out.keep hg) i hlt
        rw [List.drop_eq_getElem_cons hlt, endR] at he
        rw [List.drop_eq_getElem_cons hlt, loserR] at hlo
        have zb := lt_of_cell c0
        have gi1 : decide ((ts.length : Int) ≤ (i : Int)) = false := by rw [decide_eq_false_iff_not]; omega
        have gi2 : (i : Int) < (ts.length : Int) := by omega
        have gi3 : (0 : Int) ≤ (i : Int) := by omega
        generalize ts[i] = t at *
        by_cases q2 : t.st = 2
        · have g2 : (t.st == 2) = true := by simpa using q2
          rw [if_pos q2] at he hlo
          have FI : Hid (∀ W, Gr wr W → FRel w ts u5 u6 (.int .i64 ((i : Int) + 1)) W) := hid (fun W hW => ⟨i + 1, os, lo, by go_num, by omega, HO.out.gr hW, own_keep HLO.out hW, hg.trans hW, he, hlo, by omega, by omega⟩)
          clear q2 he hlo HO HLO
          go_wp2
          exact ⟨FI.out _ ((Gr.refl _).alloc _), by simp [intOf]; omega⟩
        · have g2 : (t.st == 2) = false := by simpa using q2
          rw [if_neg q2] at he hlo
          by_cases q3 : t.last ≤ 0
          · have g3 : decide (t.last ≤ 0) = true := by simpa using q3
            rw [if_pos q3] at he hlo
            obtain ⟨i0, hi0, hz0, hz1, hz2⟩ := info_parts r_info
            obtain ⟨zs, hzs1, hzs2, hzs3⟩ := HO.out.ex
            have hzl : (zs.map fun z : Oc × Option Addr × Nat => zLn z.1 z.2.1 z.2.2).length = os.length := by rw [← hzs1]; simp
            have hwb := hg.size
            have HE := hid he
            have HL2 := hid hlo
            clear he hlo
            go_wp2_with (at_builtin; refine wpList_append_own _ rfl _ _ 50 rfl w.heap.size 32 i0 (.agg #[.int .i64 0, .int .i64 0, .int .i64 0, .int .i64 0, .int .i64 0, .int .i64 0, .slice none 0 0, .slice none 0 0, .slice none 0 0, .slice none 0 0, .int .i64 0]) 11 152 Try.underlying50 hi0 hz0 hz1 hz2 rfl (by decide) _ _ _ rfl ((hzs2.alloc _).alloc _) ⟨wr.heap.size + 1, 0, none⟩ 1 1 (rF (zLn (ocE t.id) none 0)) rfl rfl ?ma1 ?ma2 ?ma3 ?ma4 ?ma5 ?_)
            case ma1 =>
              intro q u hu
              first
              | (rw [addN, Nat.zero_add, show wr.heap.size + 1 = (wr.alloc (Obj.cells #[.int .i64 t.id, .int .i64 t.last, .int .i64 t.st] 53)).heap.size by simp, Rg.blk_cells (heap_alloc_new _ _) q]; simpa [rF, zLn, ocE] using hu)
              | simpa [rF, zLn, ocE] using hu
            case ma2 => exact rE.one _
            case ma3 => first | (rw [hzl]; unfold maxLen; omega) | (unfold maxLen; omega)
            case ma4 => first | (rw [hzl]; omega) | omega
            case ma5 => first | omega | (simp; omega)
            intro v' w7 hown hg7 _
            have G7 : Gz u5 wr w7 := Gz.trans (.of (((Gr.refl wr).alloc _).alloc _)) hg7
            have HO7 : Hid (OutOk w7 w.heap.size v' (os ++ [ocE t.id])) := hid (OutOk.snoc zs hzs1 ((hzs2.alloc _).alloc _) (fun z hz => BOk.gr (hzs3 z hz) (((Gr.refl wr).alloc _).alloc _)) (oa := none) ⟨.inl rfl, fun _ _ _ h => by cases h⟩ (by first | exact hown | (rw [hzl]; exact hown)) hg7)
            have HW7 := hid (HLO.out.kept G7 (own_apart HLO.out hzs2 (by decide)))
            have GU7 := Gz.up hg G7 hzs2
            have FI : Hid (FRel w ts v' u6 (.int .i64 ((i : Int) + 1)) w7) := hid ⟨i + 1, os ++ [ocE t.id], lo, by go_num, by omega, HO7.out, HW7.out, GU7, by rw [List.append_assoc]; exact HE.out, HL2.out, by simp; omega, by omega⟩
            clear hown hg7 hzs1 hzs2 hzs3 hzl G7 HO HLO c0 c1 c2 hi0 hz0 hz1 hz2 HO7 HW7 GU7 HE HL2
            go_wp2
            exact ⟨FI.out, by simp [intOf]; omega⟩
          · have g3 : decide (t.last ≤ 0) = false := by simpa using q3
            rw [if_neg q3] at he hlo
            obtain ⟨i0, hi0, hz0, hz1, hz2⟩ := info_parts l_info
            have hwb := hg.size
            have HE := hid he
            have HL2 := hid hlo
            clear he hlo
            go_wp2_with (at_builtin; refine wpList_append_own _ rfl _ _ 80 rfl w.heap.size 82 i0 (.agg #[.int .i64 0, .int .i64 0]) 2 16 Try.underlying80 hi0 hz0 hz1 hz2 rfl (by decide) _ _ _ rfl ((HLO.out.alloc _).alloc _) ⟨wr.heap.size + 1, 0, none⟩ 1 1 (lF ⟨t.id, t.last⟩) rfl rfl ?mb1 ?mb2 ?mb3 ?mb4 ?mb5 ?_)
            case mb1 =>
              intro q u hu
              first
              | (rw [addN, Nat.zero_add, Rg.blk_cells (heap_alloc_new _ _) q]; simpa [lF] using hu)
              | simpa [lF] using hu
            case mb2 => exact lE.one _
            case mb3 => unfold maxLen; omega
            case mb4 => omega
            case mb5 => first | omega | (simp; omega)
            intro v' w7 hown hg7 _
            have G7 : Gz u6 wr w7 := Gz.trans (.of (((Gr.refl wr).alloc _).alloc _)) hg7
            have HO7 := hid (HO.out.gz G7 HLO.out (by decide) (by decide))
            have GU7 := Gz.up hg G7 HLO.out
            have FI : Hid (FRel w ts u5 v' (.int .i64 ((i : Int) + 1)) w7) := hid ⟨i + 1, os, lo ++ [⟨t.id, t.last⟩], by go_num, by omega, HO7.out, by rw [List.length_append, cellsF_snoc]; exact hown, GU7, HE.out, by rw [List.append_assoc]; exact HL2.out, by omega, by simp; omega⟩
            clear hown hg7 G7 HO HLO c0 c1 c2 hi0 hz0 hz1 hz2 HO7 GU7 HE HL2
            go_wp2
            exact ⟨FI.out, by simp [intOf]; omega⟩
      · obtain rfl : i = ts.length := by omega
        have e1 : os = endR ts := by rw [← he, List.drop_length]; simp [endR]
        have e2 : lo = loserR ts := by rw [← hlo, List.drop_length]; simp [loserR]
        have HJ : Hid (UJ ol cl l w R (loMu lo + 1) u5 u6 wr lo os) := hid ⟨HO.out, HLO.out, by rw [e2]; exact loser_pos ts, Nat.lt_succ_self _, by rw [e1, e2]; exact HR.out, hg, by omega, by have := HM.out; rw [e2]; omega⟩
        clear e1 e2 he hlo HO HLO
        go_wp2
        go_step3
        go_step
        go_step
        exact Code.wp_mono UQ_first (pass_at ol cl l w R hl HL.out HB.out _ u5 u6 wr lo os HJ.out _ rfl rfl rfl rfl rfl rfl)
end Go.Proofs.Ytmanokhadppeeaa

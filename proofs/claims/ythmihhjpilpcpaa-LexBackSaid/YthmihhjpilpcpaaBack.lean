/- LexBack: the walk, every string and every gap. -/
import Derived.Test.YthmihhjpilpcpaaT2
import Derived.Deep.DeepCutAuto
namespace Go.Proofs.Ythmihhjpilpcpaa
open Go.RowKit
set_option linter.unusedVariables false
theorem and_three (x : Int) : ∃ g : Nat, g < 4 ∧ bits .and .i64 x 3 = (g : Int) := by
  have h : (BitVec.ofInt 64 x &&& BitVec.ofInt 64 3).toNat = (BitVec.ofInt 64 x).toNat % 4 := by
    rw [BitVec.toNat_and]
    exact Nat.and_two_pow_sub_one_eq_mod _ 2
  refine ⟨(BitVec.ofInt 64 x).toNat % 4, Nat.mod_lt _ (by omega), ?_⟩
  show IntKind.i64.wrap ((BitVec.ofInt 64 x &&& BitVec.ofInt 64 3).toNat : Int) = _
  rw [h]
  have h4 : (BitVec.ofInt 64 x).toNat % 4 < 4 := Nat.mod_lt _ (by omega)
  generalize (BitVec.ofInt 64 x).toNat % 4 = m at h4 ⊢
  rw [IntKind.wrap_i64]; omega
theorem sep_of (g : Nat) (hg : g < 4) : ∃ sep ∈ seps, ([.string ⟨#[32]⟩, .string ⟨#[9, 10]⟩, .string ⟨#[32, 45, 45, 32, 97, 32, 39, 98, 10]⟩, .string ⟨#[13, 10, 32]⟩] : List Value)[g]'hg = .string (bs sep) := by
  match g, hg with
  | 0, _ => exact ⟨_, .head _, rfl⟩
  | 1, _ => exact ⟨_, .tail _ (.head _), rfl⟩
  | 2, _ => exact ⟨_, .tail _ (.tail _ (.head _)), rfl⟩
  | 3, _ => exact ⟨_, .tail _ (.tail _ (.tail _ (.head _))), rfl⟩
theorem seps_len : ∀ s ∈ seps, s.length ≤ 9 := by decide
theorem tok_in (ts : List Lx.Tok) (e : Lx.Tok) (k : Nat) (hk : k < ts.length) (hk' : k < (ts ++ [e]).length) : (ts ++ [e])[k] = ts[k] := List.getElem_append_left hk
set_option maxHeartbeats 2000000 in
set_option maxRecDepth 100000 in
theorem back_good (s : ByteArray) (gap : Int) (w : World) (hs : s.size ≤ 4096) (l : List Lx.Tok) (h : Lx.lexAll s.data.toList = .good l) : Calls Try.prog 5 #[.string s, .int .i64 gap] w (Yes w) := by
  obtain ⟨ts, p, rfl, hok, hgr, hlen⟩ := lexAll_good _ _ h
  simp only [Array.length_toList, ByteArray.size_data, List.length_append, List.length_singleton] at hlen hok
  have hok' : ∀ t ∈ ts, Lx.TokOK t.tk ∧ t.tk.text.length ≤ 4096 := fun t ht => ⟨(hok t ht).1, Nat.le_trans (hok t ht).2 hs⟩
  clear hok
  obtain ⟨g, hg, hgi⟩ := and_three gap
  obtain ⟨sep, hsep, hse⟩ := sep_of g hg
  go_enter Try.func5, Try.ntmps5
  go_wp2_with fail
  refine (words_good s _ hs _ h).mono ?_
  rintro e w1 ⟨hb1, g1, hg1, rfl, hc1⟩
  have Hc1 := hid hc1; clear hc1
  have Hok := hid hok'; clear hok'
  have Hgr := hid hgr; clear hgr
  have Hsep := hid hsep; clear hsep
  clear h
  simp only [List.length_append, List.length_singleton]
  go_upto_region 5 with (fail)
  clear hse hgi hg
  have hbel1 : Below w1.heap.size w1 (w1.alloc (.cells #[.string ⟨#[32]⟩, .string ⟨#[9, 10]⟩, .string ⟨#[32, 45, 45, 32, 97, 32, 39, 98, 10]⟩, .string ⟨#[13, 10, 32]⟩] 9)) := below_alloc _ _
  generalize w1.alloc _ = W at *
  go_wp2
  go_loopw [9, 10] (fun t i wr => ∃ k : Nat, i = .int .i64 k ∧ k ≤ ts.length ∧ t = .string (bs (written sep (ts.take k))) ∧ Below w1.heap.size w1 wr) (fun _ i _ => ts.length - (intOf i).toNat)
  case atStart => exact ⟨0, rfl, Nat.zero_le _, rfl, hbel1⟩
  case round =>
    obtain ⟨k, rfl, hk, rfl, hbel⟩ := hrel
    by_cases hlt : k < ts.length
    · have hka : k < (ts ++ [(⟨⟨5, [], 0⟩, p⟩ : Lx.Tok)]).length := by simp; omega
      have hte := tok_in ts (⟨⟨5, [], 0⟩, p⟩ : Lx.Tok) k hlt hka
      have hcell := fun i hi u hu => keep_cell (Hc1.out (k * 4 + i) u ((cells_at _ k hka i hi).trans hu)) hbel
      rw [hte] at hcell
      have hcs : (ts.take (k + 1)) = ts.take k ++ [ts[k]] := List.take_succ_eq_append_getElem hlt
      have hws := written_snoc sep (ts.take k) ts[k]
      rw [← hcs] at hws
      have hT := Hok.out ts[k] (List.getElem_mem hlt)
      have hwl := written_len sep (seps_len _ Hsep.out) (ts.take k) (fun t ht => Hok.out t (List.mem_of_mem_take ht))
      rw [List.length_take_of_le hk] at hwl
      have htl := told_len ts[k].tk hT.1 hT.2
      have hsl := seps_len _ Hsep.out
      have a0 : wr.cell? ⟨g1, k * 4, none⟩ = some (.int .i64 (ts[k].tk.kind : Int)) := hcell 0 (by omega) (.int .i64 (ts[k].tk.kind : Int)) rfl
      have a1 := hcell 1 (by omega) (.string ⟨ts[k].tk.text.toArray⟩) rfl
      have a2 := hcell 2 (by omega) (.int .i64 (ts[k].tk.num : Int)) rfl
      have a3 := hcell 3 (by omega) (.int .i64 (ts[k].pos : Int)) rfl
      have htold := told_any ts[k].tk hT.1 hT.2 (ts[k].pos : Int)
      have tneg : decide ((ts[k].tk.num : Int) < 0) = false := by simp
      clear hcell hcs hT hte hka
      unfold tkCells at htold
      generalize Lx.toldL ts[k].tk = tl at *
      generalize (ts[k].tk.kind : Int) = x0 at *
      generalize ts[k].tk.text = x1 at *
      generalize (ts[k].tk.num : Int) = x2 at *
      generalize (ts[k].pos : Int) = x3 at *
      generalize written sep (ts.take k) = wk at *
      generalize hw1 : written sep (ts.take (k + 1)) = wk1 at *
      have Hw1 := hid hw1; clear hw1
      have had1 := fun W => run_add_bs W wk tl (by omega)
      have had2 := fun W => run_add_bs W (wk ++ tl) sep (by simp; omega)
      rw [← hws] at had2
      clear hws
      cases h2 : (x0 == 2) with
      | true =>
        go_wp2_with fail
        refine (htold _).mono ?_
        rintro e w2 ⟨rfl, hb2⟩
        have hbel2 := hbel.trans (hb2.mono hbel.size)
        clear hb2 hbel a0 a1 a2 a3 htold
        go_wp2
        go_roundw
        case rel => exact ⟨k + 1, by go_num, by omega, by rw [Hw1.out], hbel2⟩
        case measure => simp [intOf]; omega
      | false =>
        go_wp2_with fail
        refine (htold _).mono ?_
        rintro e w2 ⟨rfl, hb2⟩
        have hbel2 := hbel.trans (hb2.mono hbel.size)
        clear hb2 hbel a0 a1 a2 a3 htold
        go_wp2
        go_roundw
        case rel => exact ⟨k + 1, by go_num, by omega, by rw [Hw1.out], hbel2⟩
        case measure => simp [intOf]; omega
    · have hkn : k = ts.length := by omega
      subst hkn
      rw [List.take_length]
      clear hlt hk
      have hlw := lex_written sep (seps_ok _ Hsep.out) ts (fun t ht => (Hok.out t ht).1)
      have hwl := written_len sep (seps_len _ Hsep.out) ts Hok.out
      obtain ⟨q, hlw⟩ : ∃ q, Lx.lexAll (written sep ts) = .good (placed sep 0 ts ++ [⟨⟨5, [], 0⟩, q⟩]) := ⟨_, hlw⟩
      have hml := placed_len sep ts 0
      have hmt := placed_tk sep ts 0
      clear Hsep Hok
      generalize written sep ts = T at *
      generalize placed sep 0 ts = ms at *
      have hTs := bs_size T
      generalize ht : bs T = t at *
      by_cases hT : T.length ≤ 4096
      · have hlt : t.data.toList = T := by rw [← ht, bs_list]
        rw [← hlt] at hlw
        have Hlw := hid hlw
        clear hlt ht hlw
        have tlong : decide ((4096 : Int) < (t.size : Int)) = false := by simp; omega
        go_wp2_with fail
        refine (words_good t _ (by omega) _ Hlw.out).mono ?_
        rintro e w3 ⟨hb3, g3, hg3, rfl, hc3⟩
        have Hc3 := hid hc3; clear hc3
        simp only [List.length_append, List.length_singleton, hml]
        go_upto_region 18 with (fail)
        have hb13 : Below w1.heap.size w1 w3 := hbel.trans (hb3.mono hbel.size)
        have hbw3 : Below w.heap.size w w3 := hb1.trans (hb13.mono hb1.size)
        clear hb3 hbel hbel1 hb1 tlong hTs hwl hT
        go_loopw [14] (fun i wr => ∃ k : Nat, i = .int .i64 k ∧ k ≤ ts.length + 1 ∧ ∃ n, wr = w3.drewN n) (fun i _ => ts.length + 1 - (intOf i).toNat)
        case atStart => exact ⟨0, rfl, Nat.zero_le _, 0, rfl⟩
        case round =>
          obtain ⟨k, rfl, hk, n, rfl⟩ := hrel
          by_cases hlt : k < ts.length + 1
          · have hka : k < (ts ++ [(⟨⟨5, [], 0⟩, p⟩ : Lx.Tok)]).length := by simp; omega
            have hkb : k < (ms ++ [(⟨⟨5, [], 0⟩, q⟩ : Lx.Tok)]).length := by simp; omega
            have hsame : (ms ++ [(⟨⟨5, [], 0⟩, q⟩ : Lx.Tok)])[k].tk = (ts ++ [(⟨⟨5, [], 0⟩, p⟩ : Lx.Tok)])[k].tk := by
              by_cases h : k < ts.length
              · rw [tok_in ts _ k h, tok_in ms _ k (by omega)]; exact hmt k h (by omega)
              · have e : k = ts.length := by omega
                subst e
                rw [List.getElem_append_right (by omega), List.getElem_append_right (by omega)]
                simp [hml]
            have hl := fun i hi u hu => keep_cell (Hc1.out (k * 4 + i) u ((cells_at _ k hka i hi).trans hu)) hb13
            have hm := fun i hi u hu => (Hc3.out (k * 4 + i) u ((cells_at _ k hkb i hi).trans hu))
            rw [hsame] at hm
            have hpos : ∀ j, k = j + 1 → k < ts.length → ∀ h1 h2, ¬ (((ts ++ [(⟨⟨5, [], 0⟩, p⟩ : Lx.Tok)])[k]'h1).pos : Int) ≤ (((ts ++ [(⟨⟨5, [], 0⟩, p⟩ : Lx.Tok)])[j]'h2).pos : Int) := by
              intro j e h h1 h2
              subst e
              rw [tok_in ts _ (j + 1) h, tok_in ts _ j (by omega)]
              have := Hgr.out.lt j h
              omega
            have hend : ¬ k < ts.length → ((ts ++ [(⟨⟨5, [], 0⟩, p⟩ : Lx.Tok)])[k]'hka).tk.kind = 5 := by
              intro h
              have e : k = ts.length := by omega
              subst e
              rw [List.getElem_append_right (by omega)]
              simp
            have a0 : w3.cell? ⟨g1, k * 4, none⟩ = some (.int .i64 ((ts ++ [(⟨⟨5, [], 0⟩, p⟩ : Lx.Tok)])[k].tk.kind : Int)) := hl 0 (by omega) _ rfl
            have a1 : w3.cell? ⟨g1, k * 4 + 1, none⟩ = some (.string ⟨(ts ++ [(⟨⟨5, [], 0⟩, p⟩ : Lx.Tok)])[k].tk.text.toArray⟩) := hl 1 (by omega) _ rfl
            have a2 : w3.cell? ⟨g1, k * 4 + 2, none⟩ = some (.int .i64 ((ts ++ [(⟨⟨5, [], 0⟩, p⟩ : Lx.Tok)])[k].tk.num : Int)) := hl 2 (by omega) _ rfl
            have a3 : w3.cell? ⟨g1, k * 4 + 3, none⟩ = some (.int .i64 ((ts ++ [(⟨⟨5, [], 0⟩, p⟩ : Lx.Tok)])[k].pos : Int)) := hl 3 (by omega) _ rfl
            have b0 : w3.cell? ⟨g3, k * 4, none⟩ = some (.int .i64 ((ts ++ [(⟨⟨5, [], 0⟩, p⟩ : Lx.Tok)])[k].tk.kind : Int)) := hm 0 (by omega) _ rfl
            have b1 : w3.cell? ⟨g3, k * 4 + 1, none⟩ = some (.string ⟨(ts ++ [(⟨⟨5, [], 0⟩, p⟩ : Lx.Tok)])[k].tk.text.toArray⟩) := hm 1 (by omega) _ rfl
            have b2 : w3.cell? ⟨g3, k * 4 + 2, none⟩ = some (.int .i64 ((ts ++ [(⟨⟨5, [], 0⟩, p⟩ : Lx.Tok)])[k].tk.num : Int)) := hm 2 (by omega) _ rfl
            have b3 : w3.cell? ⟨g3, k * 4 + 3, none⟩ = some (.int .i64 ((ms ++ [(⟨⟨5, [], 0⟩, q⟩ : Lx.Tok)])[k].pos : Int)) := hm 3 (by omega) _ rfl
            clear hl hm hsame
            generalize (ms ++ [(⟨⟨5, [], 0⟩, q⟩ : Lx.Tok)])[k].pos = y3 at *
            cases k with
            | zero =>
              clear hpos hend hlt hk
              generalize ((ts ++ [(⟨⟨5, [], 0⟩, p⟩ : Lx.Tok)])[0].tk.kind : Int) = x0 at *
              generalize (ts ++ [(⟨⟨5, [], 0⟩, p⟩ : Lx.Tok)])[0].tk.text = x1 at *
              generalize ((ts ++ [(⟨⟨5, [], 0⟩, p⟩ : Lx.Tok)])[0].tk.num : Int) = x2 at *
              generalize ((ts ++ [(⟨⟨5, [], 0⟩, p⟩ : Lx.Tok)])[0].pos : Int) = x3 at *
              simp only [Nat.zero_mul, Nat.zero_add] at a0 a1 a2 a3 b0 b1 b2 b3
              go_wp2_with fail
              go_quiet (fail)
              go_wp2
              go_roundw
              case rel => exact ⟨1, by go_num, by omega, _, rfl⟩
              case measure => simp [intOf]
            | succ j =>
              have hja : j < (ts ++ [(⟨⟨5, [], 0⟩, p⟩ : Lx.Tok)]).length := by omega
              have c3 : w3.cell? ⟨g1, j * 4 + 3, none⟩ = some (.int .i64 ((ts ++ [(⟨⟨5, [], 0⟩, p⟩ : Lx.Tok)])[j].pos : Int)) := keep_cell (Hc1.out (j * 4 + 3) _ (cells_at _ j hja 3 (by omega))) hb13
              have hp := fun h => hpos j rfl h hka hja
              clear hpos
              generalize (ts ++ [(⟨⟨5, [], 0⟩, p⟩ : Lx.Tok)])[j + 1].tk.kind = x0 at *
              generalize (ts ++ [(⟨⟨5, [], 0⟩, p⟩ : Lx.Tok)])[j + 1].tk.text = x1 at *
              generalize ((ts ++ [(⟨⟨5, [], 0⟩, p⟩ : Lx.Tok)])[j + 1].tk.num : Int) = x2 at *
              generalize ((ts ++ [(⟨⟨5, [], 0⟩, p⟩ : Lx.Tok)])[j + 1].pos : Int) = x3 at *
              generalize ((ts ++ [(⟨⟨5, [], 0⟩, p⟩ : Lx.Tok)])[j].pos : Int) = xp at *
              have hje := hid hend; have hjp := hid hp
              clear hend hp
              have tj : decide ((0 : Int) < (j : Int) + 1) = true := by rw [decide_eq_true_eq]; omega
              by_cases hjt : j + 1 < ts.length
              · have tle : decide (x3 ≤ xp) = false := by simpa using hjp.out hjt
                clear hje hjp
                go_wp2_with fail
                go_quiet (fail)
                go_wp2
                go_roundw
                case rel => exact ⟨j + 2, by go_num, by omega, _, rfl⟩
                case measure => simp [intOf]; omega
              · have hx : x0 = 5 := hje.out hjt
                subst hx
                clear hje hjp
                cases tle : decide (x3 ≤ xp) with
                | false =>
                  go_wp2_with fail
                  go_quiet (fail)
                  go_wp2
                  go_roundw
                  case rel => exact ⟨j + 2, by go_num, by omega, _, rfl⟩
                  case measure => simp [intOf]; omega
                | true =>
                  go_wp2_with fail
                  go_quiet (fail)
                  go_wp2
                  go_roundw
                  case rel => exact ⟨j + 2, by go_num, by omega, _, rfl⟩
                  case measure => simp [intOf]; omega
          · have hkl : k = ts.length + 1 := by omega
            subst hkl
            clear hlt hk
            have tend : decide (((ts.length + 1 : Nat) : Int) < ((ts.length + 1 : Nat) : Int)) = false := by simp
            generalize ts.length + 1 = N at *
            go_wp2_with fail
            refine (awake_any _).mono ?_
            rintro e w4 ⟨rfl, hb4⟩
            have hb5 := below_drewN hbw3 n
            have hbel4 := hb5.trans (hb4.mono hb5.size)
            go_wp2
            go_ret
            exact ⟨rfl, hbel4⟩
      · have tlong : decide ((4096 : Int) < (t.size : Int)) = true := by simp; omega
        clear ht hlw
        go_wp2_with fail
        refine (awake_any _).mono ?_
        rintro e w4 ⟨rfl, hb4⟩
        have hbel4 := hb1.trans ((hbel.trans (hb4.mono hbel.size)).mono hb1.size)
        go_wp2
        go_ret
        exact ⟨rfl, hbel4⟩
set_option maxHeartbeats 1000000 in
set_option maxRecDepth 100000 in
theorem back_bad (s : ByteArray) (gap : Int) (w : World) (hs : s.size ≤ 4096) (p : Nat) (h : Lx.lexAll s.data.toList = .bad p) : Calls Try.prog 5 #[.string s, .int .i64 gap] w (Yes w) := by
  go_enter Try.func5, Try.ntmps5
  go_wp2_with fail
  refine (words_bad s _ hs p h).mono ?_
  rintro e w1 ⟨rfl, hb1⟩
  go_wp2_with fail
  refine (awake_any _).mono ?_
  rintro e w4 ⟨rfl, hb4⟩
  have hbel4 := hb1.trans (hb4.mono hb1.size)
  go_wp2
  go_ret
  exact ⟨rfl, hbel4⟩
set_option maxHeartbeats 1000000 in
set_option maxRecDepth 100000 in
theorem back_long (s : ByteArray) (gap : Int) (w : World) (hs : 4096 < s.size) (hm : s.size ≤ maxLen) : Calls Try.prog 5 #[.string s, .int .i64 gap] w (Yes w) := by
  go_enter Try.func5, Try.ntmps5
  go_wp2_with fail
  refine (words_long s _ hs hm).mono ?_
  rintro e w1 ⟨rfl, hb1⟩
  go_wp2_with fail
  refine (awake_any _).mono ?_
  rintro e w4 ⟨rfl, hb4⟩
  have hbel4 := hb1.trans (hb4.mono hb1.size)
  go_wp2
  go_ret
  exact ⟨rfl, hbel4⟩
theorem back_any (s : ByteArray) (gap : Int) (w : World) (hm : s.size ≤ maxLen) : Calls Try.prog 5 #[.string s, .int .i64 gap] w (Yes w) := by
  by_cases hs : s.size ≤ 4096
  · cases h : Lx.lexAll s.data.toList with
    | good l => exact back_good s gap w hs l h
    | bad p => exact back_bad s gap w hs p h
  · exact back_long s gap w (by omega) hm
end Go.Proofs.Ythmihhjpilpcpaa

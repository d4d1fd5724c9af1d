/- row: rows as they are told. -/
import Derived.Test.YtacbhkmkknicoaaDoorSp
import Derived.Test.YtacbhkmkknicoaaDoorShelf
namespace Go.Proofs.YtacbhkmkknicoaaDoor
open Go.RowKit
set_option linter.unusedSimpArgs false
set_option linter.unusedVariables false
attribute [local go_sem] Rg.leads_value Rg.leads_skip Rg.leads_enter Rg.brings_value Rg.brings_skip Rg.brings_enter Rg.bringsG_value Rg.bringsG_enter
def repT (s : ByteArray) : ByteArray := ⟨(Lib.replaceAll s.data.toList [39] [39, 39]).toArray⟩
/-- a value as a statement writes it; a number below 100 -/
def valT (v : V) : ByteArray := if v.t = 1 then ⟨(Lib.decDigits v.n.toNat).toArray⟩ else if v.t = 2 then ⟨#[39]⟩ ++ repT v.s ++ ⟨#[39]⟩ else if v.t = 3 then (if v.b then ⟨#[84, 82, 85, 69]⟩ else ⟨#[70, 65, 76, 83, 69]⟩) else ⟨#[78, 85, 76, 76]⟩
structure TOk (v : V) : Prop where
  n : v.t = 1 → ∃ i : Nat, v.n = (i : Int) ∧ i < 100
  s : v.s.size < 4294967281
  r : v.s.size + Lib.countB v.s ⟨#[39]⟩ * 2 ≤ 140737488355328
  z : (repT v.s).size ≤ 140737488355328
set_option maxHeartbeats 4000000 in
set_option maxRecDepth 100000 in
theorem valT_any (v : V) (m : Int) (w : World) (hv : TOk v) (hm : w.cell? ⟨0, 0, none⟩ = some (.int .i64 m)) : Calls Tryd.prog 53 #[v.val] w fun e w' => e = .returned (.string (valT v)) ∧ Gr w w' := by
  obtain ⟨t, n, s, b⟩ := v
  obtain ⟨h1, h2, h3, h4⟩ := hv
  simp only at h1 h2 h3 h4
  unfold valT V.val
  simp only
  by_cases e1 : t = 1
  · subst e1
    obtain ⟨i, rfl, hi⟩ := h1 rfl
    rw [if_pos rfl, Int.toNat_natCast]
    have C := fun W => Tryd.strconv_Itoa_small i hi W
    generalize (⟨(Lib.decDigits i).toArray⟩ : ByteArray) = S at *
    clear h1 h2 h3
    go_enter Tryd.func53, Tryd.ntmps53
    go_wp2_with fail
    refine (C _).mono ?_
    rintro e w1 ⟨rfl, rfl⟩
    go_wp2
    go_ret
    exact ⟨rfl, (Gr.refl _).alloc _⟩
  · rw [if_neg e1]
    have q1 : (t == 1) = false := by simpa using e1
    by_cases e2 : t = 2
    · subst e2
      rw [if_pos rfl]
      have C := fun W (hW : Gr w W) => Tryd.strings_ReplaceAll s ⟨#[39]⟩ ⟨#[39, 39]⟩ m W h2 (hW.keep hm) (by decide) h3
      have C2 : ∀ W, Gr w W → Calls Tryd.prog 69 #[.string s, .string ⟨#[39]⟩, .string ⟨#[39, 39]⟩] W fun e w' => e = .returned (.string (repT s)) ∧ Gr W w' := C
      generalize repT s = S at *
      have k1 : ¬ 9223372036854775807 < 1 + S.size := by omega
      have k2 : ¬ 9223372036854775807 < 1 + S.size + 1 := by omega
      clear h1 h2 h3 h4 C e1 q1
      go_enter Tryd.func53, Tryd.ntmps53
      go_wp2_with fail
      refine (C2 _ ((Gr.refl _).alloc _)).mono ?_
      rintro e w1 ⟨rfl, hg1⟩
      have hg2 := hg1.own
      clear C2 hg1
      go_wp2
      go_ret
      exact ⟨rfl, hg2⟩
    · rw [if_neg e2]
      have q2 : (t == 2) = false := by simpa using e2
      by_cases e3 : t = 3
      · subst e3
        rw [if_pos rfl]
        clear h1 h2 h3 e1 e2
        cases b
        · go_enter Tryd.func53, Tryd.ntmps53
          go_wp2
          go_ret
          exact ⟨rfl, (Gr.refl _).alloc _⟩
        · go_enter Tryd.func53, Tryd.ntmps53
          go_wp2
          go_ret
          exact ⟨rfl, (Gr.refl _).alloc _⟩
      · rw [if_neg e3]
        have q3 : (t == 3) = false := by simpa using e3
        clear h1 h2 h3 e1 e2 e3
        go_enter Tryd.func53, Tryd.ntmps53
        go_wp2
        go_ret
        exact ⟨rfl, (Gr.refl _).alloc _⟩
def sF (x : ByteArray) : List Value := [.string x]
theorem sE : Enc sF 1 := ⟨fun _ => rfl, fun x u hu => by simp [sF] at hu; subst hu; rfl, by omega⟩
theorem s_info : (Tryd.prog.info? 9).map (fun i => (i.zero, i.size, i.bytes)) = some (some (.string ⟨#[]⟩), 1, 16) := by kernel_rfl
def rowT (l : List V) : ByteArray := ⟨(Lib.join (l.map fun v => (valT v).data.toList) [44, 32]).toArray⟩
def RtRel (w : World) (l : List V) (s3 s8 : Value) (wr : World) : Prop := ∃ k : Nat, s8 = .int .i64 (k : Int) ∧ k ≤ l.length ∧ wr.ownsRow w.heap.size 9 1 s3 ((l.take k).map valT).length (cellsF sF ((l.take k).map valT)) ∧ Gr w wr
set_option maxHeartbeats 4000000 in
set_option maxRecDepth 100000 in
theorem rowT_any (oa : Option Addr) (c : Nat) (l : List V) (m : Int) (w : World) (hl : l.length ≤ 1000000) (hp : VAt w oa l) (hv : ∀ v ∈ l, TOk v) (hm : w.cell? ⟨0, 0, none⟩ = some (.int .i64 m)) (hj : (Lib.join (l.map fun v => (valT v).data.toList) [44, 32]).length ≤ 140737488355328) :
    Calls Tryd.prog 24 #[.slice oa l.length c] w fun e w' => e = .returned (.string (rowT l)) ∧ Gr w w' := by
  obtain ⟨R, hR⟩ : ∃ R, rowT l = R := ⟨_, rfl⟩
  rw [hR]
  have HR := hid hR
  have HP := hid hp
  have HV := hid hv
  have HM := hid hm
  have HJ := hid hj
  clear hp hv hm hj hR
  go_enter Tryd.func24, Tryd.ntmps24
  have S0 : Hid (RtRel w l (.slice none 0 0) (.int .i64 0) w) := hid ⟨0, rfl, Nat.zero_le _, World.ownsRow_nil _ _ _ _, Gr.refl _⟩
  go_wp2_with fail
  go_loopw [3, 8] (fun s3 s8 wr => RtRel w l s3 s8 wr) (fun _ s8 _ => l.length - (intOf s8).toNat)
  case atStart => exact S0.out
  case round =>
    clear S0
    obtain ⟨k, rfl, hk, hrow, hg⟩ := hrel
    have HRW := hid hrow
    clear hrow
    by_cases hlt : k < l.length
    · obtain ⟨b, off, rfl, c0, c1, c2, c3⟩ := v_get (HP.out.keep hg) k hlt
      have hbb := lt_of_cell c0
      have hvk := HV.out _ (List.getElem_mem hlt)
      have HT : Hid ((l.take (k + 1)).map valT = (l.take k).map valT ++ [valT l[k]]) := hid (by rw [List.take_add_one, List.getElem?_eq_getElem hlt, List.map_append]; rfl)
      have hlk : ((l.take k).map valT).length ≤ 1000000 := by simp; omega
      generalize l[k] = v at *
      have TX := fun W (hW : Gr w W) => valT_any v m W hvk (hW.keep HM.out)
      unfold V.val at TX
      have HTX := hid TX
      have g1 : decide ((l.length : Int) ≤ (k : Int)) = false := by rw [decide_eq_false_iff_not]; omega
      have g2 : (k : Int) < (l.length : Int) := by omega
      have g3 : (0 : Int) ≤ (k : Int) := by omega
      obtain ⟨P, hP⟩ : ∃ P, (l.take k).map valT = P := ⟨_, rfl⟩
      rw [hP] at HRW HT hlk
      obtain ⟨X, hX⟩ : ∃ X, valT v = X := ⟨_, rfl⟩
      rw [hX] at HT HTX
      clear hP hX hvk TX
      go_wp2_with fail
      refine (HTX.out _ (hg.trans ((Gr.refl _).alloc _))).mono ?_
      rintro e w1 ⟨rfl, hg1⟩
      have hG1 := hg.trans (((Gr.refl wr).alloc _).trans hg1)
      have HR1 := hid (own_keep HRW.out (((Gr.refl wr).alloc _).trans hg1))
      have hwb := hG1.size
      obtain ⟨i0, hi0, hz0, hz1, hz2⟩ := info_parts s_info
      clear hg1 HTX HRW
      go_wp2_with (at_builtin; refine wpList_append_own _ rfl _ _ 88 rfl w.heap.size 9 i0 (.string ⟨#[]⟩) 1 16 Tryd.underlying88 hi0 hz0 hz1 hz2 rfl (by decide) _ _ _ rfl (HR1.out.alloc _) ⟨w1.heap.size, 0, none⟩ 1 1 (sF X) rfl rfl ?ma1 ?ma2 ?ma3 ?ma4 ?ma5 ?_)
      case ma1 =>
        intro q u hu
        rw [addN, Nat.zero_add, Rg.blk_cells (heap_alloc_new _ _) q]
        simpa [sF] using hu
      case ma2 => exact sE.one _
      case ma3 => unfold maxLen; omega
      case ma4 => omega
      case ma5 => first | omega | (simp; omega)
      intro v1 w3 hown hg8 _
      have FI : Hid (RtRel w l v1 (.int .i64 ((k : Int) + 1)) w3) := hid ⟨k + 1, by go_num, by omega, by rw [HT.out, List.length_append, cellsF_snoc]; exact hown, Gz.up (hG1.trans ((Gr.refl _).alloc _)) hg8 (HR1.out.alloc _)⟩
      clear hown hg8 HR1 hG1 HT
      go_wp2
      exact ⟨FI.out, by simp [intOf]; omega⟩
    · obtain rfl : k = l.length := by omega
      have g1 : decide ((l.length : Int) ≤ (l.length : Int)) = true := by rw [decide_eq_true_iff]; omega
      rw [List.take_length] at HRW
      obtain ⟨ox, cx, rfl, hxat, hx0⟩ := own_at0 sE HRW.out
      have hcap := own_cap HRW.out rfl
      have hll : (l.map valT).length = l.length := by simp
      have JN : Hid (Calls Tryd.prog 54 #[.slice ox (l.map valT).length cx, .string ⟨#[44, 32]⟩] wr fun e w' => e = .returned (.string R) ∧ Gr wr w') := hid (by
        rw [← HR.out]
        rcases hxat with h | ⟨bx, offx, rfl, hbx, hxr⟩
        · have hl0 : l = [] := by simpa using h
          subst hl0
          exact (Tryd.strings_Join_none ox cx ⟨#[44, 32]⟩ wr).mono fun e w' ⟨h1, h2⟩ => ⟨h1, h2 ▸ Gr.refl _⟩
        · have := Tryd.strings_Join bx offx cx (l.map valT) ⟨#[44, 32]⟩ wr (fun j x hx => by
            obtain ⟨hj, rfl⟩ := List.getElem?_eq_some_iff.1 hx
            have := hxr j hj 0 (.string (l.map valT)[j]) (by simp [sF])
            simpa using this) hbx (by omega) hcap (by rw [List.map_map]; exact HJ.out)
          refine this.mono fun e w' ⟨h1, h2⟩ => ⟨?_, h2⟩
          rw [h1, List.map_map]
          rfl)
      have hll2 := hid hll
      obtain ⟨nn, hnn⟩ : ∃ nn, (l.map valT).length = nn := ⟨_, rfl⟩
      rw [hnn] at JN hcap
      rw [hnn]
      clear hll hxat HRW HP HV HJ hnn hcap
      go_wp2_with fail
      refine JN.out.mono ?_
      rintro e w1 ⟨rfl, hg1⟩
      go_wp2
      go_ret
      exact ⟨rfl, hg.trans hg1⟩
end Go.Proofs.YtacbhkmkknicoaaDoor

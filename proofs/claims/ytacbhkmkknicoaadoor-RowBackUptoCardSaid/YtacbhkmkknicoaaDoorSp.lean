/- row: the values that bytes say. -/
import Derived.Test.YtacbhkmkknicoaaDoorD1
namespace Go.Proofs.YtacbhkmkknicoaaDoor
open Go.RowKit
set_option linter.unusedSimpArgs false
set_option linter.unusedVariables false
attribute [local go_sem] Rg.leads_value Rg.leads_skip Rg.leads_enter Rg.brings_value Rg.brings_skip Rg.brings_enter Rg.bringsG_value Rg.bringsG_enter
def splitN : Nat → List Int → Option (List V)
  | 0, _ => some []
  | f + 1, l => if l = [] then some [] else match decV l with
    | none => none
    | some p => (splitN f (l.drop p.2)).map (p.1 :: ·)
def splitV (l : List Int) : Option (List V) := splitN l.length l
theorem decV_n {l : List Int} {v : V} {n : Nat} (h : decV l = some (v, n)) : 1 ≤ n ∧ n ≤ l.length := by
  match l with
  | [] => cases h
  | y :: r =>
    simp only [decV] at h
    split at h
    · cases h; simp
    · split at h
      · split at h
        · cases h; simp; omega
        · cases h
      · split at h
        · cases ht : txt r with
          | none => rw [ht] at h; cases h
          | some p =>
            rw [ht] at h
            have := txt_le ht
            simp at h
            obtain ⟨_, rfl⟩ := h
            simp; omega
        · split at h
          · match r with
            | [] => cases h
            | c :: r' =>
              simp only at h
              split at h
              · cases h; simp
              · cases h
          · cases h
theorem splitN_fuel : ∀ (f g : Nat) (l : List Int), l.length ≤ f → l.length ≤ g → splitN f l = splitN g l
  | 0, 0, _, _, _ => rfl
  | 0, g + 1, l, h, _ => by
    have : l = [] := List.eq_nil_of_length_eq_zero (by omega)
    subst this; simp [splitN]
  | f + 1, 0, l, _, h => by
    have : l = [] := List.eq_nil_of_length_eq_zero (by omega)
    subst this; simp [splitN]
  | f + 1, g + 1, l, h1, h2 => by
    unfold splitN
    split
    · rfl
    · cases hd : decV l with
      | none => rfl
      | some p =>
        obtain ⟨v, n⟩ := p
        have := decV_n hd
        simp only
        rw [splitN_fuel f g (l.drop n) (by simp; omega) (by simp; omega)]
theorem splitV_cons {l : List Int} (h : l ≠ []) : splitV l = match decV l with
    | none => none
    | some p => (splitV (l.drop p.2)).map (p.1 :: ·) := by
  unfold splitV
  cases hl : l.length with
  | zero => exact absurd (List.eq_nil_of_length_eq_zero hl) h
  | succ f =>
    rw [splitN, if_neg h]
    cases hd : decV l with
    | none => rfl
    | some p =>
      obtain ⟨v, n⟩ := p
      have := decV_n hd
      simp only
      rw [splitN_fuel f _ (l.drop n) (by simp; omega) (Nat.le_refl _)]
def lenOf : Value → Nat
  | .slice _ n _ => n
  | _ => 0
/-- the values that bytes say come back -/
def SpP (w : World) (R : Option (List V)) (e : Ending) (w' : World) : Prop := Gr w w' ∧ match R with
  | none => e = .returned (.tuple #[.slice none 0 0, .bool false])
  | some vs => ∃ oa, e = .returned (.tuple #[.slice oa vs.length vs.length, .bool true]) ∧ VAt w' oa vs
theorem splitV_nil : splitV [] = some [] := rfl
theorem byte_drop {l : List Int} (h : byteI l) (n : Nat) : byteI (l.drop n) := fun x hx => h x (List.mem_of_mem_drop hx)
theorem bat_drop {w : World} {b off : Nat} {l : List Int} (h : BAt w (some ⟨b, off, none⟩) l) (n : Nat) : BAt w (some ⟨b, off + n, none⟩) (l.drop n) := by
  by_cases hl : n < l.length
  · obtain ⟨b', off', e', hb, hc⟩ := AtF.get h n hl
    cases e'
    refine .inr ⟨b, off + n, rfl, hb, fun k hk j u hu => ?_⟩
    have hk' : n + k < l.length := by simp at hk; omega
    obtain ⟨b'', off'', e'', _, hc2⟩ := AtF.get h (n + k) hk'
    cases e''
    have hu2 : (bF l[n + k])[j]? = some u := by simpa using hu
    have := hc2 j u hu2
    rw [show off + n + k * 1 + j = off + (n + k) * 1 + j by omega]
    exact this
  · exact .inl (List.drop_eq_nil_of_le (by omega))
def SpRel (w : World) (n0 : Nat) (R : Option (List V)) (s0 s4 : Value) (wr : World) : Prop := ∃ (m : List Int) (ob : Option Addr) (cb : Nat) (acc : List V), s0 = .slice ob m.length cb ∧ m.length ≤ cb ∧ BAt w ob m ∧ byteI m ∧ acc.length + m.length ≤ n0 ∧
  wr.ownsRow w.heap.size 32 4 s4 acc.length (cellsF vF acc) ∧ R = (splitV m).map (acc ++ ·) ∧ Gr w wr
set_option maxHeartbeats 8000000 in
set_option maxRecDepth 100000 in
theorem split_any (ol : Option Addr) (cl : Nat) (l : List Int) (w : World) (hc : l.length ≤ cl) (hp : BAt w ol l) (hb : byteI l) (hl : l.length ≤ 1000000000000) : Calls Tryd.prog 31 #[.slice ol l.length cl] w (SpP w (splitV l)) := by
  obtain ⟨R, hR⟩ : ∃ R, splitV l = R := ⟨_, rfl⟩
  rw [hR]
  have S0 : Hid (SpRel w l.length R (.slice ol l.length cl) (.slice none 0 0) w) := hid ⟨l, ol, cl, [], rfl, hc, hp, hb, by simp, World.ownsRow_nil _ _ _ _, by rw [hR]; cases R <;> simp, Gr.refl _⟩
  clear hR hp hb hc
  go_enter Tryd.func31, Tryd.ntmps31
  go_wp2_with fail
  go_loopw [0, 4] (fun s0 s4 wr => SpRel w l.length R s0 s4 wr) (fun s0 _ _ => lenOf s0)
  case atStart => exact S0.out
  case round =>
    clear S0
    obtain ⟨m, ob, cb, acc, rfl, hmc, hmat, hmb, hlen, hrow, hR, hg⟩ := hrel
    have HMAT := hid hmat
    have HMB := hid hmb
    have HRW := hid hrow
    have HR := hid hR
    clear hmat hmb hrow hR
    by_cases hm : m = []
    · have HR2 : Hid (R = some acc) := hid (by rw [HR.out, hm, splitV_nil]; simp)
      have hm0 : m.length = 0 := by rw [hm]; rfl
      obtain ⟨ox, cx, rfl, hxat, hx0⟩ := own_at0 vE HRW.out
      have hcap := own_cap HRW.out rfl
      have HX := hid hxat
      rw [hm0]
      have FI : Hid (∀ oa, VAt wr oa acc → SpP w R (.returned (.tuple #[.slice oa acc.length acc.length, .bool true])) wr) := hid (fun oa h => ⟨hg, by rw [HR2.out]; exact ⟨oa, rfl, h⟩⟩)
      clear hm HR HR2 HRW HMAT HMB hxat hm0 hlen hmc
      have q1 : decide ((acc.length : Int) ≤ (cx : Int)) = true := by rw [decide_eq_true_iff]; omega
      have q2 : (0 : Int) ≤ (acc.length : Int) := by omega
      have q3 : (acc.length : Int) ≤ (cx : Int) := by omega
      cases ox with
      | none =>
        have h0 := hx0 rfl
        have hr : acc.length = 0 := by omega
        have hR0 : acc = [] := List.eq_nil_of_length_eq_zero hr
        subst h0
        have FJ := hid (FI.out none (.inl hR0))
        rw [hr] at FJ ⊢
        clear hr q1 q2 q3 hcap FI hR0 HX hx0
        go_wp2
        first | exact FJ.out | refine bodyPost_ret (by simp [results, Tryd.results31, go_sem]; try rfl) rfl FJ.out
      | some a =>
        have FJ := hid (FI.out (some a) HX.out)
        clear FI HX hx0
        go_wp2
        first | exact FJ.out | refine bodyPost_ret (by simp [results, Tryd.results31, go_sem]; try rfl) rfl FJ.out
    · have HRC := hid (splitV_cons hm)
      have hml : 0 < m.length := List.length_pos_iff.2 hm
      have DE := hid (dec_any ob cb m wr hmc (HMAT.out.keep hg) HMB.out (by omega))
      have hne := hm
      obtain ⟨bo, off, rfl, hbo, -⟩ := AtF.get HMAT.out 0 hml
      have g1 : decide ((0 : Int) < (m.length : Int)) = true := by rw [decide_eq_true_iff]; omega
      have g2 : decide (0 < m.length) = true := by rw [decide_eq_true_iff]; omega
      have HNE := hid hne
      clear hne hm
      obtain ⟨q, hq⟩ : ∃ q, decV m = q := ⟨_, rfl⟩
      rw [hq] at DE HRC
      have HQ := hid hq
      clear hq
      cases q with
      | none =>
        have FI : Hid (∀ W, Gr wr W → SpP w R (.returned (.tuple #[.slice none 0 0, .bool false])) W) := hid (fun W hW => ⟨hg.trans hW, by rw [HR.out, HRC.out]; rfl⟩)
        clear HR HRC HRW HMAT HMB HQ HNE
        go_wp2_with fail
        refine DE.out.mono ?_
        rintro e w1 ⟨rfl, hg1⟩
        have FJ := hid (FI.out _ (hg1.trans ((Gr.refl _).alloc (.cells #[.int .i64 0, .int .i64 0, .string ⟨#[]⟩, .bool false] 32))))
        clear FI hg1 DE
        unfold decR
        simp only
        unfold V.val nul
        simp only
        go_wp2
        first | exact FJ.out | refine bodyPost_ret (by simp [results, Tryd.results31, go_sem]; try rfl) rfl FJ.out
      | some p =>
        obtain ⟨v, n⟩ := p
        have hn := decV_n HQ.out
        have HR3 : Hid (R = (splitV (m.drop n)).map ((acc ++ [v]) ++ ·)) := hid (by
          rw [HR.out, HRC.out]
          simp only [Option.map_map]
          congr 1
          funext x
          simp)
        have hdl : (m.drop n).length = m.length - n := by simp
        have HB2 := hid (byte_drop HMB.out n)
        have HA2 := hid (bat_drop HMAT.out n)
        obtain ⟨k, hk⟩ : ∃ k, m.length = k := ⟨_, rfl⟩
        have HKM := hid hk
        rw [hk] at hn hmc hlen hml g1 g2 hdl ⊢
        have HDL := hid hdl
        obtain ⟨i0, hi0, hz0, hz1, hz2⟩ := info_parts v_info
        have hwb := hg.size
        have h1 : (0 : Int) ≤ (n : Int) := by omega
        have h2 : (n : Int) ≤ (k : Int) := by omega
        have h3 : (k : Int) ≤ (cb : Int) := by omega
        have h4 : decide ((n : Int) ≤ (k : Int)) = true := by rw [decide_eq_true_iff]; omega
        rw [hk] at DE
        clear HR HRC HMAT HMB HQ HNE hk hdl
        go_wp2_with fail
        refine DE.out.mono ?_
        rintro e w1 ⟨rfl, hg1⟩
        unfold decR
        simp only
        unfold V.val
        have HR1 := hid (own_keep HRW.out hg1)
        have hG1 := hg.trans hg1
        clear hg1 DE HRW
        go_wp2_with (at_builtin; refine wpList_append_own _ rfl _ _ 35 rfl w.heap.size 32 i0 (.agg #[.int .i64 0, .int .i64 0, .string ⟨#[]⟩, .bool false]) 4 40 Tryd.underlying35 hi0 hz0 hz1 hz2 rfl (by decide) _ _ _ rfl ((HR1.out.alloc _).alloc _) ⟨w1.heap.size + 1, 0, none⟩ 1 1 (vF v) rfl rfl ?ma1 ?ma2 ?ma3 ?ma4 ?ma5 ?_)
        case ma1 =>
          intro q u hu
          rw [addN, Nat.zero_add, show w1.heap.size + 1 = (w1.alloc (.cells #[.int .i64 v.t, .int .i64 v.n, .string v.s, .bool v.b] 32)).heap.size by simp, Rg.blk_cells (heap_alloc_new _ _) q]
          simpa [vF] using hu
        case ma2 => exact vE.one _
        case ma3 => unfold maxLen; omega
        case ma4 => omega
        case ma5 => first | (have := hG1.size; simp; omega) | omega
        intro v1 w3 hown hq8 _
        have ga : Gr w1 ((w1.alloc (.cells #[.int .i64 v.t, .int .i64 v.n, .string v.s, .bool v.b] 32)).alloc (.cells #[.int .i64 v.t, .int .i64 v.n, .string v.s, .bool v.b] 32)) := ((Gr.refl _).alloc _).alloc _
        have G1 := Gz.up (hG1.trans ga) hq8 ((HR1.out.alloc _).alloc _)
        have HB3 := fun ob' cb' (h : k - n ≤ cb') (h2 : BAt w ob' (m.drop n)) => hid (show SpRel w l.length R (.slice ob' (k - n) cb') v1 w3 from ⟨m.drop n, ob', cb', acc ++ [v], by rw [HDL.out], by rw [HDL.out]; omega, h2, HB2.out, by rw [HDL.out]; simp; omega, by rw [List.length_append, cellsF_snoc]; exact hown, HR3.out, G1⟩)
        clear hown hq8 ga G1 HR1 hG1 HR3
        go_wp2
        refine ⟨(HB3 _ (cb - n) (by omega) ?_).out, by show k - n < k; omega⟩
        split
        · rename_i hcn
          exact .inl (List.drop_eq_nil_of_le (by have := HKM.out; omega))
        · exact HA2.out
end Go.Proofs.YtacbhkmkknicoaaDoor

/- plan: ahead, told exactly. -/
import Derived.Test.YtemhfaknmagebaaH4
namespace Go.Proofs.Ytemhfaknmagebaa
open Go.RowKit
set_option linter.unusedSimpArgs false
set_option linter.unusedVariables false
attribute [local go_sem] Rg.leads_value Rg.leads_skip Rg.leads_enter Rg.brings_value Rg.brings_skip Rg.brings_enter
def cmpD (d : Int × Int → Int × Int → Int) : List (Int × Int) → List (Int × Int) → Int
  | [], [] => 0
  | [], _ :: _ => -1
  | _ :: _, [] => 1
  | p :: l, q :: m => if d p q = 0 then cmpD d l m else d p q
def dTab (p q : Int × Int) : Int := IntKind.i64.wrap (p.1 - q.1)
def dBy (p q : Int × Int) : Int := IntKind.i64.wrap (p.2 - q.2)
/-- does a plan stand ahead of another one of the same cost? -/
def aheadR (l m : List (Int × Int)) : Bool := if cmpD dTab l m = 0 then decide (cmpD dBy l m < 0) else decide (cmpD dTab l m < 0)
theorem xdiff_tab (p q : Int × Int) (g : Nat) (w : World) (hc : w.cell? ⟨g, 0, none⟩ = some (.func (.func 22) #[] #[])) :
    Calls Try.prog 21 #[.agg #[.int .i64 p.1, .int .i64 p.2], .agg #[.int .i64 q.1, .int .i64 q.2], .pointer (some ⟨g, 0, none⟩)] w fun e w' => e = .returned (.int .i64 (dTab p q)) ∧ Gr w w' := by
  obtain ⟨p1, p2⟩ := p
  obtain ⟨q1, q2⟩ := q
  simp only
  have hR : Hid (IntKind.i64.wrap (p1 - q1) = dTab (p1, p2) (q1, q2)) := hid rfl
  generalize dTab (p1, p2) (q1, q2) = R at *
  have hg0 := lt_of_cell hc
  have hg1 : g < w.heap.size + 1 := by omega
  have hg2 : g < w.heap.size + 1 + 1 := by omega
  have hcc := hc
  have T1 := fun W => of_tab p1 p2 W
  have T2 := fun W => of_tab q1 q2 W
  go_enter Try.func21, Try.ntmps21
  go_wp2_with fail
  refine Rg.region_text 7 (Below.drew (Below.refl _ _)) (by kernel_rfl) (by kernel_rfl) (fun _ _ d _ _ h => by cases d <;> exact h) ?_
  simp only [List.append_eq, List.cons_append, List.nil_append, List.take_succ_cons, List.take_zero, List.drop_succ_cons, List.drop_zero]
  repeat (first
      | (refine Rg.wpDets_skip (by rfl) ?_; simp only [Act.put, List.setIfInBounds_toArray, List.set_cons_zero, List.set_cons_succ])
      | (refine Rg.wpDets_step ?_ (by rfl) (fun w hS => ?_) ?_
         rotate_left
         · have hc := Gr.cells hS
           have hf := Gr.frees hS
           go_simp
           first
           | (refine ⟨?_, Below.refl _ _⟩; with_reducible rfl)
           | ((with_reducible refine (T1 _).mono ?_); rintro e w' ⟨rfl, hg⟩; refine ⟨?_, hg⟩; with_reducible rfl)
           | ((with_reducible refine (T2 _).mono ?_); rintro e w' ⟨rfl, hg⟩; refine ⟨?_, hg⟩; with_reducible rfl)
         simp only [Act.put, List.setIfInBounds_toArray, List.set_cons_zero, List.set_cons_succ]))
  refine Rg.wpDets_nil ?_
  refine Rg.wpFlts_nil ?_
  refine Rg.wpLays_nil ?_
  intro w' hK
  have hg : Gr _ w' := hK.up
  have hc := hg.cells
  have hf := hg.frees
  have hz := hg.size
  try simp only [World.size_alloc, World.size_setCell, World.size_drew] at hz
  try have : 0 < w'.heap.size := by omega
  try have : w.heap.size < w'.heap.size := by omega
  try have : w.heap.size + 1 < w'.heap.size := by omega
  try have : w.heap.size + 1 + 1 < w'.heap.size := by omega
  try have : w.heap.size + 1 + 1 + 1 < w'.heap.size := by omega
  go_wp2
  go_ret
  refine ⟨?_, (((Gr.refl _).alloc _).alloc _).trans hK.up⟩
  rw [← hR.out]
  rfl
theorem xdiff_by (p q : Int × Int) (g : Nat) (w : World) (hc : w.cell? ⟨g, 0, none⟩ = some (.func (.func 23) #[] #[])) :
    Calls Try.prog 21 #[.agg #[.int .i64 p.1, .int .i64 p.2], .agg #[.int .i64 q.1, .int .i64 q.2], .pointer (some ⟨g, 0, none⟩)] w fun e w' => e = .returned (.int .i64 (dBy p q)) ∧ Gr w w' := by
  obtain ⟨p1, p2⟩ := p
  obtain ⟨q1, q2⟩ := q
  simp only
  have hR : Hid (IntKind.i64.wrap (p2 - q2) = dBy (p1, p2) (q1, q2)) := hid rfl
  generalize dBy (p1, p2) (q1, q2) = R at *
  have hg0 := lt_of_cell hc
  have hg1 : g < w.heap.size + 1 := by omega
  have hg2 : g < w.heap.size + 1 + 1 := by omega
  have hcc := hc
  have T1 := fun W => of_by p1 p2 W
  have T2 := fun W => of_by q1 q2 W
  go_enter Try.func21, Try.ntmps21
  go_wp2_with fail
  refine Rg.region_text 7 (Below.drew (Below.refl _ _)) (by kernel_rfl) (by kernel_rfl) (fun _ _ d _ _ h => by cases d <;> exact h) ?_
  simp only [List.append_eq, List.cons_append, List.nil_append, List.take_succ_cons, List.take_zero, List.drop_succ_cons, List.drop_zero]
  repeat (first
      | (refine Rg.wpDets_skip (by rfl) ?_; simp only [Act.put, List.setIfInBounds_toArray, List.set_cons_zero, List.set_cons_succ])
      | (refine Rg.wpDets_step ?_ (by rfl) (fun w hS => ?_) ?_
         rotate_left
         · have hc := Gr.cells hS
           have hf := Gr.frees hS
           go_simp
           first
           | (refine ⟨?_, Below.refl _ _⟩; with_reducible rfl)
           | ((with_reducible refine (T1 _).mono ?_); rintro e w' ⟨rfl, hg⟩; refine ⟨?_, hg⟩; with_reducible rfl)
           | ((with_reducible refine (T2 _).mono ?_); rintro e w' ⟨rfl, hg⟩; refine ⟨?_, hg⟩; with_reducible rfl)
         simp only [Act.put, List.setIfInBounds_toArray, List.set_cons_zero, List.set_cons_succ]))
  refine Rg.wpDets_nil ?_
  refine Rg.wpFlts_nil ?_
  refine Rg.wpLays_nil ?_
  intro w' hK
  have hg : Gr _ w' := hK.up
  have hc := hg.cells
  have hf := hg.frees
  have hz := hg.size
  try simp only [World.size_alloc, World.size_setCell, World.size_drew] at hz
  try have : 0 < w'.heap.size := by omega
  try have : w.heap.size < w'.heap.size := by omega
  try have : w.heap.size + 1 < w'.heap.size := by omega
  try have : w.heap.size + 1 + 1 < w'.heap.size := by omega
  try have : w.heap.size + 1 + 1 + 1 < w'.heap.size := by omega
  go_wp2
  go_ret
  refine ⟨?_, (((Gr.refl _).alloc _).alloc _).trans hK.up⟩
  rw [← hR.out]
  rfl
theorem PAt.getX {w : World} {oa : Option Addr} {l : List (Int × Int)} (h : PAt w oa l) (k : Nat) (hk : k < l.length) : ∃ b off, oa = some ⟨b, off, none⟩ ∧ w.cell? ⟨b, off + k * 2, none⟩ = some (.int .i64 l[k].1) ∧ w.cell? ⟨b, off + k * 2 + 1, none⟩ = some (.int .i64 l[k].2) := by
  rcases h with rfl | ⟨b, off, h, hr⟩
  · simp at hk
  · exact ⟨b, off, h, (hr.2 k hk).1, (hr.2 k hk).2⟩
theorem cmpD_step {d : Int × Int → Int × Int → Int} {l m : List (Int × Int)} {k : Nat} (hl : k < l.length) (hm : k < m.length) : cmpD d (l.drop k) (m.drop k) = if d l[k] m[k] = 0 then cmpD d (l.drop (k + 1)) (m.drop (k + 1)) else d l[k] m[k] := by
  rw [List.drop_eq_getElem_cons hl, List.drop_eq_getElem_cons hm]
  rfl
theorem cmpD_more {d : Int × Int → Int × Int → Int} {l m : List (Int × Int)} {k : Nat} (hl : k < l.length) (hm : m.length ≤ k) : cmpD d (l.drop k) (m.drop k) = 1 := by
  rw [List.drop_eq_getElem_cons hl, List.drop_eq_nil_iff.2 hm]
  rfl
theorem cmpD_less {d : Int × Int → Int × Int → Int} {l m : List (Int × Int)} {k : Nat} (hl : l.length ≤ k) (hm : k < m.length) : cmpD d (l.drop k) (m.drop k) = -1 := by
  rw [List.drop_eq_getElem_cons hm, List.drop_eq_nil_iff.2 hl]
  rfl
theorem cmpD_same {d : Int × Int → Int × Int → Int} {l m : List (Int × Int)} {k : Nat} (hl : l.length ≤ k) (hm : m.length ≤ k) : cmpD d (l.drop k) (m.drop k) = 0 := by
  rw [List.drop_eq_nil_iff.2 hl, List.drop_eq_nil_iff.2 hm]
  rfl
set_option maxHeartbeats 2000000 in
set_option maxRecDepth 100000 in
theorem xcmp_any (d : Int × Int → Int × Int → Int) (oa ob : Option Addr) (c c' : Nat) (l m : List (Int × Int)) (g : Nat) (w : World) (hl : l.length ≤ 1000000) (hm : m.length ≤ 1000000) (ha : PAt w oa l) (hb : PAt w ob m)
    (D : ∀ p q W, Gr w W → Calls Try.prog 21 #[.agg #[.int .i64 p.1, .int .i64 p.2], .agg #[.int .i64 q.1, .int .i64 q.2], .pointer (some ⟨g, 0, none⟩)] W fun e w' => e = .returned (.int .i64 (d p q)) ∧ Gr W w') :
    Calls Try.prog 20 #[.slice oa l.length c, .slice ob m.length c', .func (.func 21) #[] #[.pointer (some ⟨g, 0, none⟩)]] w fun e w' => e = .returned (.int .i64 (cmpD d l m)) ∧ Gr w w' := by
  have HD := hid D
  clear D
  obtain ⟨R, hR⟩ : ∃ R, cmpD d l m = R := ⟨_, rfl⟩
  rw [hR]
  have HR := hid hR
  clear hR
  go_enter Try.func20, Try.ntmps20
  go_wp2_with fail
  go_loopw [13] (fun i wr => ∃ k : Nat, i = .int .i64 k ∧ k ≤ l.length ∧ Hid (cmpD d (l.drop k) (m.drop k) = R) ∧ Gr w wr) (fun i _ => l.length - (intOf i).toNat)
  case atStart => exact ⟨0, rfl, Nat.zero_le _, hid HR.out, Gr.refl _⟩
  case round =>
    obtain ⟨k, rfl, hk, HV, hg⟩ := hrel
    rename_i wr _
    by_cases hlt : k < l.length
    · obtain ⟨b, off, rfl, c0, c1⟩ := (ha.keep hg).getX k hlt
      have hbb := lt_of_cell c0
      by_cases hmk : m.length ≤ k
      · have g1 : decide ((m.length : Int) ≤ (k : Int)) = true := by simp; omega
        have HX : Hid (R = 1) := hid (by rw [← HV.out, cmpD_more hlt hmk])
        clear hb ha
        generalize l[k].1 = x at *
        generalize l[k].2 = y at *
        go_wp2
        go_ret
        exact ⟨by rw [HX.out]; rfl, hg.alloc _⟩
      · have g1 : decide ((m.length : Int) ≤ (k : Int)) = false := by simp; omega
        have hmk2 : k < m.length := by omega
        obtain ⟨b', off', rfl, d0, d1⟩ := (hb.keep hg).getX k hmk2
        have hbb' := lt_of_cell d0
        have HV2 : Hid ((if d l[k] m[k] = 0 then cmpD d (l.drop (k + 1)) (m.drop (k + 1)) else d l[k] m[k]) = R) := hid (by rw [← HV.out, cmpD_step hlt hmk2])
        have DD := HD.out l[k] m[k]
        clear hb ha HV
        generalize l[k] = xx at *
        generalize m[k] = yy at *
        obtain ⟨dv, hdv⟩ : ∃ v, d xx yy = v := ⟨_, rfl⟩
        rw [hdv] at DD HV2
        clear hdv
        generalize xx.1 = x1 at *
        generalize xx.2 = x2 at *
        generalize yy.1 = y1 at *
        generalize yy.2 = y2 at *
        go_wp2_with fail
        refine (DD _ ?_).mono ?_
        · exact (hg.alloc _).alloc _
        rintro e w1 ⟨rfl, h1⟩
        have hg1 := ((hg.alloc _).alloc _).trans h1
        by_cases hd : dv = 0
        · subst hd
          have HV3 : Hid (cmpD d (l.drop (k + 1)) (m.drop (k + 1)) = R) := hid (by have := HV2.out; rwa [if_pos rfl] at this)
          clear HV2
          go_wp2
          exact ⟨⟨k + 1, by go_num, by omega, HV3, hg1⟩, by simp [intOf]; omega⟩
        · have g2 : (dv != 0) = true := by simpa using hd
          have HX : Hid (dv = R) := hid (by have := HV2.out; rwa [if_neg hd] at this)
          clear HV2
          go_wp2
          go_ret
          exact ⟨by rw [← HX.out]; rfl, hg1⟩
    · obtain rfl : k = l.length := by omega
      by_cases h1 : l.length < m.length
      · have HX : Hid (R = -1) := hid (by rw [← HV.out, cmpD_less (Nat.le_refl _) h1])
        clear HV
        go_wp2
        go_ret
        exact ⟨by rw [HX.out]; rfl, hg⟩
      · have HX : Hid (R = 0) := hid (by rw [← HV.out, cmpD_same (Nat.le_refl _) (by omega)])
        clear HV
        go_wp2
        go_ret
        exact ⟨by rw [HX.out]; rfl, hg⟩
theorem xby_any (f : Nat) (d : Int × Int → Int × Int → Int) (hD : ∀ p q g W, W.cell? ⟨g, 0, none⟩ = some (.func (.func f) #[] #[]) → Calls Try.prog 21 #[.agg #[.int .i64 p.1, .int .i64 p.2], .agg #[.int .i64 q.1, .int .i64 q.2], .pointer (some ⟨g, 0, none⟩)] W fun e w' => e = .returned (.int .i64 (d p q)) ∧ Gr W w')
    (oa ob : Option Addr) (c c' : Nat) (l m : List (Int × Int)) (ga gb : Nat) (w : World) (hl : l.length ≤ 1000000) (hm : m.length ≤ 1000000) (ha : PAt w oa l) (hb : PAt w ob m)
    (ca : w.cell? ⟨ga, 0, none⟩ = some (.slice oa l.length c)) (cb : w.cell? ⟨gb, 0, none⟩ = some (.slice ob m.length c')) :
    Calls Try.prog 19 #[.func (.func f) #[] #[], .pointer (some ⟨ga, 0, none⟩), .pointer (some ⟨gb, 0, none⟩)] w fun e w' => e = .returned (.int .i64 (cmpD d l m)) ∧ Gr w w' := by
  have ha0 := lt_of_cell ca
  have hb0 := lt_of_cell cb
  have ha1 : ga < w.heap.size + 1 := by omega
  have hb1 : gb < w.heap.size + 1 := by omega
  have C := fun g W hW D => xcmp_any d oa ob c c' l m g W hl hm (ha.keep hW) (hb.keep hW) D
  have HC := hid C
  have HDD := hid hD
  generalize cmpD d l m = R at *
  clear C ha hb hD
  go_enter Try.func19, Try.ntmps19
  go_wp2_with fail
  refine (HC.out _ _ ?_ ?_).mono ?_
  · exact (Gr.refl w).alloc _
  · intro p q W hW
    exact HDD.out p q _ W (hW.keep (by go_simp))
  rintro e w1 ⟨rfl, h1⟩
  go_wp2
  go_ret
  exact ⟨rfl, ((Gr.refl w).alloc _).trans h1⟩
theorem xahead_any (oa ob : Option Addr) (c c' : Nat) (l m : List (Int × Int)) (w : World) (hl : l.length ≤ 1000000) (hm : m.length ≤ 1000000) (ha : PAt w oa l) (hb : PAt w ob m) :
    Calls Try.prog 13 #[.slice oa l.length c, .slice ob m.length c'] w fun e w' => e = .returned (.bool (aheadR l m)) ∧ Gr w w' := by
  have T := fun ga gb W hW => xby_any 22 dTab (fun p q g W h => xdiff_tab p q g W h) oa ob c c' l m ga gb W hl hm (ha.keep hW) (hb.keep hW)
  have B := fun ga gb W hW => xby_any 23 dBy (fun p q g W h => xdiff_by p q g W h) oa ob c c' l m ga gb W hl hm (ha.keep hW) (hb.keep hW)
  have HR : Hid ((if cmpD dTab l m = 0 then decide (cmpD dBy l m < 0) else decide (cmpD dTab l m < 0)) = aheadR l m) := hid rfl
  have HT := hid T
  have HB := hid B
  generalize aheadR l m = R at *
  generalize cmpD dTab l m = ct at *
  generalize cmpD dBy l m = cb at *
  clear T B ha hb
  go_enter Try.func13, Try.ntmps13
  go_wp2_with fail
  refine (HT.out _ _ _ ?_ ?_ ?_).mono ?_
  · exact ((Gr.refl w).alloc _).alloc _
  · go_simp
  · go_simp
  rintro e w1 ⟨rfl, h1⟩
  have hg1 := (((Gr.refl w).alloc (.cells #[.slice oa l.length c] 27)).alloc (.cells #[.slice ob m.length c'] 27)).trans h1
  have k0 : w1.cell? ⟨w.heap.size, 0, none⟩ = some (.slice oa l.length c) := h1.keep (by go_simp)
  have k1 : w1.cell? ⟨w.heap.size + 1, 0, none⟩ = some (.slice ob m.length c') := h1.keep (by go_simp)
  by_cases hd : ct = 0
  · have HR2 : Hid (decide (cb < 0) = R) := hid (by rw [← HR.out, if_pos hd])
    clear HR
    subst hd
    go_wp2_with fail
    refine (HB.out _ _ _ hg1 k0 k1).mono ?_
    rintro e w2 ⟨rfl, h2⟩
    go_wp2
    go_ret
    exact ⟨by rw [← HR2.out]; rfl, hg1.trans h2⟩
  · have g2 : (ct != 0) = true := by simpa using hd
    have HR2 : Hid (decide (ct < 0) = R) := hid (by rw [← HR.out, if_neg hd])
    clear HR
    go_wp2
    go_ret
    exact ⟨by rw [← HR2.out]; rfl, hg1⟩
end Go.Proofs.Ytemhfaknmagebaa

/- Texts of this claim, put together: walks of functions and plain laws, of no condition. -/
import Derived.Test.YtaogpifcfmjcbaaCc5
import Derived.ChangeSame
import Derived.ProofKit
import Derived.OpenShut
section
namespace Go.Proofs.Ytaogpifcfmjcbaa
open Go.RowKit
set_option linter.unusedSimpArgs false
set_option linter.unusedVariables false
attribute [local go_sem] Rg.leads_value Rg.leads_skip Rg.leads_enter Rg.brings_value Rg.brings_skip Rg.brings_enter Rg.bringsG_value Rg.bringsG_enter Rg.once_normal Rg.once_exit Rg.once_ret Rg.once_panic Rg.once_goto Rg.bringsS_value Rg.bringsS_skip Rg.bringsS_enter Rg.still_value Rg.still_skip Rg.still_enter
def stmT (t : ByteArray) : Stm × Ps := let q := stmS (readS t); (q.1, (q.2.may 4 ⟨#[59]⟩).2.over)
def noS : Value := .agg zeroS.toArray
def StmtP (t : ByteArray) (w : World) (e : Ending) (w' : World) : Prop := Gr w w' ∧ match (stmT t).2 with
  | .ok _ _ => ∃ r, e = .returned (.tuple #[SR.val r, .int .i64 0, .int .i64 0]) ∧ StmAt (Nw w) w' (stmT t).1 r
  | .bad x a => x ≠ 0 ∧ e = .returned (.tuple #[noS, .int .i64 x, .int .i64 (a : Int)])
theorem may_good2 {k : Nat} {c : ByteArray} {s : Ps} (h : (s.may k c).2.good = true) : s.good = true := by
  cases s with
  | ok l d => rfl
  | bad x a => exact h
theorem over_ok {s : Ps} {l : List Lx.Tok} {d : Nat} (h : s.over = .ok l d) : s = .ok l d ∧ (Ps.ok l d).headK = 5 := by
  unfold Ps.over at h
  split at h
  · rename_i h1
    refine ⟨h, ?_⟩
    rw [h] at h1
    rcases h1 with h1 | h1
    · exact h1
    · cases h1
  · cases s with
    | ok l' d' => cases l' <;> cases h
    | bad e a => cases h
theorem over_bad {s : Ps} {x : Int} {a : Nat} (h : s.over = .bad x a) (hs : ∀ e b, s = .bad e b → e ≠ 0) : x ≠ 0 := by
  unfold Ps.over at h
  split at h
  · exact hs _ _ h
  · cases s with
    | ok l' d' => cases l' <;> (cases h; decide)
    | bad e b => cases h; exact hs _ _ rfl
set_option maxRecDepth 100000 in
theorem res_stm {w : World} {g : Nat} {tmps : Array Value} {u3 u4 : Value} {cs : List Value} (hp : tmps.getD 2 undef = .pointer (some ⟨g, 0, none⟩)) (h3 : tmps.getD 3 undef = u3) (h4 : tmps.getD 4 undef = u4) (hg : w.heap[g]? = some (.cells cs.toArray 35 (0, 0))) (hi : (Try.prog.info? 35).map (·.size) = some cs.toArray.size) :
    (results Try.f8 tmps).run Try.prog w = .ok (.tuple #[.agg cs.toArray, u3, u4]) w := by
  have hp' : tmps[2]?.getD undef = .pointer (some ⟨g, 0, none⟩) := by simpa using hp
  have h3' : tmps[3]?.getD undef = u3 := by simpa using h3
  have h4' : tmps[4]?.getD undef = u4 := by simpa using h4
  have h := run_loadVar_row (P := Try.prog) w g 35 35 cs.toArray (0, 0) _ hg Try.underlying35 rfl hi
  simp [results, Try.results8, hp', h3', h4', asAddr, h]
set_option maxHeartbeats 8000000 in
set_option maxRecDepth 100000 in
theorem pstm_bad (t : ByteArray) (w : World) (x : Int) (a : Nat) (hr : readS t = .bad x a) (HB : Calls Try.prog 13 #[.string t] (w.alloc (.cells zeroS.toArray 35)) (BeginP t (w.alloc (.cells zeroS.toArray 35)))) : Calls Try.prog 8 #[.string t] w (StmtP t w) := by
  have e2 : (stmT t).2 = .bad x a := by
    unfold stmT
    rw [hr]
    rfl
  have HX : x ≠ 0 → Hid (∀ w', Gr w w' → StmtP t w (.returned (.tuple #[noS, .int .i64 x, .int .i64 (a : Int)])) w') := fun hx => hid (fun w' h => ⟨h, by rw [e2]; exact ⟨hx, rfl⟩⟩)
  generalize StmtP t w = Q at *
  unfold BeginP at HB
  rw [hr] at HB
  clear e2 hr
  have HA0 : Hid (Gr w (w.alloc (.cells zeroS.toArray 35))) := hid ((Gr.refl w).alloc _)
  have HZ0 : Hid ((w.alloc (.cells zeroS.toArray 35)).heap[w.heap.size]? = some (.cells zeroS.toArray 35 (0, 0))) := hid (alloc_at _ _)
  go_enter Try.func8, Try.ntmps8
  go_wp2_with fail
  refine HB.mono ?_
  rintro e w1 ⟨hg, hx, rfl⟩
  have H0 := hid ((hg.block _ (Array.getElem?_eq_some_iff.1 HZ0.out).1).trans HZ0.out)
  have q1 : (x != 0) = true := by simpa using hx
  have HF : Hid (∀ W9, Go1 w.heap.size w1 W9 → Q (.returned (.tuple #[noS, .int .i64 x, .int .i64 (a : Int)])) W9) := hid (fun W9 h9 => (HX hx).out W9 ((HA0.out.trans hg).grown h9 (fun g e => by cases e; exact Nat.le_refl _)))
  clear hg HX HB
  go_wp2_with (guard_target =~ wpList _ _ _ (Oper.mk _ (Op.store 35 _ _) _ _ _ _ :: _) _ _; refine st_row (ty := 35) rfl rfl w.heap.size (zeroS).toArray rfl rfl 35 _ H0.out (by kernel_rfl) rfl (by kernel_rfl) ?_; intro W9 hW9 gW9 zW9)
  (try change bodyPost _ _ _ _ _ _)
  refine bodyPost_ret (v := .tuple #[noS, .int .i64 x, .int .i64 (a : Int)]) (res_stm rfl rfl rfl hW9 (by kernel_rfl)) rfl (HF.out W9 gW9)
set_option maxHeartbeats 8000000 in
set_option maxRecDepth 100000 in
theorem pstm_good (t : ByteArray) (w : World) (l0 : List Lx.Tok) (hr : readS t = .ok l0 0) (hl0 : l0.length ≤ 4097) (l : List Lx.Tok) (d : Nat) (hq : ((stmS (readS t)).2.may 4 ⟨#[59]⟩).2 = .ok l d) (h5 : (Ps.ok l d).headK = 5)
    (HB : Calls Try.prog 13 #[.string t] (w.alloc (.cells zeroS.toArray 35)) (BeginP t (w.alloc (.cells zeroS.toArray 35)))) : Calls Try.prog 8 #[.string t] w (StmtP t w) := by
  have e2 : stmT t = ((stmS (readS t)).1, .ok l d) := by
    unfold stmT
    simp only
    rw [hq]
    unfold Ps.over
    rw [if_pos (.inl h5)]
  have HX : Hid (∀ w' r, Gr w w' → StmAt (Nw w) w' (stmS (readS t)).1 r → StmtP t w (.returned (.tuple #[SR.val r, .int .i64 0, .int .i64 0])) w') := hid (fun w' r h hx => ⟨h, by rw [e2]; exact ⟨r, rfl, hx⟩⟩)
  generalize StmtP t w = Q at *
  rw [hr] at hq HX
  have hsz : (Ps.ok l0 0).size ≤ 900000 := by show l0.length ≤ _; omega
  have HST := hid (fun p w' (h : PS p w' (.ok l0 0)) => statement_any p _ w' h hsz)
  unfold BeginP at HB
  rw [hr] at HB
  clear e2 hr hsz hl0
  generalize stmS (.ok l0 0) = R at *
  have hRg : R.2.good = true := may_good2 (by rw [hq]; rfl)
  have HA0 : Hid (Gr w (w.alloc (.cells zeroS.toArray 35))) := hid ((Gr.refl w).alloc _)
  have HZ0 : Hid ((w.alloc (.cells zeroS.toArray 35)).heap[w.heap.size]? = some (.cells zeroS.toArray 35 (0, 0))) := hid (alloc_at _ _)
  go_enter Try.func8, Try.ntmps8
  go_wp2_with fail
  refine HB.mono ?_
  rintro e w1 ⟨hg, _, _, _, p, hpw, rfl, hps⟩
  clear HB
  have hlt0 := (Array.getElem?_eq_some_iff.1 HZ0.out).1
  have hpw0 : w.heap.size < p := by omega
  have hH1 : w1.heap[w.heap.size]? = some (.cells zeroS.toArray 35 (0, 0)) := (hg.block _ hlt0).trans HZ0.out
  have hG1 : Gr w w1 := HA0.out.trans hg
  have hz1 := hps.lt
  clear HA0 HZ0 hlt0 hpw
  have HPS := hid hps
  have HG1 := hid hG1
  have HH1 := hid hH1
  clear hps hg hG1 hH1
  go_wp2_with fail
  refine (HST.out p w1 HPS.out).mono ?_
  rintro e w2 ⟨u, rfl, r, y, rfl, hy, hps2, hgo2, hgd⟩
  have hz2 := hgo2.size
  have hp2 := hps2.lt
  have hG2 : Gr w w2 := Go1.up HG1.out hgo2 (by omega)
  have hH2 : w2.heap[w.heap.size]? = some (.cells zeroS.toArray 35 (0, 0)) := (hgo2.get (by omega) (by omega)).trans HH1.out
  have hA := (Gr.refl w2).alloc (.cells zeroS.toArray 35)
  have HAL : Hid ((w2.alloc (.cells zeroS.toArray 35)).heap[w2.heap.size]? = some (.cells zeroS.toArray 35 (0, 0))) := hid (alloc_at _ _)
  have HP3 : Hid (∀ W3, Go1 w2.heap.size (w2.alloc (.cells zeroS.toArray 35)) W3 → PS p W3 R.2) := hid (fun W3 h3 => (hps2.keep hA).go h3 hp2)
  have HG3 : Hid (∀ W3, Go1 w2.heap.size (w2.alloc (.cells zeroS.toArray 35)) W3 → Gr w W3 ∧ W3.heap[w.heap.size]? = some (.cells zeroS.toArray 35 (0, 0)) ∧ StmAt (fun b => w1.heap.size ≤ b ∧ b < w2.heap.size) W3 y r) := hid (fun W3 h3 => by
    refine ⟨(hG2.trans hA).grown h3 (fun g e => by cases e; have := hG2.size; omega), ?_, ?_⟩
    · rw [h3.get (by simp; omega) (by omega), hA.block _ (by omega)]; exact hH2
    · have h1 := (hy.mono (S' := fun b => w1.heap.size ≤ b ∧ b < w2.heap.size) (fun b hl hs => ⟨hs, hl⟩)).of hA.size (fun b _ hl => hA.block b hl)
      exact h1.of h3.size (fun b hb hl => h3.get hl (by have := hb.2; omega)))
  have HGD := hid hgd
  clear hy hps2 hgo2 hgd hG2 hH2 hA HPS HG1 HH1 HST
  unfold SR.val
  go_wp2_with (guard_target =~ wpList _ _ _ (Oper.mk _ (Op.store 35 _ _) _ _ _ _ :: _) _ _; refine st_row (ty := 35) rfl rfl w2.heap.size (SR.cs r).toArray rfl rfl 35 _ HAL.out (by kernel_rfl) rfl (by kernel_rfl) ?_; intro W3 hW3 gW3 zW3)
  obtain ⟨hG3, hH3, hy3⟩ := HG3.out W3 gW3
  have hps3 := HP3.out W3 gW3
  clear HG3 HP3 gW3 HAL
  have HY := hid hy3
  have HBX := hid hW3
  have HG3 := hid hG3
  have HH3 := hid hH3
  clear hy3 hW3 hG3 hH3
  refine (sign_any' p ⟨#[59]⟩ R.2 W3 hps3).mono ?_
  rintro e w4 ⟨rfl, hps4, hgo4⟩
  clear hps3
  have hz4 := hgo4.size
  have hGr4 : Gr w w4 := Go1.up HG3.out hgo4 (by omega)
  have hB4 : w4.heap[w2.heap.size]? = some (.cells (SR.cs r).toArray 35 (0, 0)) := (hgo4.get (by have := (Array.getElem?_eq_some_iff.1 HBX.out).1; exact this) (by omega)).trans HBX.out
  have hH4 : w4.heap[w.heap.size]? = some (.cells zeroS.toArray 35 (0, 0)) := (hgo4.get (Array.getElem?_eq_some_iff.1 HH3.out).1 (by omega)).trans HH3.out
  have hY4 : StmAt (fun b => w1.heap.size ≤ b ∧ b < w2.heap.size) w4 y r := HY.out.of hgo4.size (fun b hb hl => hgo4.get hl (by have := hb.1; omega))
  clear HG3 HBX HH3 HY hgo4
  rw [hq] at hps4
  have hyy : y = R.1 := HGD.out hRg
  subst hyy
  obtain ⟨b, off, n, c, tk, hn1, hnc, hbl, p0, p2, p3, b0, htk⟩ := tok_head hps4.2
  have htk5 : tk = 5 := by
    cases l with
    | nil => exact hps4.2.nil.elim
    | cons t0 r0 => rw [← htk t0 r0 rfl]; exact h5
  have q5 : ((tk : Int) != 5) = false := by rw [htk5]; rfl
  have g2 : (0 : Int) < (n : Int) := by omega
  have HCL := hid (clip_stm R.1 r (fun b => w1.heap.size ≤ b ∧ b < w2.heap.size) w4 hY4)
  have HB4 := hid hB4
  have H04 : Hid (∀ W, Cl (fun b => w1.heap.size ≤ b ∧ b < w2.heap.size) w4 W → W.heap[w.heap.size]? = some (.cells zeroS.toArray 35 (0, 0))) := hid (fun W h => (h.block _ (Array.getElem?_eq_some_iff.1 hH4).1 (fun hh => by have := hh.1; omega)).trans hH4)
  have FI : Hid (∀ W W9, Cl (fun b => w1.heap.size ≤ b ∧ b < w2.heap.size) w4 W → Go1 w.heap.size W W9 → Q (.returned (.tuple #[SR.val r.c3, .int .i64 0, .int .i64 0])) W9) := hid (fun W W9 h4 h9 => by
    have g4 : Gr w W := h4.gr hGr4 (fun b hb => by have := hb.1; omega)
    refine HX.out W9 _ (g4.grown h9 (fun g e => by cases e; exact Nat.le_refl _)) ?_
    have h1 := hY4.cl h4 (SR.c3_like hY4)
    exact (h1.of h9.size (fun b hb hl => h9.get hl (by have := hb.1; omega))).mono (fun b _ hb => by have := hb.1; show w.heap.size ≤ b; omega))
  clear hps4 hGr4 hB4 hH4 hY4 HX HGD htk htk5 h5 hq hRg
  go_wp2_with (guard_target =~ wpList _ _ _ (Oper.mk _ (Op.load 35 _) _ _ _ _ :: _) _ _; refine wpList_load_row rfl 35 _ rfl w2.heap.size rfl 35 (SR.cs r).toArray (0, 0) _ HB4.out Try.underlying35 rfl (by kernel_rfl) ?_)
  refine HCL.out.mono ?_
  rintro e w5 ⟨rfl, h45⟩
  have H0 := hid (H04.out w5 h45)
  have HF := hid (fun W9 h9 => FI.out w5 W9 h45 h9)
  clear h45 FI H04 HCL HB4 p0 p2 p3 b0
  unfold SR.val
  go_wp2_with (guard_target =~ wpList _ _ _ (Oper.mk _ (Op.store 35 _ _) _ _ _ _ :: _) _ _; refine st_row (ty := 35) rfl rfl w.heap.size (SR.cs r.c3).toArray rfl rfl 35 _ H0.out (by kernel_rfl) rfl (by kernel_rfl) ?_; intro W9 hW9 gW9 zW9)
  (try change bodyPost _ _ _ _ _ _)
  refine bodyPost_ret (v := .tuple #[SR.val r.c3, .int .i64 0, .int .i64 0]) (res_stm rfl rfl rfl hW9 (by kernel_rfl)) rfl (HF.out W9 gW9)
def ErT (R0 : Nat) (w5 : World) (s : Nat) (v : Nat → Value) (W : World) : Prop := if s = 0 then Gr w5 W else Go1 R0 w5 W ∧ W.heap[R0]? = some (.cells zeroS.toArray 35 (0, 0))
theorem ErT.s0 {R0 : Nat} {w5 W : World} {v : Nat → Value} (h : Gr w5 W) : ErT R0 w5 0 v W := by unfold ErT; rw [if_pos rfl]; exact h
theorem ErT.g0 {R0 : Nat} {w5 W : World} {v : Nat → Value} (h : ErT R0 w5 0 v W) : Gr w5 W := by unfold ErT at h; rw [if_pos rfl] at h; exact h
theorem ErT.s1 {R0 : Nat} {w5 W : World} {v : Nat → Value} (h : Go1 R0 w5 W) (hz : W.heap[R0]? = some (.cells zeroS.toArray 35 (0, 0))) : ErT R0 w5 1 v W := by unfold ErT; rw [if_neg (by decide)]; exact ⟨h, hz⟩
theorem ErT.g1 {R0 : Nat} {w5 W : World} {v : Nat → Value} (h : ErT R0 w5 1 v W) : Go1 R0 w5 W ∧ W.heap[R0]? = some (.cells zeroS.toArray 35 (0, 0)) := by unfold ErT at h; rw [if_neg (by decide)] at h; exact h
theorem ErT.go {R0 s : Nat} {w5 W : World} {v : Nat → Value} (h : ErT R0 w5 s v W) : Go1 R0 w5 W := by
  unfold ErT at h
  split at h
  · exact .of h
  · exact h.1
theorem putL_append : ∀ (vs us : List Value) (zs : List Value), us.length = vs.length → ∀ pre : List Value, putL (pre ++ us ++ zs) pre.length vs = pre ++ vs ++ zs
  | [], us, zs, h, pre => by
    have : us = [] := List.eq_nil_of_length_eq_zero h
    subst this
    rfl
  | v :: vs, [], zs, h, pre => by simp at h
  | v :: vs, u :: us, zs, h, pre => by
    have h1 := putL_append vs us zs (by simpa using h) (pre ++ [v])
    unfold putL
    have e : (pre ++ u :: us ++ zs).set pre.length v = pre ++ [v] ++ us ++ zs := by simp
    rw [e]
    simpa using h1
theorem putL_self (vs : List Value) (o : Nat) (us : List Value) (h : us.length = vs.length) (ho : o = 0 := by rfl) : putL us o vs = vs := by
  subst ho
  have := putL_append vs us [] h []
  simpa using this
set_option maxHeartbeats 8000000 in
set_option maxRecDepth 100000 in
theorem pstm_err (t : ByteArray) (w : World) (l0 : List Lx.Tok) (hr : readS t = .ok l0 0) (hl0 : l0.length ≤ 4097) (x : Int) (a : Nat) (hq : (stmT t).2 = .bad x a)
    (HB : Calls Try.prog 13 #[.string t] (w.alloc (.cells zeroS.toArray 35)) (BeginP t (w.alloc (.cells zeroS.toArray 35)))) : Calls Try.prog 8 #[.string t] w (StmtP t w) := by
  have HX0 : Hid (x ≠ 0 → ∀ w', Gr w w' → StmtP t w (.returned (.tuple #[noS, .int .i64 x, .int .i64 (a : Int)])) w') := hid (fun hx0 w' h => ⟨h, by rw [hq]; exact ⟨hx0, rfl⟩⟩)
  generalize StmtP t w = Q at *
  have hq2 : ((stmS (.ok l0 0)).2.may 4 ⟨#[59]⟩).2.over = .bad x a := by rw [← hr]; exact hq
  have hsz : (Ps.ok l0 0).size ≤ 900000 := by show l0.length ≤ _; omega
  have HST := hid (fun p w' (h : PS p w' (.ok l0 0)) => statement_any p _ w' h hsz)
  unfold BeginP at HB
  rw [hr] at HB
  clear hr hq hsz hl0
  generalize stmS (.ok l0 0) = R at *
  have HA0 : Hid (Gr w (w.alloc (.cells zeroS.toArray 35))) := hid ((Gr.refl w).alloc _)
  have HZ0 : Hid ((w.alloc (.cells zeroS.toArray 35)).heap[w.heap.size]? = some (.cells zeroS.toArray 35 (0, 0))) := hid (alloc_at _ _)
  go_enter Try.func8, Try.ntmps8
  go_wp2_with fail
  refine HB.mono ?_
  rintro e w1 ⟨hg, _, _, _, p, hpw, rfl, hps⟩
  clear HB
  have hlt0 := (Array.getElem?_eq_some_iff.1 HZ0.out).1
  have hpw0 : w.heap.size < p := by omega
  have hH1 : w1.heap[w.heap.size]? = some (.cells zeroS.toArray 35 (0, 0)) := (hg.block _ hlt0).trans HZ0.out
  have hG1 : Gr w w1 := HA0.out.trans hg
  have hz1 := hps.lt
  clear HA0 HZ0 hlt0 hpw
  have HPS := hid hps
  have HG1 := hid hG1
  have HH1 := hid hH1
  clear hps hg hG1 hH1
  go_wp2_with fail
  refine (HST.out p w1 HPS.out).mono ?_
  rintro e w2 ⟨u, rfl, r, y, rfl, hy, hps2, hgo2, hgd⟩
  have hz2 := hgo2.size
  have hp2 := hps2.lt
  have hG2 : Gr w w2 := Go1.up HG1.out hgo2 (by omega)
  have hH2 : w2.heap[w.heap.size]? = some (.cells zeroS.toArray 35 (0, 0)) := (hgo2.get (by omega) (by omega)).trans HH1.out
  have hA := (Gr.refl w2).alloc (.cells zeroS.toArray 35)
  have HAL : Hid ((w2.alloc (.cells zeroS.toArray 35)).heap[w2.heap.size]? = some (.cells zeroS.toArray 35 (0, 0))) := hid (alloc_at _ _)
  have HP3 : Hid (∀ W3, Go1 w2.heap.size (w2.alloc (.cells zeroS.toArray 35)) W3 → PS p W3 R.2) := hid (fun W3 h3 => (hps2.keep hA).go h3 hp2)
  have HG3 : Hid (∀ W3, Go1 w2.heap.size (w2.alloc (.cells zeroS.toArray 35)) W3 → Gr w W3 ∧ W3.heap[w.heap.size]? = some (.cells zeroS.toArray 35 (0, 0)) ∧ StmAt (fun b => w1.heap.size ≤ b ∧ b < w2.heap.size) W3 y r) := hid (fun W3 h3 => by
    refine ⟨(hG2.trans hA).grown h3 (fun g e => by cases e; have := hG2.size; omega), ?_, ?_⟩
    · rw [h3.get (by simp; omega) (by omega), hA.block _ (by omega)]; exact hH2
    · have h1 := (hy.mono (S' := fun b => w1.heap.size ≤ b ∧ b < w2.heap.size) (fun b hl hs => ⟨hs, hl⟩)).of hA.size (fun b _ hl => hA.block b hl)
      exact h1.of h3.size (fun b hb hl => h3.get hl (by have := hb.2; omega)))
  have HGD := hid hgd
  clear hy hps2 hgo2 hgd hG2 hH2 hA HPS HG1 HH1 HST
  unfold SR.val
  go_wp2_with (guard_target =~ wpList _ _ _ (Oper.mk _ (Op.store 35 _ _) _ _ _ _ :: _) _ _; refine st_row (ty := 35) rfl rfl w2.heap.size (SR.cs r).toArray rfl rfl 35 _ HAL.out (by kernel_rfl) rfl (by kernel_rfl) ?_; intro W3 hW3 gW3 zW3)
  obtain ⟨hG3, hH3, hy3⟩ := HG3.out W3 gW3
  have hps3 := HP3.out W3 gW3
  clear HG3 HP3 gW3 HAL
  have HY := hid hy3
  have HBX := hid hW3
  have HG3 := hid hG3
  have HH3 := hid hH3
  clear hy3 hW3 hG3 hH3
  refine (sign_any' p ⟨#[59]⟩ R.2 W3 hps3).mono ?_
  rintro e w4 ⟨rfl, hps4, hgo4⟩
  clear hps3
  have hz4 := hgo4.size
  have hGr4 : Gr w w4 := Go1.up HG3.out hgo4 (by omega)
  have hB4 : w4.heap[w2.heap.size]? = some (.cells (SR.cs r).toArray 35 (0, 0)) := (hgo4.get (by have := (Array.getElem?_eq_some_iff.1 HBX.out).1; exact this) (by omega)).trans HBX.out
  have hH4 : w4.heap[w.heap.size]? = some (.cells zeroS.toArray 35 (0, 0)) := (hgo4.get (Array.getElem?_eq_some_iff.1 HH3.out).1 (by omega)).trans HH3.out
  have hY4 : StmAt (fun b => w1.heap.size ≤ b ∧ b < w2.heap.size) w4 y r := HY.out.of hgo4.size (fun b hb hl => hgo4.get hl (by have := hb.1; omega))
  clear HG3 HBX HH3 HY hgo4
  generalize (R.2.may 4 ⟨#[59]⟩).2 = q at *
  have hx0 : x ≠ 0 := over_bad hq2 (fun e b h => by rw [h] at hps4; exact hps4.1)
  have q1 : (x != 0) = true := by simpa using hx0
  have HX := hid (HX0.out hx0)
  clear HX0 HGD hY4 hB4
  obtain ⟨l, d, e0, a0, hpr⟩ : ∃ l d e a, PR p w4 l d e a := by
    cases h : q with
    | ok l d => rw [h] at hps4; exact ⟨l, _, _, _, hps4.2⟩
    | bad e a => rw [h] at hps4; obtain ⟨_, l, d, h3⟩ := hps4; exact ⟨l, d, _, _, h3⟩
  obtain ⟨b, off, n, c, tk, hn1, hnc, hbl, p0, p2, p3, b0, htk⟩ := tok_head hpr
  have g2 : (0 : Int) < (n : Int) := by omega
  by_cases hk : tk = 5
  · skip
    have q5 : ((tk : Int) != 5) = false := by rw [hk]; rfl
    have hbad : q = .bad x a := by
      rw [← hq2]
      unfold Ps.over
      cases h : q with
      | bad e a => rw [if_pos (.inr rfl)]
      | ok l' d' =>
        rw [if_pos]
        refine .inl ?_
        rw [h] at hps4
        cases l' with
        | nil => exact hps4.2.nil.elim
        | cons t0 r0 =>
          obtain ⟨b9, off9, n9, c9, tk9, _, _, _, p9, _, _, b90, htk9⟩ := tok_head hps4.2
          rw [p0] at p9
          cases p9
          rw [b0] at b90
          have : tk9 = tk := by have := Option.some.inj b90; cases this; rfl
          show t0.tk.kind = 5
          rw [htk9 t0 r0 rfl, this, hk]
    rw [hbad] at hps4
    obtain ⟨_, l', d', hpr'⟩ := hps4
    obtain ⟨b', off', n', c', tk', hn1', hnc', hbl', p0', p2', p3', b0', htk'⟩ := tok_head hpr'
    have H05 := hid hH4
    have HG5 := hid hGr4
    clear hpr hpr' htk htk' p2 p3 hH4 hGr4 p0' b0' hbad hq2
    go_wp2_with fail
    have HP2 := hid p2'
    have HP3 := hid p3'
    clear p2' p3' p0 b0
    obtain ⟨w5, hw5⟩ : ∃ w5, w4 = w5 := ⟨_, rfl⟩
    subst hw5
    have hpl : p < w4.heap.size := lt_of_cell HP2.out
    refine Rg.region_chain 11 [9] [] (ErT w.heap.size w4) [some (.agg zeroS.toArray), some (.pointer (some ⟨p, 0, none⟩)), some (.pointer (some ⟨p, 0, none⟩)), some (.pointer (some ⟨p, 2, none⟩)), some (.int .i64 x), some (.pointer (some ⟨p, 0, none⟩)), some (.pointer (some ⟨p, 0, none⟩)), some (.pointer (some ⟨p, 3, none⟩)), some (.int .i64 (a : Int)), some undef, some (.int .i64 x)]
      (fun v => ErT.s0 ((Gr.refl _).drew)) (by kernel_rfl) (by kernel_rfl) (by kernel_rfl) (by kernel_rfl) (fun _ _ d _ _ h => by cases d <;> exact h) ?_
    intro OPS HOPS v
    clear HOPS
    simp only [List.take_succ_cons, List.take_zero, Rg.wpC, Rg.wpS, Option.getD_some, Option.getD_none, Act.put, List.setIfInBounds_toArray, List.set_cons_zero, List.set_cons_succ, show List.contains [9] 0 = false from rfl, show List.contains [9] 1 = false from rfl, show List.contains [9] 2 = false from rfl, show List.contains [9] 3 = false from rfl, show List.contains [9] 4 = false from rfl, show List.contains [9] 5 = false from rfl, show List.contains [9] 6 = false from rfl, show List.contains [9] 7 = false from rfl, show List.contains [9] 8 = false from rfl, show List.contains [9] 9 = true from rfl, show List.contains [9] 10 = false from rfl, Bool.false_eq_true, if_false, if_true, Nat.reduceAdd]
    have cP : ∀ s v W, ErT w.heap.size w4 s v W → W.cell? ⟨p, 2, none⟩ = some (.int .i64 x) ∧ W.cell? ⟨p, 3, none⟩ = some (.int .i64 (a : Int)) := fun s v W h => by
      have hg := h.go
      exact ⟨by rw [hg.cell hpl (by omega)]; exact HP2.out, by rw [hg.cell hpl (by omega)]; exact HP3.out⟩
    refine ⟨?_, ?_, ?_, ?_, ?_, ?_, ?_, ?_, ?_, ?_, ?_, ?_⟩
    · refine sc_still (by rfl) (by rfl) (fun s' W _ hS => ?_)
      clear cP hS
      go_simp
      exact rfl
    iterate 8
      · refine sc_still (by rfl) (by rfl) (fun s' W _ hS => ?_)
        obtain ⟨cp2, cp3⟩ := cP _ _ _ hS
        clear cP hS
        go_simp
    · refine sc_call (by rfl) (by rfl) (fun W hS => ?_)
      have hg := hS.g0
      have hz : W.heap[w.heap.size]? = some (.cells zeroS.toArray 35 (0, 0)) := (hg.block _ (Array.getElem?_eq_some_iff.1 H05.out).1).trans H05.out
      refine brings_store rfl w.heap.size 0 zeroS.toArray rfl rfl (fun j hj => ⟨?_, Rg.blk_free hz _⟩) (by kernel_rfl) (by kernel_rfl) ⟨rfl, ErT.s1 ((Go1.of hg).trans (setCells_go _ _ _)) ?_⟩
      · rw [Nat.zero_add, Rg.blk_cells hz, Array.getElem?_eq_getElem hj]; rfl
      · have h1 := setCells_heap zeroS 0 zeroS W hz
        rw [putL_self zeroS 0 zeroS rfl] at h1
        exact h1
    · refine sc_still (by rfl) (by rfl) (fun s' W _ hS => ?_)
      clear cP hS
      go_simp
    intro W9 hS
    obtain ⟨h5, hW9⟩ := hS.g1
    simp only [List.drop_succ_cons, List.drop_zero]
    have HF := hid (HX.out W9 (HG5.out.grown h5 (fun g e => by cases e; exact Nat.le_refl _)))
    clear hS h5 cP
    go_wp2
    (try change bodyPost _ _ _ _ _ _)
    refine bodyPost_ret (v := .tuple #[noS, .int .i64 x, .int .i64 (a : Int)]) (res_stm rfl rfl rfl hW9 (by kernel_rfl)) rfl HF.out
  · have q5 : ((tk : Int) != 5) = true := by simp; omega
    have hover : q.fail 180 = .bad x a := by
      rw [← hq2]
      unfold Ps.over
      cases h : q with
      | bad e a => rw [if_pos (.inr rfl)]; rfl
      | ok l' d' =>
        rw [if_neg]
        rintro (h5 | h5)
        · rw [h] at hps4
          cases l' with
          | nil => exact hps4.2.nil
          | cons t0 r0 =>
            obtain ⟨b9, off9, n9, c9, tk9, _, _, _, p9, _, _, b90, htk9⟩ := tok_head hps4.2
            rw [p0] at p9
            cases p9
            rw [b0] at b90
            have e9 : tk9 = tk := by have := Option.some.inj b90; cases this; rfl
            have h5' : t0.tk.kind = 5 := h5
            rw [htk9 t0 r0 rfl, e9] at h5'
            exact hk h5'
        · cases h5
    have HPS4 := hid hps4
    have HH4 := hid hH4
    have HGr4 := hid hGr4
    clear hpr htk p2 p3 hH4 hGr4 hq2 hps4
    go_wp2_with fail
    refine (wrong_any p q _ HPS4.out).mono ?_
    rintro e w5 ⟨rfl, hps5, hg5⟩
    rw [hover] at hps5
    obtain ⟨_, l', d', hpr'⟩ := hps5
    obtain ⟨b', off', n', c', tk', hn1', hnc', hbl', p0', p2', p3', b0', htk'⟩ := tok_head hpr'
    have H05 : Hid (w5.heap[w.heap.size]? = some (.cells zeroS.toArray 35 (0, 0))) := hid ((hg5.get (Array.getElem?_eq_some_iff.1 HH4.out).1 (by omega)).trans HH4.out)
    have HG5 : Hid (Gr w w5) := hid (Go1.up HGr4.out hg5 (by omega))
    clear hpr' htk' p0 b0 hg5 HH4 HGr4 HPS4 hover
    go_wp2_with fail
    have HP2 := hid p2'
    have HP3 := hid p3'
    clear p2' p3' p0' b0'
    have hpl : p < w5.heap.size := lt_of_cell HP2.out
    refine Rg.region_chain 11 [9] [] (ErT w.heap.size w5) [some (.agg zeroS.toArray), some (.pointer (some ⟨p, 0, none⟩)), some (.pointer (some ⟨p, 0, none⟩)), some (.pointer (some ⟨p, 2, none⟩)), some (.int .i64 x), some (.pointer (some ⟨p, 0, none⟩)), some (.pointer (some ⟨p, 0, none⟩)), some (.pointer (some ⟨p, 3, none⟩)), some (.int .i64 (a : Int)), some undef, some (.int .i64 x)]
      (fun v => ErT.s0 ((Gr.refl _).drew)) (by kernel_rfl) (by kernel_rfl) (by kernel_rfl) (by kernel_rfl) (fun _ _ d _ _ h => by cases d <;> exact h) ?_
    intro OPS HOPS v
    clear HOPS
    simp only [List.take_succ_cons, List.take_zero, Rg.wpC, Rg.wpS, Option.getD_some, Option.getD_none, Act.put, List.setIfInBounds_toArray, List.set_cons_zero, List.set_cons_succ, show List.contains [9] 0 = false from rfl, show List.contains [9] 1 = false from rfl, show List.contains [9] 2 = false from rfl, show List.contains [9] 3 = false from rfl, show List.contains [9] 4 = false from rfl, show List.contains [9] 5 = false from rfl, show List.contains [9] 6 = false from rfl, show List.contains [9] 7 = false from rfl, show List.contains [9] 8 = false from rfl, show List.contains [9] 9 = true from rfl, show List.contains [9] 10 = false from rfl, Bool.false_eq_true, if_false, if_true, Nat.reduceAdd]
    have cP : ∀ s v W, ErT w.heap.size w5 s v W → W.cell? ⟨p, 2, none⟩ = some (.int .i64 x) ∧ W.cell? ⟨p, 3, none⟩ = some (.int .i64 (a : Int)) := fun s v W h => by
      have hg := h.go
      exact ⟨by rw [hg.cell hpl (by omega)]; exact HP2.out, by rw [hg.cell hpl (by omega)]; exact HP3.out⟩
    refine ⟨?_, ?_, ?_, ?_, ?_, ?_, ?_, ?_, ?_, ?_, ?_, ?_⟩
    · refine sc_still (by rfl) (by rfl) (fun s' W _ hS => ?_)
      clear cP hS
      go_simp
      exact rfl
    iterate 8
      · refine sc_still (by rfl) (by rfl) (fun s' W _ hS => ?_)
        obtain ⟨cp2, cp3⟩ := cP _ _ _ hS
        clear cP hS
        go_simp
    · refine sc_call (by rfl) (by rfl) (fun W hS => ?_)
      have hg := hS.g0
      have hz : W.heap[w.heap.size]? = some (.cells zeroS.toArray 35 (0, 0)) := (hg.block _ (Array.getElem?_eq_some_iff.1 H05.out).1).trans H05.out
      refine brings_store rfl w.heap.size 0 zeroS.toArray rfl rfl (fun j hj => ⟨?_, Rg.blk_free hz _⟩) (by kernel_rfl) (by kernel_rfl) ⟨rfl, ErT.s1 ((Go1.of hg).trans (setCells_go _ _ _)) ?_⟩
      · rw [Nat.zero_add, Rg.blk_cells hz, Array.getElem?_eq_getElem hj]; rfl
      · have h1 := setCells_heap zeroS 0 zeroS W hz
        rw [putL_self zeroS 0 zeroS rfl] at h1
        exact h1
    · refine sc_still (by rfl) (by rfl) (fun s' W _ hS => ?_)
      clear cP hS
      go_simp
    intro W9 hS
    obtain ⟨h5, hW9⟩ := hS.g1
    simp only [List.drop_succ_cons, List.drop_zero]
    have HF := hid (HX.out W9 (HG5.out.grown h5 (fun g e => by cases e; exact Nat.le_refl _)))
    clear hS h5 cP
    go_wp2
    (try change bodyPost _ _ _ _ _ _)
    refine bodyPost_ret (v := .tuple #[noS, .int .i64 x, .int .i64 (a : Int)]) (res_stm rfl rfl rfl hW9 (by kernel_rfl)) rfl HF.out
theorem pstm_any (t : ByteArray) (w : World) (hsz : t.size ≤ maxLen) (m : Int) (hm : w.cell? ⟨0, 0, none⟩ = some (.int .i64 m)) : Calls Try.prog 8 #[.string t] w (StmtP t w) := by
  have HB := begin_any t (w.alloc (.cells zeroS.toArray 35)) hsz m (((Gr.refl w).alloc _).keep hm)
  cases hr : readS t with
  | bad x a => exact pstm_bad t w x a hr HB
  | ok l0 d0 =>
    have hd : d0 = 0 ∧ l0.length ≤ 4097 := by
      unfold readS at hr
      split at hr
      · cases hr
      · split at hr
        · rename_i hl
          cases hr
          have := lexN_len _ _ _ _ _ hl
          refine ⟨rfl, ?_⟩
          simp at this
          omega
        · cases hr
    obtain ⟨rfl, hl0⟩ := hd
    cases hq : (stmT t).2 with
    | bad x a => exact pstm_err t w l0 hr hl0 x a hq HB
    | ok l d =>
      have h5 := over_ok (show ((stmS (readS t)).2.may 4 ⟨#[59]⟩).2.over = .ok l d from hq)
      exact pstm_good t w l0 hr hl0 l d h5.1 h5.2 HB
end Go.Proofs.Ytaogpifcfmjcbaa
end
section
namespace Go.Proofs.Ytaogpifcfmjcbaa
open Go.RowKit
set_option linter.unusedSimpArgs false
set_option linter.unusedVariables false
attribute [local go_sem] Rg.leads_value Rg.leads_skip Rg.leads_enter Rg.brings_value Rg.brings_skip Rg.brings_enter Rg.bringsG_value Rg.bringsG_enter Rg.once_normal Rg.once_exit Rg.once_ret Rg.once_panic Rg.once_goto Rg.bringsS_value Rg.bringsS_skip Rg.bringsS_enter Rg.still_value Rg.still_skip Rg.still_enter
def kinds : List ByteArray := [⟨#[]⟩, ⟨#[99, 114, 101, 97, 116, 101, 32, 116, 97, 98, 108, 101]⟩, ⟨#[100, 114, 111, 112, 32, 116, 97, 98, 108, 101]⟩, ⟨#[99, 114, 101, 97, 116, 101, 32, 105, 110, 100, 101, 120]⟩, ⟨#[100, 114, 111, 112, 32, 105, 110, 100, 101, 120]⟩, ⟨#[105, 110, 115, 101, 114, 116]⟩, ⟨#[117, 112, 100, 97, 116, 101]⟩, ⟨#[100, 101, 108, 101, 116, 101]⟩, ⟨#[115, 101, 108, 101, 99, 116]⟩, ⟨#[98, 101, 103, 105, 110]⟩, ⟨#[99, 111, 109, 109, 105, 116]⟩, ⟨#[114, 111, 108, 108, 98, 97, 99, 107]⟩, ⟨#[115, 97, 118, 101, 112, 111, 105, 110, 116]⟩, ⟨#[114, 111, 108, 108, 98, 97, 99, 107, 32, 116, 111]⟩, ⟨#[114, 101, 108, 101, 97, 115, 101]⟩]
def kindS (n : Int) : ByteArray := if n < 0 then ⟨#[]⟩ else (kinds[n.toNat]?).getD ⟨#[]⟩
def kcs : List Value := kinds.map Value.string
def kz : List Value := List.replicate 15 (.string ⟨#[]⟩)
set_option maxHeartbeats 4000000 in
set_option maxRecDepth 100000 in
theorem kind_any (n : Int) (w : World) : Calls Try.prog 12 #[.int .i64 n] w fun e w' => e = .returned (.string (kindS n)) ∧ Gr w w' := by
  have HK : Hid (∀ W, (.string (kindS n) : Value) = .string (kindS n) ∧ (Gr w W → Gr w W)) := hid (fun W => ⟨rfl, id⟩)
  have H0 : Hid ((w.alloc (.cells kz.toArray 67)).heap[w.heap.size]? = some (.cells kz.toArray 67 (0, 0))) := hid (alloc_at _ _)
  have HG : Hid (∀ W5, Go1 w.heap.size (w.alloc (.cells kz.toArray 67)) W5 → Gr w W5) := hid (fun W5 h5 => ((Gr.refl w).alloc _).grown h5 (fun g e => by cases e; exact Nat.le_refl _))
  rcases Int.lt_or_le n 0 with hn | hn
  · have t0 : decide (n < 0) = true := by simpa using hn
    have HS : Hid (kindS n = ⟨#[]⟩) := hid (by unfold kindS; rw [if_pos hn])
    go_enter Try.func12, Try.ntmps12
    go_wp2_with (guard_target =~ wpList _ _ _ (Oper.mk _ (Op.store 67 _ _) _ _ _ _ :: _) _ _; refine st_row (ty := 67) rfl rfl w.heap.size kcs.toArray rfl rfl 67 _ H0.out (by kernel_rfl) rfl (by kernel_rfl) ?_; intro W5 hW5 gW5 zW5; have hg := HG.out W5 gW5; clear gW5 zW5)
    (try change bodyPost _ _ _ _ _ _)
    refine bodyPost_ret (v := .string ⟨#[]⟩) (by simp [results, Try.results12, go_sem]) rfl ⟨by rw [HS.out], hg⟩
  · obtain ⟨k, rfl⟩ := Int.eq_ofNat_of_zero_le hn
    have t0 : decide ((k : Int) < 0) = false := by simp
    by_cases hk : k < 15
    · have t1 : decide (15 ≤ (k : Int)) = false := by rw [decide_eq_false_iff_not]; omega
      have g1 : (k : Int) < 15 := by omega
      obtain ⟨s, hs⟩ : ∃ s, kinds[k]? = some s := ⟨_, List.getElem?_eq_getElem (show k < kinds.length from hk)⟩
      have HS : Hid (kindS (k : Int) = s) := hid (by unfold kindS; rw [if_neg (by omega)]; show (kinds[k]?).getD _ = s; rw [hs]; rfl)
      have HC : Hid (∀ W : World, W.heap[w.heap.size]? = some (.cells kcs.toArray 67 (0, 0)) → W.cell? ⟨w.heap.size, k, none⟩ = some (.string s)) := hid (fun W h => by
        rw [Rg.blk_cells h]
        show kcs.toArray[k]? = _
        simp [kcs, hs])
      clear hs hn
      go_enter Try.func12, Try.ntmps12
      go_wp2_with (guard_target =~ wpList _ _ _ (Oper.mk _ (Op.store 67 _ _) _ _ _ _ :: _) _ _; refine st_row (ty := 67) rfl rfl w.heap.size kcs.toArray rfl rfl 67 _ H0.out (by kernel_rfl) rfl (by kernel_rfl) ?_; intro W5 hW5 gW5 zW5; have hg := HG.out W5 gW5; have hc := HC.out W5 hW5; clear gW5 zW5 hW5)
      (try change bodyPost _ _ _ _ _ _)
      refine bodyPost_ret (v := .string s) (by simp [results, Try.results12, go_sem]) rfl ⟨by rw [HS.out], hg⟩
    · have t1 : decide (15 ≤ (k : Int)) = true := by rw [decide_eq_true_iff]; omega
      have HS : Hid (kindS (k : Int) = ⟨#[]⟩) := hid (by
        unfold kindS
        rw [if_neg (by omega)]
        show (kinds[k]?).getD _ = _
        rw [List.getElem?_eq_none (by show 15 ≤ k; omega)]
        rfl)
      clear hn
      go_enter Try.func12, Try.ntmps12
      go_wp2_with (guard_target =~ wpList _ _ _ (Oper.mk _ (Op.store 67 _ _) _ _ _ _ :: _) _ _; refine st_row (ty := 67) rfl rfl w.heap.size kcs.toArray rfl rfl 67 _ H0.out (by kernel_rfl) rfl (by kernel_rfl) ?_; intro W5 hW5 gW5 zW5; have hg := HG.out W5 gW5; clear gW5 zW5)
      (try change bodyPost _ _ _ _ _ _)
      refine bodyPost_ret (v := .string ⟨#[]⟩) (by simp [results, Try.results12, go_sem]) rfl ⟨by rw [HS.out], hg⟩
theorem exprP_ok {t : ByteArray} {w w' : World} {e : Ending} (h : ExprP t w e w') {x : Ex} {l : List Lx.Tok} {d : Nat} (hx : exprT t = (x, .ok l d)) : Gr w w' ∧ ∃ r, e = .returned (.tuple #[XR.val r, .int .i64 0, .int .i64 0]) ∧ Ex.At (Nw w) w' x r := by
  obtain ⟨h1, h2⟩ := h
  rw [hx] at h2
  exact ⟨h1, h2⟩
theorem exprP_bad {t : ByteArray} {w w' : World} {e : Ending} (h : ExprP t w e w') {x : Int} {a : Nat} (hx : (exprT t).2 = .bad x a) : Gr w w' ∧ e = .returned (.tuple #[noX, .int .i64 x, .int .i64 (a : Int)]) := by
  obtain ⟨h1, h2⟩ := h
  rw [hx] at h2
  exact ⟨h1, h2.2⟩
theorem stmtP_ok {t : ByteArray} {w w' : World} {e : Ending} (h : StmtP t w e w') {x : Stm} {l : List Lx.Tok} {d : Nat} (hx : stmT t = (x, .ok l d)) : Gr w w' ∧ ∃ r, e = .returned (.tuple #[SR.val r, .int .i64 0, .int .i64 0]) ∧ StmAt (Nw w) w' x r := by
  obtain ⟨h1, h2⟩ := h
  rw [hx] at h2
  exact ⟨h1, h2⟩
theorem stmtP_bad {t : ByteArray} {w w' : World} {e : Ending} (h : StmtP t w e w') {x : Int} {a : Nat} (hx : (stmT t).2 = .bad x a) : Gr w w' ∧ x ≠ 0 ∧ e = .returned (.tuple #[noS, .int .i64 x, .int .i64 (a : Int)]) := by
  obtain ⟨h1, h2⟩ := h
  rw [hx] at h2
  exact ⟨h1, h2⟩
theorem at_kid {S : Nat → Prop} {w : World} {h : Hd} {ks : List Ex} {r : XR} (hx : Ex.At S w (.mk h ks) r) : r.h = h ∧ r.n = ks.length ∧ r.n ≤ r.cap ∧ ∀ k (hk : k < ks.length), ∃ b off rk, r.oa = some ⟨b, off, none⟩ ∧ S b ∧ b < w.heap.size ∧ Ex.At S w ks[k] rk ∧ ∀ i u, (xF rk)[i]? = some u → w.cell? ⟨b, off + k * 12 + i, none⟩ = some u := by
  have hx0 := hx
  unfold Ex.At at hx
  obtain ⟨h1, h2, h3, rs, h4, h5, h6⟩ := hx
  refine ⟨h1, h2, h3.1, fun k hk => ?_⟩
  have hkr : k < rs.length := by rw [h4]; exact hk
  rcases h5 with h0 | ⟨b, off, hoa, hbl, hSb, hfr, hr⟩
  · rw [h0] at hkr; simp at hkr
  · exact ⟨b, off, rs[k], hoa, hSb, hbl, h6.get k hk hkr, hr k hkr⟩
def opOf : List Ex → Nat → Int
  | ks, k => ((ks[k]?).map (fun x => x.hd.op)).getD 0
theorem aw_1 : (match exprT ⟨#[97, 32, 43, 32, 50, 32, 42, 32, 98]⟩ with | (x, .ok _ _) => x.hd.op == 18 && x.ks.length == 2 && opOf x.ks 1 == 20 | _ => false) = true := by kernel_rfl
theorem aw_2 : (match stmT ⟨#[83, 69, 76, 69, 67, 84, 32, 42, 32, 70, 82, 79, 77, 32, 116, 32, 76, 73, 77, 73, 84, 32, 49]⟩ with | (x, .ok _ _) => x.kind == 8 && x.limit == 1 | _ => false) = true := by kernel_rfl
theorem aw_3 : (match (exprT ⟨#[97, 32, 61, 32, 98, 32, 61, 32, 99]⟩).2 with | .bad e a => e == 180 && a == 6 | _ => false) = true := by kernel_rfl
theorem aw1 : ∃ h x0 h1 k1 l d, exprT ⟨#[97, 32, 43, 32, 50, 32, 42, 32, 98]⟩ = (.mk h [x0, .mk h1 k1], .ok l d) ∧ h.op = 18 ∧ h1.op = 20 := by
  have h := aw_1
  revert h
  generalize exprT ⟨#[97, 32, 43, 32, 50, 32, 42, 32, 98]⟩ = q
  intro h
  obtain ⟨⟨hd, ks⟩, s⟩ := q
  cases s with
  | bad e a => cases h
  | ok l d =>
    simp only [Ex.hd, Ex.ks, Bool.and_eq_true, beq_iff_eq] at h
    obtain ⟨⟨h1, h2⟩, h3⟩ := h
    match ks, h2, h3 with
    | [x0, .mk h9 k9], _, h3 => exact ⟨hd, x0, h9, k9, l, d, rfl, h1, h3⟩
theorem aw2 : ∃ x l d, stmT ⟨#[83, 69, 76, 69, 67, 84, 32, 42, 32, 70, 82, 79, 77, 32, 116, 32, 76, 73, 77, 73, 84, 32, 49]⟩ = (x, .ok l d) ∧ x.kind = 8 ∧ x.limit = 1 := by
  have h := aw_2
  revert h
  generalize stmT ⟨#[83, 69, 76, 69, 67, 84, 32, 42, 32, 70, 82, 79, 77, 32, 116, 32, 76, 73, 77, 73, 84, 32, 49]⟩ = q
  intro h
  obtain ⟨x, s⟩ := q
  cases s with
  | bad e a => cases h
  | ok l d =>
    simp only [Bool.and_eq_true, beq_iff_eq] at h
    exact ⟨x, l, d, rfl, h.1, h.2⟩
theorem aw3 : (exprT ⟨#[97, 32, 61, 32, 98, 32, 61, 32, 99]⟩).2 = .bad 180 6 := by
  have h := aw_3
  revert h
  generalize (exprT ⟨#[97, 32, 61, 32, 98, 32, 61, 32, 99]⟩).2 = q
  intro h
  cases q with
  | ok l d => cases h
  | bad e a =>
    simp only [Bool.and_eq_true, beq_iff_eq] at h
    rw [h.1, h.2]
theorem gr_box {w w1 W : World} {g : Nat} (h : Gr w w1) (hg : g = w1.heap.size) {o : Obj} (h5 : Go1 g (w1.alloc o) W) : Gr w W := (h.alloc o).grown h5 (fun b e => by cases e; rw [hg]; exact h.size)
theorem gr_box1 {w1 W : World} {o : Obj} (h5 : Go1 w1.heap.size (w1.alloc o) W) : Gr w1 W := gr_box (Gr.refl w1) rfl h5
set_option maxHeartbeats 8000000 in
set_option maxRecDepth 100000 in
theorem awake_any (w : World) (m : Int) (hm : w.cell? ⟨0, 0, none⟩ = some (.int .i64 m)) : Calls Try.prog 7 #[] w fun e w' => e = .returned (.bool true) ∧ Gr w w' := by
  have H1 := hid (pexpr_any ⟨#[97, 32, 43, 32, 50, 32, 42, 32, 98]⟩ w (by decide) m hm)
  have H2 : Hid (∀ W, Gr w W → _) := hid (fun W h => pstm_any ⟨#[83, 69, 76, 69, 67, 84, 32, 42, 32, 70, 82, 79, 77, 32, 116, 32, 76, 73, 77, 73, 84, 32, 49]⟩ W (by decide) m (Gr.keep h hm))
  have H3 : Hid (∀ W, Gr w W → _) := hid (fun W h => pexpr_any ⟨#[97, 32, 61, 32, 98, 32, 61, 32, 99]⟩ W (by decide) m (Gr.keep h hm))
  clear hm
  go_enter Try.func7, Try.ntmps7
  go_wp2_with fail
  refine H1.out.mono ?_
  rintro e w1 he
  obtain ⟨hd, x0, h1, k1, l1, d1, e1, o1, o2⟩ := aw1
  obtain ⟨hg1, r, rfl, hat⟩ := exprP_ok he e1
  clear he e1 H1
  obtain ⟨rh, rn, rc, kid⟩ := at_kid hat
  obtain ⟨b, off, rk, hoa, hSb, hbl, hkat, hkc⟩ := kid 1 (show 1 < 2 by decide)
  have hop := (at_kid hkat).1
  have ck := hkc 0 _ rfl
  rw [hop, o2] at ck
  have HAL := hid (alloc_at w1 (.cells zeroX 32))
  have HC1 : Hid (∀ W, Gr w1 W → W.cell? ⟨b, off + 12, none⟩ = some (.int .i64 20)) := hid (fun W h => h.keep ck)
  have HX1 : Hid (∀ W : World, W.heap[w1.heap.size]? = some (.cells (xF r).toArray 32 (0, 0)) → W.cell? ⟨w1.heap.size, 0, none⟩ = some (.int .i64 18) ∧ W.cell? ⟨w1.heap.size, 11, none⟩ = some (.slice (some ⟨b, off, none⟩) 2 r.cap)) := hid (fun W h => by
    rw [Rg.blk_cells h, Rg.blk_cells h]
    refine ⟨?_, ?_⟩
    · show some (Value.int .i64 r.h.op) = _; rw [rh, o1]
    · show some (Value.slice r.oa r.n r.cap) = _; rw [hoa, rn]; rfl)
  have HG1 := hid hg1
  clear hg1 hat kid hkat hkc ck rh rn rc hop o1 o2 hoa hSb
  unfold XR.val
  go_wp2_with (guard_target =~ wpList _ _ _ (Oper.mk _ (Op.store 32 _ _) _ _ _ _ :: _) _ _; refine st_row (ty := 32) rfl rfl w1.heap.size (xF r).toArray rfl rfl 32 _ HAL.out (by kernel_rfl) rfl (by kernel_rfl) ?_; intro W1 hW1 gW1 zW1)
  have hgw1 : Gr w W1 := gr_box HG1.out rfl gW1
  obtain ⟨c0, c11⟩ := HX1.out W1 hW1
  have ck1 := HC1.out W1 (gr_box1 gW1)
  have HGW1 := hid hgw1
  have HCK1 := hid ck1
  have HC0 := hid c0
  have HC11 := hid c11
  have hlt1 : w1.heap.size < W1.heap.size := lt_of_cell c0
  clear HX1 HC1 HG1 gW1 hW1 zW1 hgw1 c0 c11 ck1 HAL
  refine (H2.out W1 HGW1.out).mono ?_
  rintro e w2 he
  obtain ⟨x2, l2, d2, e2, o1, o2⟩ := aw2
  obtain ⟨hg2, r2, rfl, hat2⟩ := stmtP_ok he e2
  have hk2 := hat2.kind
  have hm2 := hat2.limit
  rw [o1] at hk2
  rw [o2] at hm2
  clear he e2 H2 o1 o2 hat2
  have HAL : Hid ((w2.alloc (.cells zeroS.toArray 35)).heap[w2.heap.size]? = some (.cells zeroS.toArray 35 (0, 0))) := hid (alloc_at _ _)
  have HX2 : Hid (∀ W : World, W.heap[w2.heap.size]? = some (.cells (SR.cs r2).toArray 35 (0, 0)) → W.cell? ⟨w2.heap.size, 0, none⟩ = some (.int .i64 8) ∧ W.cell? ⟨w2.heap.size, 39, none⟩ = some (.int .i64 1)) := hid (fun W h => by
    rw [Rg.blk_cells h, Rg.blk_cells h]
    refine ⟨?_, ?_⟩
    · show some (Value.int .i64 r2.kind) = _; rw [hk2]
    · show some (Value.int .i64 r2.limit) = _; rw [hm2])
  have HG2 := hid (HGW1.out.trans hg2)
  have HK2 : Hid (∀ W, Gr w2 W → W.cell? ⟨w1.heap.size, 0, none⟩ = some (.int .i64 18) ∧ W.cell? ⟨w1.heap.size, 11, none⟩ = some (.slice (some ⟨b, off, none⟩) 2 r.cap) ∧ W.cell? ⟨b, off + 12, none⟩ = some (.int .i64 20)) := hid (fun W h => ⟨(hg2.trans h).keep HC0.out, (hg2.trans h).keep HC11.out, (hg2.trans h).keep HCK1.out⟩)
  clear hg2 HC0 HC11 HCK1 HGW1 hk2 hm2 hlt1
  unfold SR.val
  go_wp2_with (guard_target =~ wpList _ _ _ (Oper.mk _ (Op.store 35 _ _) _ _ _ _ :: _) _ _; refine st_row (ty := 35) rfl rfl w2.heap.size (SR.cs r2).toArray rfl rfl 35 _ HAL.out (by kernel_rfl) rfl (by kernel_rfl) ?_; intro W2 hW2 gW2 zW2)
  have HGW2 := hid (gr_box HG2.out rfl gW2)
  have HX := hid (HX2.out W2 hW2)
  have HK := hid (fun W (h : Gr W2 W) => HK2.out W ((gr_box1 gW2).trans h))
  clear HX2 HK2 HG2 gW2 hW2 zW2 HAL
  refine (H3.out W2 HGW2.out).mono ?_
  rintro e w3 he
  obtain ⟨hg3, rfl⟩ := exprP_bad he aw3
  clear he H3
  have HAL := hid (alloc_at w3 (.cells zeroX 32))
  have HG3 := hid (HGW2.out.trans hg3)
  have HK3 := hid (fun W (h : Gr w3 W) => HK.out W (hg3.trans h))
  have HX3 : Hid (∀ W, Gr w3 W → W.cell? ⟨w2.heap.size, 0, none⟩ = some (.int .i64 8) ∧ W.cell? ⟨w2.heap.size, 39, none⟩ = some (.int .i64 1)) := hid (fun W h => ⟨(hg3.trans h).keep HX.out.1, (hg3.trans h).keep HX.out.2⟩)
  clear hg3 HK HX HGW2
  unfold noX
  go_wp2_with (guard_target =~ wpList _ _ _ (Oper.mk _ (Op.store 32 _ _) _ _ _ _ :: _) _ _; refine st_row (ty := 32) rfl rfl w3.heap.size zeroX rfl rfl 32 _ HAL.out (by kernel_rfl) rfl (by kernel_rfl) ?_; intro W3 hW3 gW3 zW3; obtain ⟨c0, c11, ck⟩ := HK3.out W3 (gr_box1 gW3); obtain ⟨s0, s39⟩ := HX3.out W3 (gr_box1 gW3); have HG := hid (gr_box HG3.out rfl gW3); clear HK3 HX3 HG3 gW3 hW3 zW3 HAL)
  refine (kind_any 8 W3).mono ?_
  rintro e w4 ⟨rfl, hg4⟩
  have HG4 := hid (HG.out.trans hg4)
  rw [show kindS 8 = ⟨#[115, 101, 108, 101, 99, 116]⟩ from by kernel_rfl]
  clear hg4 HG c0 c11 ck s0 s39
  go_wp2
  go_ret
  exact ⟨rfl, HG4.out⟩
end Go.Proofs.Ytaogpifcfmjcbaa
end
section
namespace Go.Proofs.Ytaogpifcfmjcbaa
open Go.RowKit Go.WideShapes Go.ChangeShapes
set_option linter.unusedVariables false
section
variable {H : Type} {enc : TypeId × Value → H} {P : Program} {f : Func} {s : ChangeSpec} {apart fresh handsOn again : Bool} {W W' : World} {args : Array Value} {v : Value} {ds gs : List (DataW H)} {before pa pv : List MemPlace}
theorem post_kept (hW : DataW.Whole enc P f.params.toList s.vars apart W args.toList ds gs before) (hb : Below W.heap.size W W') (hps : before = pa ++ pv)
    (hres : ∀ (b : Nat) (sp : Nat → Bool) (hd : Bool), DataW.TrodAll enc P W' b sp hd f.resultTypes.toList (v.resultList f.resultTypes.size) (s.fn H (ds ++ gs)).results [])
    (hargs : ∀ sp : Nat → Bool, (∀ p ∈ before, sp p.block = true) → DataW.TrodAll enc P W' 0 sp true f.params.toList args.toList (s.fn H (ds ++ gs)).args pa)
    (hvars : ∀ sp : Nat → Bool, (∀ p ∈ before, sp p.block = true) → DataW.TrodVars enc P W' sp s.vars (s.fn H (ds ++ gs)).vars pv)
    (hok : ∀ (j : Nat) (t : TypeId) (r : Value), f.resultTypes[j]? = some t → (v.resultList f.resultTypes.size)[j]? = some r → Value.okWide P W' .any 0 t r) :
    s.post enc P f apart fresh handsOn again W args v W' := by
  have below : ∀ p ∈ before, p.block < W.heap.size := fun p hp => hW.lt p hp
  have seen : ∀ p ∈ before, decide (p.block < W.heap.size) = true := fun p hp => decide_eq_true (below p hp)
  have whole := hW
  obtain ⟨_, _, _, _, _, frz, ndp⟩ := whole
  refine ⟨ds, gs, before, [], pa, pv, hW, hres _ _ _, hargs (fun b => decide (b < W.heap.size)) seen, hvars (fun b => decide (b < W.heap.size)) seen, ?_, fun _ => ⟨hok, _, _, ([] ++ pa) ++ pv, ⟨[] ++ pa, pv, trodAll_append (hargs _ (fun _ _ => rfl)) (hres _ _ _), hvars _ (fun _ _ => rfl), rfl, ?_, ?_⟩, ?_⟩⟩
  · refine World.keptBut_mono (fun p hp => ⟨hp, ?_⟩) (hb.frame (· ∈ before))
    rw [hps, List.mem_append] at hp
    exact Or.inr hp
  · intro b off hp
    have hin : MemPlace.cell b off ∈ before := by rw [hps]; simpa using hp
    rw [hb.frozen (below _ hin)]
    exact frz b off hin
  · intro ha
    have h := ndp ha
    rw [hps] at h
    simpa using h
  · intro p hp _
    rw [hps]
    simpa using hp
end
def Yes (w : World) (e : Ending) (w' : World) : Prop := e = .returned (.bool true) ∧ Below w.heap.size w w'
end Go.Proofs.Ytaogpifcfmjcbaa
end
section
namespace Go.Proofs.Ytaogpifcfmjcbaa.Rl
open Lx
set_option linter.unusedVariables false
def tkE : Tk := ⟨5, [], 0⟩
def tkS : Tk := ⟨4, [59], 0⟩
def R (s s' : Ps) : Prop := (∃ ts l l' d, s = .ok l d ∧ s' = .ok l' d ∧ l.map Tok.tk = ts ++ [tkE] ∧ l'.map Tok.tk = ts ++ [tkS, tkE] ∧ (∀ t ∈ ts, t.kind ≠ 5 ∧ t ≠ tkS ∧ (t.kind = 4 → t.text ≠ [59]))) ∨ ∃ e a a', s = .bad e a ∧ s' = .bad e a'
def Rr {α : Type} (q q' : α × Ps) : Prop := q.1 = q'.1 ∧ R q.2 q'.2
def RPN {α : Type} (N : Nat) (p p' : Pa α) : Prop := ∀ s s', R s s' → s.size < N → Rr (p s) (p' s')
def RP {α : Type} (p p' : Pa α) : Prop := ∀ s s', R s s' → Rr (p s) (p' s')
theorem R.head {s s' : Ps} (h : R s s') : (∃ t t' l l' d, s = .ok (t :: l) d ∧ s' = .ok (t' :: l') d ∧ ((t.tk = t'.tk ∧ t.tk.kind ≠ 5 ∧ (t.tk.kind = 4 → t.tk.text ≠ [59]) ∧ R (.ok l d) (.ok l' d) ∧ 1 ≤ l.length ∧ 1 ≤ l'.length) ∨ (t.tk = tkE ∧ l = [] ∧ t'.tk = tkS ∧ ∃ e, l' = [e] ∧ e.tk = tkE))) ∨ ∃ e a a', s = .bad e a ∧ s' = .bad e a' := by
  rcases h with ⟨ts, l, l', d, rfl, rfl, h1, h2, h3⟩ | h
  · left
    cases ts with
    | nil =>
      obtain ⟨t, r, rfl, e1, h1⟩ := List.map_eq_cons_iff.1 h1
      have := List.map_eq_nil_iff.1 h1
      subst this
      obtain ⟨t', r', rfl, e2, h2⟩ := List.map_eq_cons_iff.1 h2
      obtain ⟨t2, r2, rfl, e3, h2⟩ := List.map_eq_cons_iff.1 h2
      have := List.map_eq_nil_iff.1 h2
      subst this
      exact ⟨t, t', [], [t2], d, rfl, rfl, .inr ⟨e1, rfl, e2, t2, rfl, e3⟩⟩
    | cons t0 ts =>
      obtain ⟨t, r, rfl, e1, h1⟩ := List.map_eq_cons_iff.1 h1
      obtain ⟨t', r', rfl, e2, h2⟩ := List.map_eq_cons_iff.1 h2
      have h0 := h3 t0 (by simp)
      refine ⟨t, t', r, r', d, rfl, rfl, .inl ⟨e1.trans e2.symm, by rw [e1]; exact h0.1, by rw [e1]; exact h0.2.2, .inl ⟨ts, r, r', d, rfl, rfl, h1, h2, fun t ht => h3 t (by simp [ht])⟩, ?_, ?_⟩⟩
      · have := congrArg List.length h1; simp at this; omega
      · have := congrArg List.length h2; simp at this; omega
  · exact .inr h
theorem R.bad (e : Int) (a a' : Nat) : R (.bad e a) (.bad e a') := .inr ⟨e, a, a', rfl, rfl⟩
theorem R.good {s s' : Ps} (h : R s s') : s.good = s'.good := by
  rcases h with ⟨_, _, _, _, rfl, rfl, _⟩ | ⟨_, _, _, rfl, rfl⟩ <;> rfl
theorem R.size {s s' : Ps} (h : R s s') : s.size ≤ s'.size ∧ s'.size ≤ s.size + 1 ∧ (s.good = true → 1 ≤ s.size) := by
  rcases h with ⟨ts, l, l', d, rfl, rfl, h1, h2, _⟩ | ⟨_, _, _, rfl, rfl⟩
  · have a1 := congrArg List.length h1
    have a2 := congrArg List.length h2
    simp at a1 a2
    show l.length ≤ l'.length ∧ l'.length ≤ l.length + 1 ∧ (_ → 1 ≤ l.length)
    omega
  · exact ⟨Nat.le_refl _, Nat.zero_le _, fun h => by cases h⟩
theorem R.sz {s s' : Ps} (h : R s s') (hg : s.good = true) : s'.size = s.size + 1 := by
  rcases h with ⟨ts, l, l', d, rfl, rfl, h1, h2, _⟩ | ⟨_, _, _, rfl, rfl⟩
  · have a1 := congrArg List.length h1
    have a2 := congrArg List.length h2
    simp at a1 a2
    show l'.length = l.length + 1
    omega
  · cases hg
def okc (k : Nat) (c : ByteArray) : Prop := k ≠ 5 ∧ (k = 4 → c.data.toList ≠ [59])
theorem R.is {s s' : Ps} (h : R s s') {k : Nat} {c : ByteArray} (hk : okc k c) : s'.is k c = s.is k c := by
  rcases h.head with ⟨t, t', l, l', d, rfl, rfl, h | ⟨e1, _, e2, _⟩⟩ | ⟨_, _, _, rfl, rfl⟩
  · show (t'.tk.kind == k && t'.tk.text == c.data.toList) = (t.tk.kind == k && t.tk.text == c.data.toList)
    rw [h.1]
  · show (t'.tk.kind == k && t'.tk.text == c.data.toList) = (t.tk.kind == k && t.tk.text == c.data.toList)
    rw [e1, e2]
    have h1 : ((5 : Nat) == k) = false := by simp; exact fun e => hk.1 e.symm
    show ((4 : Nat) == k && ([59] : List UInt8) == c.data.toList) = ((5 : Nat) == k && _)
    rw [h1, Bool.false_and]
    cases h4 : ((4 : Nat) == k) with
    | false => rfl
    | true =>
      have : k = 4 := by have h5 : 4 = k := by simpa using h4
                         exact h5.symm
      have := hk.2 this
      simp
      exact fun e => this e.symm
  · rfl
theorem R.step {s s' : Ps} (h : R s s') (hk : s.headK ≠ 5) : R s.step s'.step := by
  rcases h.head with ⟨t, t', l, l', d, rfl, rfl, h | ⟨e1, _, _⟩⟩ | ⟨_, _, _, rfl, rfl⟩
  · have h1 : Ps.step (.ok (t :: l) d) = .ok l d := by simp only [Ps.step, h.2.1, if_false]
    have h2 : Ps.step (.ok (t' :: l') d) = .ok l' d := by
      have h3 : ¬ t'.tk.kind = 5 := by rw [← h.1]; exact h.2.1
      simp only [Ps.step, h3, if_false]
    rw [h1, h2]; exact h.2.2.2.1
  · exact absurd (show t.tk.kind = 5 by rw [e1]; rfl) hk
  · exact .bad _ _ _
theorem is_head {s : Ps} {k : Nat} {c : ByteArray} (hi : s.is k c = true) : s.headK = k := by
  cases s with
  | bad e a => cases hi
  | ok l d =>
    cases l with
    | nil => cases hi
    | cons t r =>
      have h1 : (t.tk.kind == k && t.tk.text == c.data.toList) = true := hi
      simp only [Bool.and_eq_true, beq_iff_eq] at h1
      exact h1.1
theorem R.stepi {s s' : Ps} (h : R s s') {k : Nat} {c : ByteArray} (hk : okc k c) (hi : s.is k c = true) : R s.step s'.step :=
  h.step (by rw [is_head hi]; exact hk.1)
theorem R.fail {s s' : Ps} (h : R s s') (e : Int) : R (s.fail e) (s'.fail e) := by
  rcases h.head with ⟨t, t', l, l', d, rfl, rfl, _⟩ | ⟨x, a, a', rfl, rfl⟩
  · exact .bad e _ _
  · exact .bad x _ _
theorem R.need {s s' : Ps} (h : R s s') {k : Nat} {c : ByteArray} (hk : okc k c) : R (s.need k c) (s'.need k c) := by
  unfold Ps.need
  rw [h.is hk]
  by_cases hi : s.is k c = true
  · rw [if_pos hi, if_pos hi]; exact h.stepi hk hi
  · rw [if_neg hi, if_neg hi]; exact h.fail _
theorem R.may {s s' : Ps} (h : R s s') {k : Nat} {c : ByteArray} (hk : okc k c) : Rr (s.may k c) (s'.may k c) := by
  unfold Ps.may
  rw [h.is hk]
  by_cases hi : s.is k c = true
  · rw [if_pos hi, if_pos hi]; exact ⟨rfl, h.stepi hk hi⟩
  · rw [if_neg hi, if_neg hi]; exact ⟨rfl, h⟩
theorem R.hk {s s' : Ps} (h : R s s') (k : Nat) (h4 : k ≠ 4) (h5 : k ≠ 5) : (s'.headK == k) = (s.headK == k) ∧ (s.headK = k → s'.headT = s.headT ∧ s'.headN = s.headN) := by
  rcases h.head with ⟨t, t', l, l', d, rfl, rfl, h | ⟨e1, _, e2, _⟩⟩ | ⟨_, _, _, rfl, rfl⟩
  · refine ⟨?_, fun _ => ⟨?_, ?_⟩⟩
    · show (t'.tk.kind == k) = (t.tk.kind == k); rw [h.1]
    · show t'.tk.text = t.tk.text; rw [h.1]
    · show t'.tk.num = t.tk.num; rw [h.1]
  · refine ⟨?_, fun e => absurd (show t.tk.kind = k from e) (by rw [e1]; exact fun e => h5 e.symm)⟩
    show (t'.tk.kind == k) = (t.tk.kind == k)
    rw [e1, e2]
    show ((4 : Nat) == k) = ((5 : Nat) == k)
    have a1 : ((4 : Nat) == k) = false := by simp; exact fun e => h4 e.symm
    have a2 : ((5 : Nat) == k) = false := by simp; exact fun e => h5 e.symm
    rw [a1, a2]
  · exact ⟨rfl, fun _ => ⟨rfl, rfl⟩⟩
theorem R.isName {s s' : Ps} (h : R s s') : s'.isName = s.isName := by
  unfold Ps.isName
  obtain ⟨h1, h2⟩ := h.hk 1 (by decide) (by decide)
  rw [h1]
  by_cases e : s.headK = 1
  · rw [(h2 e).1]
  · have : (s.headK == 1) = false := by simpa using e
    rw [this, Bool.false_and, Bool.false_and]
theorem R.name {s s' : Ps} (h : R s s') : Rr s.name s'.name := by
  unfold Ps.name
  rw [h.isName]
  by_cases hi : s.isName = true
  · have e : s.headK = 1 := by unfold Ps.isName at hi; simp only [Bool.and_eq_true, beq_iff_eq] at hi; exact hi.1
    rw [if_pos hi, if_pos hi]
    exact ⟨by rw [((h.hk 1 (by decide) (by decide)).2 e).1], h.step (by rw [e]; decide)⟩
  · rw [if_neg hi, if_neg hi]; exact ⟨rfl, h.fail _⟩
theorem R.num {s s' : Ps} (h : R s s') : Rr s.num s'.num := by
  unfold Ps.num
  obtain ⟨h1, h2⟩ := h.hk 2 (by decide) (by decide)
  rw [h1]
  by_cases hi : (s.headK == 2) = true
  · have e : s.headK = 2 := by simpa using hi
    rw [if_pos hi, if_pos hi]
    exact ⟨by rw [(h2 e).2], h.step (by rw [e]; decide)⟩
  · rw [if_neg hi, if_neg hi]; exact ⟨rfl, h.fail _⟩
theorem R.down {s s' : Ps} (h : R s s') : R s.down s'.down := by
  rcases h with ⟨ts, l, l', d, rfl, rfl, h1, h2, h3⟩ | ⟨x, a, a', rfl, rfl⟩
  · show R (if d = 24 then Ps.fail 181 (.ok l d) else .ok l (d + 1)) (if d = 24 then Ps.fail 181 (.ok l' d) else .ok l' (d + 1))
    by_cases hd : d = 24
    · rw [if_pos hd, if_pos hd]
      exact R.fail (.inl ⟨ts, l, l', d, rfl, rfl, h1, h2, h3⟩) _
    · rw [if_neg hd, if_neg hd]
      exact .inl ⟨ts, l, l', d + 1, rfl, rfl, h1, h2, h3⟩
  · exact .bad _ _ _
theorem R.up {s s' : Ps} (h : R s s') : R s.up s'.up := by
  rcases h with ⟨ts, l, l', d, rfl, rfl, h1, h2, h3⟩ | ⟨x, a, a', rfl, rfl⟩
  · exact .inl ⟨ts, l, l', d - 1, rfl, rfl, h1, h2, h3⟩
  · exact .bad _ _ _
theorem R.tail {s s' : Ps} (h : R s s') (hk : s.headK = 1) {c : ByteArray} (hc : okc 4 c) : s'.tail.is 4 c = s.tail.is 4 c := by
  rcases h.head with ⟨t, t', l, l', d, rfl, rfl, h | ⟨e1, _⟩⟩ | ⟨_, _, _, rfl, rfl⟩
  · exact h.2.2.2.1.is hc
  · exact absurd (show t.tk.kind = 1 from hk) (by rw [e1]; decide)
  · rfl
theorem find_eq {ops : List (ByteArray × Int)} {f g : ByteArray × Int → Bool} (h : ∀ o ∈ ops, f o = g o) : ops.find? f = ops.find? g := by
  induction ops with
  | nil => rfl
  | cons o r ih =>
    rw [List.find?_cons, List.find?_cons, h o (by simp), ih (fun o ho => h o (by simp [ho]))]
theorem R.bads {s s' : Ps} (h : R s s') (hg : ¬ s.good = true) : ∃ e a a', s = .bad e a ∧ s' = .bad e a' := by
  rcases h with ⟨_, _, _, _, rfl, rfl, _⟩ | h
  · exact absurd rfl hg
  · exact h
theorem r_lefts {ops : List (ByteArray × Int)} {k : Nat} (hk : ∀ o ∈ ops, okc k o.1) {p p' : Pa Ex} {N : Nat} (hp : RPN N p p') (hni : NI p) : ∀ n n' e s s', R s s' → s.size < N + 1 → s.size ≤ n → s'.size ≤ n' → Rr (lefts ops k p n e s) (lefts ops k p' n' e s')
  | n, n', e, s, s', h, hN, hn, hn' => by
    by_cases hg : s.good = true
    · obtain ⟨z1, z2, z3⟩ := h.size
      have z3 := z3 hg
      cases n with
      | zero => omega
      | succ n =>
        cases n' with
        | zero => omega
        | succ n' =>
          unfold lefts
          rw [find_eq (f := fun o => s'.is k o.1) (g := fun o => s.is k o.1) (fun o ho => h.is (hk o ho))]
          cases hf : ops.find? (fun o => s.is k o.1) with
          | none => exact ⟨rfl, h⟩
          | some o =>
            have ho := List.mem_of_find?_eq_some hf
            have hi : s.is k o.1 = true := by have := List.find?_some hf; simpa using this
            obtain ⟨a1, a2, _⟩ := is_step hi (hk o ho).1
            have hst := h.stepi (hk o ho) hi
            obtain ⟨b1, b2⟩ := hp _ _ hst (by omega)
            have c1 := hni s.step
            simp only
            rw [← b1]
            obtain ⟨d1, d2, _⟩ := b2.size
            obtain ⟨f1, f2, _⟩ := hst.size
            refine r_lefts hk hp hni n n' _ _ _ b2 (by omega) (by omega) ?_
            have : s'.step.size + 1 = s'.size := (is_step (by rw [h.is (hk o ho)]; exact hi) (hk o ho).1).1
            have := hst.sz a2
            omega
    · obtain ⟨x, a, a', rfl, rfl⟩ := h.bads hg
      rw [lefts_bad, lefts_bad]
      exact ⟨rfl, .bad _ _ _⟩
theorem r_left {ops : List (ByteArray × Int)} {k : Nat} (hk : ∀ o ∈ ops, okc k o.1) {p p' : Pa Ex} {N : Nat} (hp : RPN N p p') (hni : NI p) : RPN N (left ops k p) (left ops k p') := fun s s' h hN => by
  obtain ⟨h1, h2⟩ := hp s s' h hN
  have h3 := hni s
  unfold left
  simp only
  rw [← h1]
  exact r_lefts hk hp hni _ _ _ _ _ h2 (by omega) (Nat.le_refl _) (Nat.le_refl _)
theorem ahead_bad {k : Nat} {c : ByteArray} {op : Int} {p : Pa Ex} (n : Nat) (x : Int) (a : Nat) : ahead k c op p n (.bad x a) = p (.bad x a) := by
  cases n with
  | zero => rfl
  | succ n => unfold ahead; rfl
theorem r_ahead {k : Nat} {c : ByteArray} (hk : okc k c) {op : Int} {p p' : Pa Ex} {N : Nat} (hp : RPN N p p') : ∀ n n' s s', R s s' → s.size < N → s.size ≤ n → s'.size ≤ n' → Rr (ahead k c op p n s) (ahead k c op p' n' s')
  | n, n', s, s', h, hN, hn, hn' => by
    by_cases hg : s.good = true
    · obtain ⟨z1, z2, z3⟩ := h.size
      have z3 := z3 hg
      cases n with
      | zero => omega
      | succ n =>
        cases n' with
        | zero => omega
        | succ n' =>
          unfold ahead
          rw [h.is hk]
          by_cases hi : s.is k c = true
          · rw [if_pos hi, if_pos hi, ← h.down.good]
            by_cases hd : s.down.good = true
            · rw [if_pos hd, if_pos hd]
              obtain ⟨a1, _, _, a4⟩ := down_good hd
              obtain ⟨a1', _, _, a4'⟩ := down_good (s := s') (by rw [← h.down.good]; exact hd)
              have hi2 : s.down.is k c = true := by rw [a4]; exact hi
              have hi2' : s'.down.is k c = true := by rw [a4', h.is hk]; exact hi
              obtain ⟨b1, _, _⟩ := is_step hi2 hk.1
              obtain ⟨b1', _, _⟩ := is_step hi2' hk.1
              obtain ⟨c1, c2⟩ := r_ahead hk hp n n' _ _ (h.down.stepi hk hi2) (by omega) (by omega) (by omega)
              exact ⟨by simp only; rw [c1], c2.up⟩
            · rw [if_neg hd, if_neg hd]; exact ⟨rfl, h.down⟩
          · rw [if_neg hi, if_neg hi]; exact hp _ _ h hN
    · obtain ⟨x, a, a', rfl, rfl⟩ := h.bads hg
      rw [ahead_bad, ahead_bad]
      exact hp _ _ h hN
theorem r_seps {α : Type} {p p' : Pa α} {N : Nat} (hp : RPN N p p') (hni : NI p) : ∀ n n' l s s', R s s' → s.size < N → s.size + 1 ≤ n → s'.size + 1 ≤ n' → Rr (seps p n l s) (seps p' n' l s')
  | 0, n', l, s, s', h, hN, hn, hn' => by omega
  | n + 1, 0, l, s, s', h, hN, hn, hn' => by omega
  | n + 1, n' + 1, l, s, s', h, hN, hn, hn' => by
    have hc : okc 4 ⟨#[44]⟩ := ⟨by decide, fun _ => by decide⟩
    obtain ⟨h1, h2⟩ := hp s s' h hN
    have h3 := hni s
    unfold seps
    simp only
    rw [h2.is hc, ← h1]
    by_cases hi : (p s).2.is 4 ⟨#[44]⟩ = true
    · rw [if_pos hi, if_pos hi]
      obtain ⟨b1, b2, b3⟩ := is_step hi hc.1
      obtain ⟨b1', _, _⟩ := is_step (s := (p' s').2) (by rw [h2.is hc]; exact hi) hc.1
      obtain ⟨d1, d2, _⟩ := h2.size
      obtain ⟨f1, f2, _⟩ := h.size
      refine r_seps hp hni n n' _ _ _ (h2.stepi hc hi) (by omega) (by omega) ?_
      by_cases hg : s.good = true
      · have := h.sz hg
        omega
      · obtain ⟨x, a, a', rfl, rfl⟩ := h.bads hg
        have : (p (.bad x a)).2.size ≤ 0 := h3
        omega
    · rw [if_neg hi, if_neg hi]
      exact ⟨rfl, h2⟩
theorem r_sep {α : Type} {p p' : Pa α} {N : Nat} (hp : RPN N p p') (hni : NI p) : RPN N (sep p) (sep p') := fun s s' h hN => r_seps hp hni _ _ _ _ _ h hN (Nat.le_refl _) (Nat.le_refl _)
end Go.Proofs.Ytaogpifcfmjcbaa.Rl
end
section
namespace Go.Proofs.Ytaogpifcfmjcbaa.Rl
open Lx
set_option linter.unusedVariables false
theorem okw (c : ByteArray) : okc 1 c := ⟨by decide, fun h => absurd h (by decide)⟩
theorem RPN.mono {α : Type} {N M : Nat} {p p' : Pa α} (h : RPN N p p') (hM : M ≤ N) : RPN M p p' := fun s s' hs hz => h s s' hs (by omega)
theorem RPN.snd {α : Type} {N : Nat} {p p' : Pa α} (h : RPN N p p') {s s' : Ps} (hs : R s s') (hz : s.size < N) : R (p s).2 (p' s').2 := (h s s' hs hz).2
theorem r_list {N : Nat} {E E' : Pa Ex} (hE : RPN N E E') (hni : NI E) : RPN (N + 1) (listS E) (listS E') := fun s s' h hz => by
  have hc : okc 4 ⟨#[40]⟩ := ⟨by decide, fun _ => by decide⟩
  have hc2 : okc 4 ⟨#[41]⟩ := ⟨by decide, fun _ => by decide⟩
  unfold listS
  rw [h.is hc]
  by_cases hi : s.is 4 ⟨#[40]⟩ = true
  · rw [if_pos hi, if_pos hi, ← h.down.good]
    by_cases hd : s.down.good = true
    · rw [if_pos hd, if_pos hd]
      obtain ⟨a1, _, _, a4⟩ := down_good hd
      have hi2 : s.down.is 4 ⟨#[40]⟩ = true := by rw [a4]; exact hi
      obtain ⟨b1, _, _⟩ := is_step hi2 hc.1
      obtain ⟨c1, c2⟩ := r_sep hE hni _ _ (h.down.stepi hc hi2) (by omega)
      exact ⟨c1, (c2.need hc2).up⟩
    · rw [if_neg hd, if_neg hd]; exact ⟨rfl, h.down⟩
  · rw [if_neg hi, if_neg hi]; exact ⟨rfl, h.fail _⟩
theorem cmp_ok : ∀ o ∈ cmpOps, okc 4 o.1 := by
  intro o ho
  simp only [cmpOps, List.mem_cons, List.not_mem_nil, or_false] at ho
  refine ⟨by decide, fun _ => ?_⟩
  rcases ho with rfl | rfl | rfl | rfl | rfl | rfl <;> decide
theorem r_compareT {N : Nat} {p p' E E' : Pa Ex} (hp : RPN (N + 1) p p') (hnp : NI p) (hE : RPN N E E') (hni : NI E) (a : Ex) (s s' : Ps) (h : R s s') (hz : s.size < N + 1) : Rr (compareT p E a s) (compareT p' E' a s') := by
  unfold compareT
  rw [find_eq (f := fun o => s'.is 4 o.1) (g := fun o => s.is 4 o.1) (fun o ho => h.is (cmp_ok o ho))]
  cases hf : cmpOps.find? (fun o => s.is 4 o.1) with
  | some o =>
    have ho := List.mem_of_find?_eq_some hf
    have hi : s.is 4 o.1 = true := by have := List.find?_some hf; simpa using this
    obtain ⟨a1, _, _⟩ := is_step hi (cmp_ok o ho).1
    obtain ⟨b1, b2⟩ := hp _ _ (h.stepi (cmp_ok o ho) hi) (by omega)
    exact ⟨by simp only; rw [b1], b2⟩
  | none =>
    simp only
    rw [h.is (okw ⟨#[105, 115]⟩)]
    by_cases hi : s.is 1 ⟨#[105, 115]⟩ = true
    · rw [if_pos hi, if_pos hi]
      obtain ⟨n1, n2⟩ := (h.stepi (okw _) hi).may (okw ⟨#[110, 111, 116]⟩)
      exact ⟨by simp only [Ps.word]; rw [n1], n2.need (okw _)⟩
    · rw [if_neg hi, if_neg hi]
      obtain ⟨n1, n2⟩ := h.may (okw ⟨#[110, 111, 116]⟩)
      have nz := size_may 1 ⟨#[110, 111, 116]⟩ s
      simp only [Ps.word] at *
      rw [n2.is (okw ⟨#[105, 110]⟩), n2.is (okw ⟨#[98, 101, 116, 119, 101, 101, 110]⟩), ← n1]
      generalize s.may 1 ⟨#[110, 111, 116]⟩ = q at *
      generalize s'.may 1 ⟨#[110, 111, 116]⟩ = q' at *
      by_cases h2 : q.2.is 1 ⟨#[105, 110]⟩ = true
      · rw [if_pos h2, if_pos h2]
        obtain ⟨a1, _, _⟩ := is_step h2 (by decide)
        obtain ⟨b1, b2⟩ := r_list hE hni _ _ (n2.stepi (okw _) h2) (by omega)
        exact ⟨by simp only; rw [b1], b2⟩
      · rw [if_neg h2, if_neg h2]
        by_cases h3 : q.2.is 1 ⟨#[98, 101, 116, 119, 101, 101, 110]⟩ = true
        · rw [if_pos h3, if_pos h3]
          obtain ⟨a1, _, _⟩ := is_step h3 (by decide)
          unfold betweens
          obtain ⟨b1, b2⟩ := hp _ _ (n2.stepi (okw _) h3) (by omega)
          have z1 := hnp q.2.step
          have z2 := size_need 1 ⟨#[97, 110, 100]⟩ (p q.2.step).2
          obtain ⟨c1, c2⟩ := hp _ _ (b2.need (okw ⟨#[97, 110, 100]⟩)) (by omega)
          exact ⟨by simp only; rw [b1, c1], c2⟩
        · rw [if_neg h3, if_neg h3]
          cases q.1 with
          | true => exact ⟨rfl, n2.fail _⟩
          | false => exact ⟨rfl, n2⟩
theorem r_compares {N : Nat} {p p' E E' : Pa Ex} (hp : RPN (N + 1) p p') (hnp : NI p) (hE : RPN N E E') (hni : NI E) : RPN (N + 1) (compares p E) (compares p' E') := fun s s' h hz => by
  obtain ⟨h1, h2⟩ := hp s s' h hz
  have := hnp s
  unfold compares
  simp only
  rw [← h1]
  exact r_compareT hp hnp hE hni _ _ _ h2 (by omega)
theorem r_call {N : Nat} {E E' : Pa Ex} (hE : RPN N E E') (hni : NI E) (nm : List UInt8) (s s' : Ps) (h : R s s') (hz : s.size < N + 1) (hk : s.headK = 1) : Rr (callS E nm s) (callS E' nm s') := by
  have hc : okc 4 ⟨#[40]⟩ := ⟨by decide, fun _ => by decide⟩
  have hc2 : okc 4 ⟨#[41]⟩ := ⟨by decide, fun _ => by decide⟩
  have hc3 : okc 4 ⟨#[42]⟩ := ⟨by decide, fun _ => by decide⟩
  unfold callS
  rw [← h.down.good]
  by_cases hd : s.down.good = true
  · rw [if_pos hd, if_pos hd]
    obtain ⟨a1, _, a3, a4⟩ := down_good hd
    have hk2 : s.down.headK = 1 := by rw [a3]; exact hk
    obtain ⟨b1, _, _⟩ := head_step hk2 (by decide) (by decide)
    have hst := (h.down.step (by rw [hk2]; decide)).need hc
    have z1 := size_need 4 ⟨#[40]⟩ s.down.step
    have hz2 : (s.down.step.need 4 ⟨#[40]⟩).size < N := by omega
    simp only
    generalize s.down.step.need 4 ⟨#[40]⟩ = u at *
    generalize s'.down.step.need 4 ⟨#[40]⟩ = u' at *
    rw [hst.is hc3]
    by_cases hb : (nm == (⟨#[99, 111, 117, 110, 116]⟩ : ByteArray).data.toList && u.is 4 ⟨#[42]⟩) = true
    · rw [if_pos hb, if_pos hb]
      simp only [Bool.and_eq_true] at hb
      exact ⟨rfl, ((hst.stepi hc3 hb.2).need hc2).up⟩
    · rw [if_neg hb, if_neg hb]
      cases folds nm with
      | true =>
        obtain ⟨c1, c2⟩ := hE _ _ hst hz2
        exact ⟨by simp only [if_true]; rw [c1], (c2.need hc2).up⟩
      | false =>
        obtain ⟨c1, c2⟩ := r_sep hE hni _ _ hst hz2
        exact ⟨by simp only [Bool.false_eq_true, if_false]; rw [c1], (c2.need hc2).up⟩
  · rw [if_neg hd, if_neg hd]; exact ⟨rfl, h.down⟩
theorem r_nameS : RP nameS nameS := fun s s' h => by
  have hc : okc 4 ⟨#[46]⟩ := ⟨by decide, fun _ => by decide⟩
  obtain ⟨h1, h2⟩ := h.name
  unfold nameS
  simp only
  rw [h2.is hc, ← h1]
  by_cases hi : s.name.2.is 4 ⟨#[46]⟩ = true
  · rw [if_pos hi, if_pos hi]
    obtain ⟨c1, c2⟩ := (h2.stepi hc hi).name
    exact ⟨by simp only; rw [c1], c2⟩
  · rw [if_neg hi, if_neg hi]; exact ⟨rfl, h2⟩
theorem r_single {N : Nat} {E E' : Pa Ex} (hE : RPN N E E') (hni : NI E) : RPN (N + 1) (single E) (single E') := fun s s' h hz => by
  have hc : okc 4 ⟨#[40]⟩ := ⟨by decide, fun _ => by decide⟩
  have hc2 : okc 4 ⟨#[41]⟩ := ⟨by decide, fun _ => by decide⟩
  obtain ⟨k2, t2⟩ := h.hk 2 (by decide) (by decide)
  obtain ⟨k3, t3⟩ := h.hk 3 (by decide) (by decide)
  obtain ⟨k1, t1⟩ := h.hk 1 (by decide) (by decide)
  unfold single
  rw [k2, k3, k1, h.is (okw ⟨#[116, 114, 117, 101]⟩), h.is (okw ⟨#[102, 97, 108, 115, 101]⟩), h.is (okw ⟨#[110, 117, 108, 108]⟩), h.is hc]
  by_cases e2 : (s.headK == 2) = true
  · rw [if_pos e2, if_pos e2]
    have e : s.headK = 2 := by simpa using e2
    exact ⟨by simp only; rw [(t2 e).2], h.step (by rw [e]; decide)⟩
  rw [if_neg e2, if_neg e2]
  by_cases e3 : (s.headK == 3) = true
  · rw [if_pos e3, if_pos e3]
    have e : s.headK = 3 := by simpa using e3
    exact ⟨by simp only; rw [(t3 e).1], h.step (by rw [e]; decide)⟩
  rw [if_neg e3, if_neg e3]
  by_cases e4 : s.is 1 ⟨#[116, 114, 117, 101]⟩ = true
  · rw [if_pos e4, if_pos e4]; exact ⟨rfl, h.stepi (okw _) e4⟩
  rw [if_neg e4, if_neg e4]
  by_cases e5 : s.is 1 ⟨#[102, 97, 108, 115, 101]⟩ = true
  · rw [if_pos e5, if_pos e5]; exact ⟨rfl, h.stepi (okw _) e5⟩
  rw [if_neg e5, if_neg e5]
  by_cases e6 : s.is 1 ⟨#[110, 117, 108, 108]⟩ = true
  · rw [if_pos e6, if_pos e6]; exact ⟨rfl, h.stepi (okw _) e6⟩
  rw [if_neg e6, if_neg e6]
  by_cases e7 : s.is 4 ⟨#[40]⟩ = true
  · rw [if_pos e7, if_pos e7, ← h.down.good]
    by_cases hd : s.down.good = true
    · rw [if_pos hd, if_pos hd]
      obtain ⟨a1, _, _, a4⟩ := down_good hd
      have hi2 : s.down.is 4 ⟨#[40]⟩ = true := by rw [a4]; exact e7
      obtain ⟨b1, _, _⟩ := is_step hi2 hc.1
      obtain ⟨c1, c2⟩ := hE _ _ (h.down.stepi hc hi2) (by omega)
      exact ⟨c1, (c2.need hc2).up⟩
    · rw [if_neg hd, if_neg hd]; exact ⟨rfl, h.down⟩
  rw [if_neg e7, if_neg e7]
  by_cases e8 : s.headK = 1
  · have e8' : (s.headK == 1) = true := by simpa using e8
    rw [(t1 e8).1, h.tail e8 hc]
    by_cases e9 : (s.headK == 1 && (built s.headT || nameB s.headT && s.tail.is 4 ⟨#[40]⟩)) = true
    · rw [if_pos e9, if_pos e9]
      exact r_call hE hni _ _ _ h hz e8
    · rw [if_neg e9, if_neg e9]; exact r_nameS _ _ h
  · have e8' : (s.headK == 1) = false := by simpa using e8
    rw [e8', Bool.false_and, Bool.false_and, if_neg (by decide), if_neg (by decide)]
    exact r_nameS _ _ h
theorem r_lvl {N : Nat} {E E' : Pa Ex} (hE : RPN N E E') (hni : NI E) : RPN (N + 1) (lvl E) (lvl E') := by
  have o4 : ∀ c : ByteArray, c.data.toList ≠ [59] → okc 4 c := fun c h => ⟨by decide, fun _ => h⟩
  have a0 := r_single hE hni
  have n0 := ni_single hni
  have a1 : RPN (N + 1) (minuses (single E)) (minuses (single E')) := fun s s' h hz => r_ahead (o4 _ (by decide)) a0 _ _ _ _ h hz (Nat.le_refl _) (Nat.le_refl _)
  have n1 : NI (minuses (single E)) := fun s => ni_ahead n0 _ s
  have a2 : RPN (N + 1) (prods (minuses (single E))) (prods (minuses (single E'))) := r_left (fun o ho => by
    simp only [List.mem_cons, List.not_mem_nil, or_false] at ho
    rcases ho with rfl | rfl | rfl <;> exact o4 _ (by decide)) a1 n1
  have n2 : NI (prods (minuses (single E))) := ni_left n1
  have a3 : RPN (N + 1) (sums (prods (minuses (single E)))) (sums (prods (minuses (single E')))) := r_left (fun o ho => by
    simp only [List.mem_cons, List.not_mem_nil, or_false] at ho
    rcases ho with rfl | rfl | rfl <;> exact o4 _ (by decide)) a2 n2
  have n3 : NI (sums (prods (minuses (single E)))) := ni_left n2
  have a4 := r_compares a3 n3 hE hni
  have n4 := ni_compares n3 hni
  have a5 : RPN (N + 1) (nots (compares (sums (prods (minuses (single E)))) E)) (nots (compares (sums (prods (minuses (single E')))) E')) := fun s s' h hz => r_ahead (okw _) a4 _ _ _ _ h hz (Nat.le_refl _) (Nat.le_refl _)
  have n5 : NI (nots (compares (sums (prods (minuses (single E)))) E)) := fun s => ni_ahead n4 _ s
  have a6 : RPN (N + 1) (ands (nots (compares (sums (prods (minuses (single E)))) E))) (ands (nots (compares (sums (prods (minuses (single E')))) E'))) := r_left (fun o ho => by
    simp only [List.mem_cons, List.not_mem_nil, or_false] at ho
    subst ho; exact okw _) a5 n5
  have n6 : NI (ands (nots (compares (sums (prods (minuses (single E)))) E))) := ni_left n5
  exact r_left (fun o ho => by
    simp only [List.mem_cons, List.not_mem_nil, or_false] at ho
    subst ho; exact okw _) a6 n6
theorem r_expr : ∀ N n n', N ≤ n + 1 → N ≤ n' + 1 → RPN N (expr n) (expr n')
  | 0, n, n', h, h' => fun s s' _ hz => absurd hz (Nat.not_lt_zero _)
  | N + 1, 0, 0, h, h' => r_lvl (fun s s' _ hz => by omega) (fun s => Nat.le_refl _)
  | N + 1, 0, n' + 1, h, h' => r_lvl (N := N) (fun s s' _ hz => by omega) (fun s => Nat.le_refl _)
  | N + 1, n + 1, 0, h, h' => r_lvl (N := N) (fun s s' _ hz => by omega) (ni_expr n)
  | N + 1, n + 1, n' + 1, h, h' => r_lvl (r_expr N n n' (by omega) (by omega)) (ni_expr n)
theorem r_exprS : RP exprS exprS := fun s s' h => by
  unfold exprS
  have := h.size
  exact r_expr (s.size + 1) _ _ (Nat.le_refl _) (by omega) s s' h (Nat.lt_succ_self _)
theorem RP.n {α : Type} {p p' : Pa α} (h : RP p p') (N : Nat) : RPN N p p' := fun s s' hs _ => h s s' hs
theorem rp_sep {α : Type} {p : Pa α} (h : RP p p) (hni : NI p) : RP (sep p) (sep p) := fun s s' hs => r_sep (h.n (s.size + 1)) hni s s' hs (Nat.lt_succ_self _)
end Go.Proofs.Ytaogpifcfmjcbaa.Rl
end
section
namespace Go.Proofs.Ytaogpifcfmjcbaa.Rl
open Lx
set_option linter.unusedVariables false
theorem o4 (c : ByteArray) (h : c.data.toList ≠ [59] := by decide) : okc 4 c := ⟨by decide, fun _ => h⟩
theorem r_tyS : RP tyS tyS := fun s s' h => by
  unfold tyS
  rw [h.is (okw ⟨#[105, 110, 116]⟩), h.is (okw ⟨#[116, 101, 120, 116]⟩), h.is (okw ⟨#[98, 111, 111, 108]⟩)]
  by_cases e1 : s.is 1 ⟨#[105, 110, 116]⟩ = true
  · rw [if_pos e1, if_pos e1]; exact ⟨rfl, h.stepi (okw _) e1⟩
  rw [if_neg e1, if_neg e1]
  by_cases e2 : s.is 1 ⟨#[116, 101, 120, 116]⟩ = true
  · rw [if_pos e2, if_pos e2]; exact ⟨rfl, h.stepi (okw _) e2⟩
  rw [if_neg e2, if_neg e2]
  by_cases e3 : s.is 1 ⟨#[98, 111, 111, 108]⟩ = true
  · rw [if_pos e3, if_pos e3]; exact ⟨rfl, h.stepi (okw _) e3⟩
  rw [if_neg e3, if_neg e3]; exact ⟨rfl, h.fail _⟩
theorem r_nnS : RP nnS nnS := fun s s' h => by
  unfold nnS
  rw [h.is (okw ⟨#[110, 111, 116]⟩)]
  by_cases e1 : s.is 1 ⟨#[110, 111, 116]⟩ = true
  · rw [if_pos e1, if_pos e1]; exact ⟨rfl, (h.stepi (okw _) e1).need (okw _)⟩
  rw [if_neg e1, if_neg e1]; exact ⟨rfl, h⟩
theorem r_keyS : RP keyS keyS := fun s s' h => by
  unfold keyS
  rw [h.is (okw ⟨#[112, 114, 105, 109, 97, 114, 121]⟩)]
  by_cases e1 : s.is 1 ⟨#[112, 114, 105, 109, 97, 114, 121]⟩ = true
  · rw [if_pos e1, if_pos e1]; exact ⟨rfl, (h.stepi (okw _) e1).need (okw _)⟩
  rw [if_neg e1, if_neg e1]; exact ⟨rfl, h⟩
theorem r_colS : RP colS colS := fun s s' h => by
  obtain ⟨a1, h⟩ := h.name
  obtain ⟨a2, h⟩ := r_tyS _ _ h
  obtain ⟨a3, h⟩ := r_nnS _ _ h
  obtain ⟨a4, h⟩ := h.may (okw ⟨#[117, 110, 105, 113, 117, 101]⟩)
  obtain ⟨a5, h⟩ := r_keyS _ _ h
  unfold colS
  simp only [Ps.word] at *
  exact ⟨by rw [a1, a2, a3, a4, a5], h⟩
theorem r_tableS : RP tableS tableS := fun s s' h => by
  obtain ⟨a1, h⟩ := h.name
  obtain ⟨a2, h⟩ := rp_sep r_colS ni_colS _ _ (h.need (o4 ⟨#[40]⟩))
  unfold tableS
  simp only
  exact ⟨by rw [a1, a2], h.need (o4 _)⟩
theorem r_clauseS (c : ByteArray) : RP (clauseS c) (clauseS c) := fun s s' h => by
  unfold clauseS
  rw [h.is (okw c)]
  by_cases e1 : s.is 1 c = true
  · rw [if_pos e1, if_pos e1]; exact r_exprS _ _ (h.stepi (okw _) e1)
  rw [if_neg e1, if_neg e1]; exact ⟨rfl, h⟩
theorem r_rowS : RP rowS rowS := fun s s' h => by
  obtain ⟨a2, h⟩ := rp_sep r_exprS ni_exprS _ _ (h.need (o4 ⟨#[40]⟩))
  unfold rowS
  simp only
  exact ⟨a2, h.need (o4 _)⟩
theorem r_namesS : RP namesS namesS := fun s s' h => by
  unfold namesS
  rw [h.is (o4 ⟨#[40]⟩)]
  by_cases e1 : s.is 4 ⟨#[40]⟩ = true
  · rw [if_pos e1, if_pos e1]
    obtain ⟨a2, h⟩ := rp_sep (p := Ps.name) (fun s s' h => h.name) size_name _ _ (h.stepi (o4 _) e1)
    exact ⟨a2, h.need (o4 _)⟩
  rw [if_neg e1, if_neg e1]; exact ⟨rfl, h⟩
theorem r_insertS : RP insertS insertS := fun s s' h => by
  obtain ⟨a1, h⟩ := (h.need (okw ⟨#[105, 110, 116, 111]⟩)).name
  obtain ⟨a2, h⟩ := r_namesS _ _ h
  obtain ⟨a3, h⟩ := rp_sep r_rowS ni_rowS _ _ (h.need (okw ⟨#[118, 97, 108, 117, 101, 115]⟩))
  unfold insertS
  simp only
  exact ⟨by rw [a1, a2, a3], h⟩
theorem r_setS : RP setS setS := fun s s' h => by
  obtain ⟨a1, h⟩ := h.name
  obtain ⟨a2, h⟩ := r_exprS _ _ (h.need (o4 ⟨#[61]⟩))
  unfold setS
  simp only
  exact ⟨by rw [a1, a2], h⟩
theorem r_updateS : RP updateS updateS := fun s s' h => by
  obtain ⟨a1, h⟩ := h.name
  obtain ⟨a2, h⟩ := rp_sep r_setS ni_setS _ _ (h.need (okw ⟨#[115, 101, 116]⟩))
  obtain ⟨a3, h⟩ := r_clauseS ⟨#[119, 104, 101, 114, 101]⟩ _ _ h
  unfold updateS
  simp only
  exact ⟨by rw [a1, a2, a3], h⟩
theorem r_refS : RP refS refS := fun s s' h => by
  obtain ⟨a1, h⟩ := h.name
  unfold refS
  simp only
  rw [h.is (okw ⟨#[97, 115]⟩), h.isName, ← a1]
  by_cases e1 : s.name.2.is 1 ⟨#[97, 115]⟩ = true
  · rw [if_pos e1, if_pos e1]
    obtain ⟨a2, h⟩ := (h.stepi (okw _) e1).name
    exact ⟨by simp only; rw [a2], h⟩
  rw [if_neg e1, if_neg e1]
  by_cases e2 : s.name.2.isName = true
  · rw [if_pos e2, if_pos e2]
    obtain ⟨a2, h⟩ := h.name
    exact ⟨by simp only; rw [a2], h⟩
  rw [if_neg e2, if_neg e2]; exact ⟨rfl, h⟩
theorem r_itemS : RP itemS itemS := fun s s' h => by
  obtain ⟨a1, h⟩ := r_exprS _ _ h
  unfold itemS
  simp only
  rw [h.is (okw ⟨#[97, 115]⟩), ← a1]
  by_cases e1 : (exprS s).2.is 1 ⟨#[97, 115]⟩ = true
  · rw [if_pos e1, if_pos e1]
    obtain ⟨a2, h⟩ := (h.stepi (okw _) e1).name
    exact ⟨by simp only; rw [a2], h⟩
  rw [if_neg e1, if_neg e1]; exact ⟨rfl, h⟩
theorem r_itemsS : RP itemsS itemsS := fun s s' h => by
  unfold itemsS
  rw [h.is (o4 ⟨#[42]⟩)]
  by_cases e1 : s.is 4 ⟨#[42]⟩ = true
  · rw [if_pos e1, if_pos e1]; exact ⟨rfl, h.stepi (o4 _) e1⟩
  rw [if_neg e1, if_neg e1]; exact rp_sep r_itemS ni_itemS _ _ h
theorem r_joinS : RP joinS joinS := fun s s' h => by
  obtain ⟨_, h⟩ := h.may (okw ⟨#[105, 110, 110, 101, 114]⟩)
  obtain ⟨a2, h⟩ := r_refS _ _ (h.need (okw ⟨#[106, 111, 105, 110]⟩))
  obtain ⟨a3, h⟩ := r_exprS _ _ (h.need (okw ⟨#[111, 110]⟩))
  unfold joinS
  simp only [Ps.word] at *
  exact ⟨by rw [a2, a3], h⟩
theorem joins_less {s : Ps} (h : (s.is 1 ⟨#[105, 110, 110, 101, 114]⟩ || s.is 1 ⟨#[106, 111, 105, 110]⟩) = true) : (joinS s).2.size + 1 ≤ s.size := by
  have key : ((s.word ⟨#[105, 110, 110, 101, 114]⟩).2.need 1 ⟨#[106, 111, 105, 110]⟩).size + 1 ≤ s.size := by
    by_cases e : s.is 1 ⟨#[105, 110, 110, 101, 114]⟩ = true
    · have h1 : (s.word ⟨#[105, 110, 110, 101, 114]⟩).2 = s.step := by simp [Ps.word, Ps.may, e]
      rw [h1]
      have := (is_step e (by decide)).1
      have := size_need 1 ⟨#[106, 111, 105, 110]⟩ s.step
      omega
    · have e2 : s.is 1 ⟨#[106, 111, 105, 110]⟩ = true := by simpa [e] using h
      have h1 : (s.word ⟨#[105, 110, 110, 101, 114]⟩).2 = s := by simp [Ps.word, Ps.may, e]
      rw [h1]
      have h2 : s.need 1 ⟨#[106, 111, 105, 110]⟩ = s.step := by unfold Ps.need; rw [if_pos e2]
      rw [h2, (is_step e2 (by decide)).1]
      exact Nat.le_refl _
  have z1 := ni_refS ((s.word ⟨#[105, 110, 110, 101, 114]⟩).2.need 1 ⟨#[106, 111, 105, 110]⟩)
  have z2 := size_need 1 ⟨#[111, 110]⟩ (refS ((s.word ⟨#[105, 110, 110, 101, 114]⟩).2.need 1 ⟨#[106, 111, 105, 110]⟩)).2
  have z3 := ni_exprS ((refS ((s.word ⟨#[105, 110, 110, 101, 114]⟩).2.need 1 ⟨#[106, 111, 105, 110]⟩)).2.need 1 ⟨#[111, 110]⟩)
  show (exprS ((refS ((s.word ⟨#[105, 110, 110, 101, 114]⟩).2.need 1 ⟨#[106, 111, 105, 110]⟩)).2.need 1 ⟨#[111, 110]⟩)).2.size + 1 ≤ s.size
  omega
theorem r_joins : ∀ n n' l s s', R s s' → s.size ≤ n → s'.size ≤ n' → Rr (joins n l s) (joins n' l s')
  | n, n', l, s, s', h, hn, hn' => by
    by_cases hg : s.good = true
    · have z1 := h.sz hg
      have z0 := h.size.2.2 hg
      cases n with
      | zero => omega
      | succ n =>
        cases n' with
        | zero => omega
        | succ n' =>
          unfold joins
          rw [h.is (okw ⟨#[105, 110, 110, 101, 114]⟩), h.is (okw ⟨#[106, 111, 105, 110]⟩)]
          by_cases e1 : (s.is 1 ⟨#[105, 110, 110, 101, 114]⟩ || s.is 1 ⟨#[106, 111, 105, 110]⟩) = true
          · rw [if_pos e1, if_pos e1]
            obtain ⟨a1, h2⟩ := r_joinS _ _ h
            simp only
            rw [← a1]
            have hz := joins_less e1
            have z2 := h2.size
            by_cases hg2 : (joinS s).2.good = true
            · have := h2.sz hg2
              exact r_joins n n' _ _ _ h2 (by omega) (by omega)
            · obtain ⟨x, a, a', q1, q2⟩ := h2.bads hg2
              rw [q1, q2]
              have j0 : ∀ m l x a, joins m l (.bad x a) = (l, .bad x a) := fun m l x a => by cases m <;> rfl
              rw [j0, j0]
              exact ⟨rfl, .bad _ _ _⟩
          · rw [if_neg e1, if_neg e1]; exact ⟨rfl, h⟩
    · obtain ⟨x, a, a', q1, q2⟩ := h.bads hg
      rw [q1, q2]
      have j0 : ∀ m l x a, joins m l (.bad x a) = (l, .bad x a) := fun m l x a => by cases m <;> rfl
      rw [j0, j0]
      exact ⟨rfl, .bad _ _ _⟩
theorem r_fromS : RP fromS fromS := fun s s' h => by
  obtain ⟨a1, h⟩ := r_refS _ _ h
  unfold fromS
  simp only
  rw [← a1]
  exact r_joins _ _ _ _ _ h (Nat.le_refl _) (Nat.le_refl _)
theorem r_groupS : RP groupS groupS := fun s s' h => by
  unfold groupS
  rw [h.is (okw ⟨#[103, 114, 111, 117, 112]⟩)]
  by_cases e1 : s.is 1 ⟨#[103, 114, 111, 117, 112]⟩ = true
  · rw [if_pos e1, if_pos e1]; exact rp_sep r_exprS ni_exprS _ _ ((h.stepi (okw _) e1).need (okw _))
  rw [if_neg e1, if_neg e1]; exact ⟨rfl, h⟩
theorem r_ordS : RP ordS ordS := fun s s' h => by
  obtain ⟨a1, h⟩ := r_exprS _ _ h
  unfold ordS
  simp only
  rw [h.is (okw ⟨#[97, 115, 99]⟩), ← a1]
  by_cases e1 : (exprS s).2.is 1 ⟨#[97, 115, 99]⟩ = true
  · rw [if_pos e1, if_pos e1]; exact ⟨rfl, h.stepi (okw _) e1⟩
  rw [if_neg e1, if_neg e1]
  obtain ⟨a2, h⟩ := h.may (okw ⟨#[100, 101, 115, 99]⟩)
  simp only [Ps.word] at *
  exact ⟨by simp only; rw [a2], h⟩
theorem r_orderS : RP orderS orderS := fun s s' h => by
  unfold orderS
  rw [h.is (okw ⟨#[111, 114, 100, 101, 114]⟩)]
  by_cases e1 : s.is 1 ⟨#[111, 114, 100, 101, 114]⟩ = true
  · rw [if_pos e1, if_pos e1]; exact rp_sep r_ordS ni_ordS _ _ ((h.stepi (okw _) e1).need (okw _))
  rw [if_neg e1, if_neg e1]; exact ⟨rfl, h⟩
theorem r_offS : RP offS offS := fun s s' h => by
  unfold offS
  rw [h.is (okw ⟨#[111, 102, 102, 115, 101, 116]⟩)]
  by_cases e1 : s.is 1 ⟨#[111, 102, 102, 115, 101, 116]⟩ = true
  · rw [if_pos e1, if_pos e1]; exact (h.stepi (okw _) e1).num
  rw [if_neg e1, if_neg e1]; exact ⟨rfl, h⟩
theorem r_limitS : RP limitS limitS := fun s s' h => by
  unfold limitS
  rw [h.is (okw ⟨#[108, 105, 109, 105, 116]⟩)]
  by_cases e1 : s.is 1 ⟨#[108, 105, 109, 105, 116]⟩ = true
  · rw [if_pos e1, if_pos e1]
    obtain ⟨a1, h⟩ := (h.stepi (okw _) e1).num
    obtain ⟨a2, h⟩ := r_offS _ _ h
    exact ⟨by simp only; rw [a1, a2], h⟩
  rw [if_neg e1, if_neg e1]; exact ⟨rfl, h⟩
theorem r_queryS : RP queryS queryS := fun s s' h => by
  obtain ⟨a1, h⟩ := h.may (okw ⟨#[101, 120, 112, 108, 97, 105, 110]⟩)
  obtain ⟨a2, h⟩ := (h.need (okw ⟨#[115, 101, 108, 101, 99, 116]⟩)).may (okw ⟨#[100, 105, 115, 116, 105, 110, 99, 116]⟩)
  obtain ⟨a3, h⟩ := r_itemsS _ _ h
  obtain ⟨a4, h⟩ := r_fromS _ _ (h.need (okw ⟨#[102, 114, 111, 109]⟩))
  obtain ⟨a5, h⟩ := r_clauseS ⟨#[119, 104, 101, 114, 101]⟩ _ _ h
  obtain ⟨a6, h⟩ := r_groupS _ _ h
  obtain ⟨a7, h⟩ := r_clauseS ⟨#[104, 97, 118, 105, 110, 103]⟩ _ _ h
  obtain ⟨a8, h⟩ := r_orderS _ _ h
  obtain ⟨a9, h⟩ := r_limitS _ _ h
  unfold queryS
  simp only [Ps.word] at *
  exact ⟨by rw [a1, a2, a3, a4, a5, a6, a7, a8, a9], h⟩
theorem r_indexS : RP indexS indexS := fun s s' h => by
  obtain ⟨a1, h⟩ := h.may (okw ⟨#[117, 110, 105, 113, 117, 101]⟩)
  obtain ⟨a2, h⟩ := (h.need (okw ⟨#[105, 110, 100, 101, 120]⟩)).name
  obtain ⟨a3, h⟩ := (h.need (okw ⟨#[111, 110]⟩)).name
  obtain ⟨a4, h⟩ := (h.need (o4 ⟨#[40]⟩)).name
  unfold indexS
  simp only [Ps.word] at *
  exact ⟨by rw [a1, a2, a3, a4], h.need (o4 _)⟩
theorem r_deleteS : RP deleteS deleteS := fun s s' h => by
  obtain ⟨a1, h⟩ := (h.need (okw ⟨#[102, 114, 111, 109]⟩)).name
  obtain ⟨a2, h⟩ := r_clauseS ⟨#[119, 104, 101, 114, 101]⟩ _ _ h
  unfold deleteS
  simp only
  exact ⟨by rw [a1, a2], h⟩
theorem r_nameK (k : Int) : RP (nameK k) (nameK k) := fun s s' h => by
  obtain ⟨a1, h⟩ := h.name
  unfold nameK
  simp only
  exact ⟨by rw [a1], h⟩
theorem r_dropS : RP dropS dropS := fun s s' h => by
  unfold dropS
  rw [h.is (okw ⟨#[116, 97, 98, 108, 101]⟩)]
  by_cases e1 : s.is 1 ⟨#[116, 97, 98, 108, 101]⟩ = true
  · rw [if_pos e1, if_pos e1]
    obtain ⟨a1, h⟩ := (h.stepi (okw _) e1).name
    exact ⟨by simp only; rw [a1], h⟩
  rw [if_neg e1, if_neg e1]; exact r_nameK _ _ _ (h.need (okw _))
theorem r_backS : RP backS backS := fun s s' h => by
  unfold backS
  rw [h.is (okw ⟨#[116, 111]⟩)]
  by_cases e1 : s.is 1 ⟨#[116, 111]⟩ = true
  · rw [if_pos e1, if_pos e1]; exact r_nameK _ _ _ (h.stepi (okw _) e1)
  rw [if_neg e1, if_neg e1]; exact ⟨rfl, h⟩
theorem r_createS : RP createS createS := fun s s' h => by
  unfold createS
  rw [h.is (okw ⟨#[116, 97, 98, 108, 101]⟩)]
  by_cases e1 : s.is 1 ⟨#[116, 97, 98, 108, 101]⟩ = true
  · rw [if_pos e1, if_pos e1]; exact r_tableS _ _ (h.stepi (okw _) e1)
  rw [if_neg e1, if_neg e1]; exact r_indexS _ _ h
theorem r_stmS : RP stmS stmS := fun s s' h => by
  unfold stmS
  rw [h.is (okw ⟨#[99, 114, 101, 97, 116, 101]⟩), h.is (okw ⟨#[100, 114, 111, 112]⟩), h.is (okw ⟨#[114, 111, 108, 108, 98, 97, 99, 107]⟩), h.is (okw ⟨#[105, 110, 115, 101, 114, 116]⟩), h.is (okw ⟨#[117, 112, 100, 97, 116, 101]⟩), h.is (okw ⟨#[100, 101, 108, 101, 116, 101]⟩), h.is (okw ⟨#[101, 120, 112, 108, 97, 105, 110]⟩), h.is (okw ⟨#[115, 101, 108, 101, 99, 116]⟩), h.is (okw ⟨#[98, 101, 103, 105, 110]⟩), h.is (okw ⟨#[99, 111, 109, 109, 105, 116]⟩), h.is (okw ⟨#[115, 97, 118, 101, 112, 111, 105, 110, 116]⟩), h.is (okw ⟨#[114, 101, 108, 101, 97, 115, 101]⟩)]
  by_cases e : s.is 1 ⟨#[99, 114, 101, 97, 116, 101]⟩ = true
  · rw [if_pos e, if_pos e]; exact r_createS _ _ (h.stepi (okw _) e)
  rw [if_neg e, if_neg e]; clear e
  by_cases e : s.is 1 ⟨#[100, 114, 111, 112]⟩ = true
  · rw [if_pos e, if_pos e]; exact r_dropS _ _ (h.stepi (okw _) e)
  rw [if_neg e, if_neg e]; clear e
  by_cases e : s.is 1 ⟨#[114, 111, 108, 108, 98, 97, 99, 107]⟩ = true
  · rw [if_pos e, if_pos e]; exact r_backS _ _ (h.stepi (okw _) e)
  rw [if_neg e, if_neg e]; clear e
  by_cases e : s.is 1 ⟨#[105, 110, 115, 101, 114, 116]⟩ = true
  · rw [if_pos e, if_pos e]; exact r_insertS _ _ (h.stepi (okw _) e)
  rw [if_neg e, if_neg e]; clear e
  by_cases e : s.is 1 ⟨#[117, 112, 100, 97, 116, 101]⟩ = true
  · rw [if_pos e, if_pos e]; exact r_updateS _ _ (h.stepi (okw _) e)
  rw [if_neg e, if_neg e]; clear e
  by_cases e : s.is 1 ⟨#[100, 101, 108, 101, 116, 101]⟩ = true
  · rw [if_pos e, if_pos e]; exact r_deleteS _ _ (h.stepi (okw _) e)
  rw [if_neg e, if_neg e]; clear e
  by_cases e : s.is 1 ⟨#[101, 120, 112, 108, 97, 105, 110]⟩ = true
  · rw [if_pos e, if_pos e]; exact r_queryS _ _ h
  rw [if_neg e, if_neg e]; clear e
  by_cases e : s.is 1 ⟨#[115, 101, 108, 101, 99, 116]⟩ = true
  · rw [if_pos e, if_pos e]; exact r_queryS _ _ h
  rw [if_neg e, if_neg e]; clear e
  by_cases e : s.is 1 ⟨#[98, 101, 103, 105, 110]⟩ = true
  · rw [if_pos e, if_pos e]; exact ⟨rfl, h.stepi (okw _) e⟩
  rw [if_neg e, if_neg e]; clear e
  by_cases e : s.is 1 ⟨#[99, 111, 109, 109, 105, 116]⟩ = true
  · rw [if_pos e, if_pos e]; exact ⟨rfl, h.stepi (okw _) e⟩
  rw [if_neg e, if_neg e]; clear e
  by_cases e : s.is 1 ⟨#[115, 97, 118, 101, 112, 111, 105, 110, 116]⟩ = true
  · rw [if_pos e, if_pos e]; exact r_nameK _ _ _ (h.stepi (okw _) e)
  rw [if_neg e, if_neg e]; clear e
  by_cases e : s.is 1 ⟨#[114, 101, 108, 101, 97, 115, 101]⟩ = true
  · rw [if_pos e, if_pos e]; exact r_nameK _ _ _ (h.stepi (okw _) e)
  rw [if_neg e, if_neg e]; exact ⟨rfl, h.fail _⟩
theorem r_end {s s' : Ps} (h : R s s') : (∃ l d l' d', (s.may 4 ⟨#[59]⟩).2.over = .ok l d ∧ (s'.may 4 ⟨#[59]⟩).2.over = .ok l' d') ∨ ∃ e a a', (s.may 4 ⟨#[59]⟩).2.over = .bad e a ∧ (s'.may 4 ⟨#[59]⟩).2.over = .bad e a' := by
  rcases h.head with ⟨t, t', l, l', d, rfl, rfl, h | ⟨e1, rfl, e2, e, rfl, e3⟩⟩ | ⟨x, a, a', rfl, rfl⟩
  · right
    have key : ∀ (u : Tok) (r : List Tok), u.tk.kind ≠ 5 → (u.tk.kind = 4 → u.tk.text ≠ [59]) → ((Ps.ok (u :: r) d).may 4 ⟨#[59]⟩).2.over = .bad 180 u.pos := fun u r h1 h2 => by
      have hi : (Ps.ok (u :: r) d).is 4 ⟨#[59]⟩ = false := by
        show (u.tk.kind == 4 && u.tk.text == [59]) = false
        cases h4 : (u.tk.kind == 4) with
        | false => rfl
        | true =>
          have := h2 (by simpa using h4)
          simpa using this
      have hm : ((Ps.ok (u :: r) d).may 4 ⟨#[59]⟩).2 = Ps.ok (u :: r) d := by simp [Ps.may, hi]
      rw [hm]
      unfold Ps.over
      rw [if_neg (by
        rintro (h5 | h5)
        · exact h1 h5
        · cases h5)]
      rfl
    exact ⟨180, _, _, key t l h.2.1 h.2.2.1, key t' l' (by rw [← h.1]; exact h.2.1) (by rw [← h.1]; exact h.2.2.1)⟩
  · left
    have hi : (Ps.ok [t] d).is 4 ⟨#[59]⟩ = false := by
      show (t.tk.kind == 4 && t.tk.text == [59]) = false
      rw [e1]; rfl
    have hi' : (Ps.ok (t' :: [e]) d).is 4 ⟨#[59]⟩ = true := by
      show (t'.tk.kind == 4 && t'.tk.text == [59]) = true
      rw [e2]; rfl
    have hm : ((Ps.ok [t] d).may 4 ⟨#[59]⟩).2 = Ps.ok [t] d := by simp [Ps.may, hi]
    have hm' : ((Ps.ok (t' :: [e]) d).may 4 ⟨#[59]⟩).2 = Ps.ok [e] d := by
      have h4 : ¬ t'.tk.kind = 5 := by rw [e2]; decide
      simp [Ps.may, hi', Ps.step, h4]
    rw [hm, hm']
    refine ⟨[t], d, [e], d, ?_, ?_⟩
    · unfold Ps.over; rw [if_pos (.inl (show t.tk.kind = 5 by rw [e1]; rfl))]
    · unfold Ps.over; rw [if_pos (.inl (show e.tk.kind = 5 by rw [e3]; rfl))]
  · exact .inr ⟨x, a, a', rfl, rfl⟩
theorem r_stmT {t t' : ByteArray} (h : R (readS t) (readS t')) : (∃ x l d l' d', stmT t = (x, .ok l d) ∧ stmT t' = (x, .ok l' d')) ∨ ∃ e a a', (stmT t).2 = .bad e a ∧ (stmT t').2 = .bad e a' := by
  obtain ⟨h1, h2⟩ := r_stmS _ _ h
  unfold stmT
  simp only
  rcases r_end h2 with ⟨l, d, l', d', q, q'⟩ | ⟨e, a, a', q, q'⟩
  · exact .inl ⟨_, l, d, l', d', by rw [q], by rw [q', h1]⟩
  · exact .inr ⟨e, a, a', q, q'⟩
end Go.Proofs.Ytaogpifcfmjcbaa.Rl
end
section
namespace Go.Proofs.Ytaogpifcfmjcbaa
set_option linter.unusedVariables false
set_option maxRecDepth 100000
open Lx
def LexTo (r : Bytes) (ts : List Tk) : Prop := ∀ (s : Bytes) (pos : Nat) (acc : List Tok) (f : Nat), s.drop pos = r → r.length < f → ∃ l, lexN f s pos acc = .good (acc ++ l) ∧ l.map Tok.tk = ts ++ [⟨5, [], 0⟩]
theorem LexTo.nil : LexTo [] [] := by
  intro s pos acc f h hf
  cases f with
  | zero => omega
  | succ f =>
    refine ⟨[⟨⟨5, [], 0⟩, pos⟩], ?_, rfl⟩
    unfold lexN
    simp only [h, if_pos]
theorem tok_pos {r : Bytes} {t : Tk} {n : Nat} (h : oneTok r = some (t, n)) : r ≠ [] := by rintro rfl; cases h
theorem LexTo.tok {r : Bytes} {ts : List Tk} {t : Tk} (n : Nat) (hb : blank1 r = 0) (ho : oneTok r = some (t, n + 1)) (h : LexTo (r.drop (n + 1)) ts) : LexTo r (t :: ts) := by
  intro s pos acc f hs hf
  have hne := tok_pos ho
  have hlen : (r.drop (n + 1)).length < r.length := by
    have : 0 < r.length := List.length_pos_iff.2 hne
    rw [List.length_drop]; omega
  cases f with
  | zero => omega
  | succ f =>
    obtain ⟨l, h1, h2⟩ := h s (pos + (n + 1)) (acc ++ [⟨t, pos⟩]) f (by rw [← List.drop_drop, hs]) (by omega)
    refine ⟨⟨t, pos⟩ :: l, ?_, by simp [h2]⟩
    unfold lexN
    simp only [hs, if_neg hne, hb, ho, ne_eq, not_true_eq_false, if_false]
    rw [h1]
    simp
theorem LexTo.all {r : Bytes} {ts : List Tk} (h : LexTo r ts) : ∃ l, lexAll r = .good l ∧ l.map Tok.tk = ts ++ [⟨5, [], 0⟩] := by
  obtain ⟨l, h1, h2⟩ := h r 0 [] (r.length + 1) rfl (by omega)
  exact ⟨l, by unfold lexAll; rw [h1]; rfl, h2⟩
def smallB (c : UInt8) : Bool := decide (97 ≤ c.toNat) && decide (c.toNat ≤ 122)
theorem small_facts (c : UInt8) (h : smallB c = true) : letterB c = true ∧ innerB c = true ∧ low c = c ∧ whiteB c = false ∧ (c.toNat == 45) = false := by
  have key : ∀ n : Fin 256, smallB (UInt8.ofNat n.val) = true → letterB (UInt8.ofNat n.val) = true ∧ innerB (UInt8.ofNat n.val) = true ∧ low (UInt8.ofNat n.val) = UInt8.ofNat n.val ∧ whiteB (UInt8.ofNat n.val) = false ∧ ((UInt8.ofNat n.val).toNat == 45) = false := by decide +kernel
  have h' := key ⟨c.toNat, c.toNat_lt⟩
  simp only [UInt8.ofNat_toNat] at h'
  exact h' h
theorem runL_app (p : UInt8 → Bool) (a r : Bytes) (h : ∀ d ∈ a, p d = true) (hr : runL p r = 0) : runL p (a ++ r) = a.length := by
  induction a with
  | nil => simpa using hr
  | cons c a ih => simp [runL, h c (by simp), ih (fun d hd => h d (by simp [hd]))]
theorem word_tok (s R : Bytes) (hne : s ≠ []) (hs : ∀ c ∈ s, smallB c = true) (hl : s.length ≤ 32) (hR : runL innerB R = 0) : oneTok (s ++ R) = some (⟨1, s, 0⟩, s.length) ∧ blank1 (s ++ R) = 0 := by
  cases s with
  | nil => exact absurd rfl hne
  | cons c r =>
    obtain ⟨h1, h2, h3, h4, h5⟩ := small_facts c (hs c (by simp))
    have hrun : runL innerB ((c :: r) ++ R) = (c :: r).length := runL_app _ _ _ (fun d hd => (small_facts d (hs d hd)).2.1) hR
    have hmap : (c :: r).map low = c :: r := by
      conv => rhs; rw [← List.map_id (c :: r)]
      exact List.map_congr_left (fun d hd => (small_facts d (hs d hd)).2.2.1)
    refine ⟨?_, ?_⟩
    · show oneTok (c :: (r ++ R)) = _
      simp only [oneTok, h1, if_true]
      unfold wordL
      simp only
      rw [show c :: (r ++ R) = (c :: r) ++ R from rfl, hrun, if_pos hl, List.take_left, hmap]
    · show blank1 (c :: (r ++ R)) = 0
      have hr : remarkB (c :: (r ++ R)) = false := by
        cases hq : r ++ R with
        | nil => rfl
        | cons d q => simp only [remarkB, h5, Bool.false_and]
      simp only [blank1, h4, hr, Bool.false_eq_true, if_false]
theorem LexTo.word {s R : Bytes} {ts : List Tk} (hne : s ≠ []) (hs : ∀ c ∈ s, smallB c = true) (hl : s.length ≤ 32) (hR : runL innerB R = 0) (h : LexTo R ts) : LexTo (s ++ R) (⟨1, s, 0⟩ :: ts) := by
  obtain ⟨h1, h2⟩ := word_tok s R hne hs hl hR
  obtain ⟨n, hn⟩ : ∃ n, s.length = n + 1 := ⟨s.length - 1, by have := List.length_pos_iff.2 hne; omega⟩
  rw [hn] at h1
  refine LexTo.tok n h2 h1 ?_
  rw [← hn, List.drop_left]
  exact h
end Go.Proofs.Ytaogpifcfmjcbaa
end
section
namespace Go.Proofs.Ytaogpifcfmjcbaa.Rl
open Lx
set_option linter.unusedVariables false
def toks : Nat → Bytes → Option (List Tk)
  | 0, _ => none
  | f + 1, r => if r = [] then some [] else if blank1 r ≠ 0 then toks f (r.drop (blank1 r)) else match oneTok r with
    | none => none
    | some (t, n) => (toks f (r.drop n)).map (t :: ·)
theorem lexN_toks : ∀ (f : Nat) (s : Bytes) (pos : Nat) (acc : List Tok), match toks f (s.drop pos) with
    | some ts => ∃ l, lexN f s pos acc = .good (acc ++ l) ∧ l.map Tok.tk = ts ++ [tkE]
    | none => ∃ p, lexN f s pos acc = .bad p
  | 0, s, pos, acc => ⟨pos, rfl⟩
  | f + 1, s, pos, acc => by
    unfold toks lexN
    generalize hr : s.drop pos = r
    simp only
    by_cases h0 : r = []
    · rw [if_pos h0, if_pos h0]
      exact ⟨[⟨⟨5, [], 0⟩, pos⟩], rfl, rfl⟩
    · rw [if_neg h0, if_neg h0]
      by_cases hb : blank1 r ≠ 0
      · rw [if_pos hb, if_pos hb]
        have := lexN_toks f s (pos + blank1 r) acc
        rw [← List.drop_drop, hr] at this
        exact this
      · rw [if_neg hb, if_neg hb]
        cases ho : oneTok r with
        | none => exact ⟨pos, rfl⟩
        | some q =>
          obtain ⟨t, n⟩ := q
          simp only
          have := lexN_toks f s (pos + n) (acc ++ [⟨t, pos⟩])
          rw [← List.drop_drop, hr] at this
          cases ht : toks f (r.drop n) with
          | none => rw [ht] at this; exact this
          | some ts =>
            rw [ht] at this
            obtain ⟨l, h1, h2⟩ := this
            exact ⟨⟨t, pos⟩ :: l, by rw [h1]; simp, by simp [h2]⟩
def fc (c : UInt8) : UInt8 := if decide (97 ≤ c.toNat) && decide (c.toNat ≤ 122) then c - 32 else if decide (65 ≤ c.toNat) && decide (c.toNat ≤ 90) then c + 32 else c
def flip : Bytes → Bytes
  | [] => []
  | c :: r => (if c.toNat = 32 then [10, fc c] else [fc c]) ++ flip r
def Z : Bytes := [32, 59, 32]
def F (r : Bytes) : Bytes := flip r ++ Z
theorem fc_all (c : UInt8) : innerB (fc c) = innerB c ∧ low (fc c) = low c ∧ letterB (fc c) = letterB c ∧ digitB (fc c) = digitB c ∧ whiteB (fc c) = whiteB c ∧ (letterB c = false → fc c = c) := by
  have key : ∀ n : Fin 256, innerB (fc (UInt8.ofNat n.val)) = innerB (UInt8.ofNat n.val) ∧ low (fc (UInt8.ofNat n.val)) = low (UInt8.ofNat n.val) ∧ letterB (fc (UInt8.ofNat n.val)) = letterB (UInt8.ofNat n.val) ∧ digitB (fc (UInt8.ofNat n.val)) = digitB (UInt8.ofNat n.val) ∧ whiteB (fc (UInt8.ofNat n.val)) = whiteB (UInt8.ofNat n.val) ∧ (letterB (UInt8.ofNat n.val) = false → fc (UInt8.ofNat n.val) = UInt8.ofNat n.val) := by decide +kernel
  have h := key ⟨c.toNat, c.toNat_lt⟩
  simp only [UInt8.ofNat_toNat] at h
  exact h
theorem white_facts (c : UInt8) : (whiteB c = true → letterB c = false ∧ innerB c = false ∧ digitB c = false) ∧ (digitB c = true → letterB c = false) ∧ (letterB c = true → ∀ x : UInt8, twoSign x c = false) := by
  refine ⟨?_, ?_, ?_⟩
  · have key : ∀ n : Fin 256, whiteB (UInt8.ofNat n.val) = true → letterB (UInt8.ofNat n.val) = false ∧ innerB (UInt8.ofNat n.val) = false ∧ digitB (UInt8.ofNat n.val) = false := by decide +kernel
    have h := key ⟨c.toNat, c.toNat_lt⟩
    simp only [UInt8.ofNat_toNat] at h
    exact h
  · have key : ∀ n : Fin 256, digitB (UInt8.ofNat n.val) = true → letterB (UInt8.ofNat n.val) = false := by decide +kernel
    have h := key ⟨c.toNat, c.toNat_lt⟩
    simp only [UInt8.ofNat_toNat] at h
    exact h
  · have key : ∀ n : Fin 256, letterB (UInt8.ofNat n.val) = true → ((UInt8.ofNat n.val).toNat == 62) = false ∧ ((UInt8.ofNat n.val).toNat == 61) = false ∧ ((UInt8.ofNat n.val).toNat == 124) = false := by decide +kernel
    have h := key ⟨c.toNat, c.toNat_lt⟩
    simp only [UInt8.ofNat_toNat] at h
    intro hl x
    obtain ⟨h1, h2, h3⟩ := h hl
    unfold twoSign
    simp only [h1, h2, h3, Bool.and_false, Bool.or_self]
theorem c32 {c : UInt8} (h : c.toNat = 32) : c = 32 := by
  have := congrArg UInt8.ofNat h
  simpa using this
theorem F_cons {c : UInt8} (r : Bytes) (h : c.toNat ≠ 32) : F (c :: r) = fc c :: F r := by
  unfold F
  simp only [flip, if_neg h, List.cons_append, List.nil_append]
theorem F_sp (r : Bytes) : F (32 :: r) = 10 :: 32 :: F r := rfl
theorem run_F (p : UInt8 → Bool) (h1 : p 32 = false) (h2 : p 10 = false) (h3 : ∀ c, p (fc c) = p c) : ∀ r, runL p (F r) = runL p r
  | [] => by show runL p (32 :: _) = 0; simp [runL, h1]
  | c :: r => by
    by_cases hc : c.toNat = 32
    · have := c32 hc
      subst this
      rw [F_sp]
      simp [runL, h1, h2]
    · rw [F_cons r hc]
      simp only [runL, h3 c, run_F p h1 h2 h3 r]
theorem take_F : ∀ (n : Nat) (r : Bytes), n ≤ r.length → (∀ c ∈ r.take n, c.toNat ≠ 32) → (F r).take n = (r.take n).map fc ∧ (F r).drop n = F (r.drop n)
  | 0, r, _, _ => ⟨rfl, rfl⟩
  | n + 1, [], h, _ => by simp at h
  | n + 1, c :: r, h, hc => by
    have h0 : c.toNat ≠ 32 := hc c (by simp)
    obtain ⟨a, b⟩ := take_F n r (by simpa using h) (fun d hd => hc d (by simp [hd]))
    rw [F_cons r h0]
    exact ⟨by simp [a], by simpa using b⟩
def clean (r : Bytes) : Prop := ∀ c ∈ r, c.toNat ≠ 39 ∧ c.toNat ≠ 45 ∧ c.toNat ≠ 59
theorem clean.drop {r : Bytes} (h : clean r) (n : Nat) : clean (r.drop n) := fun c hc => h c (List.mem_of_mem_drop hc)
theorem run_no (p : UInt8 → Bool) (hp : p 32 = false) (r : Bytes) (n : Nat) (hn : n ≤ runL p r) : ∀ c ∈ r.take n, c.toNat ≠ 32 := fun c hc e => by
  have h1 : c ∈ r.take (runL p r) := by
    rw [← Nat.min_eq_left hn, ← List.take_take] at hc
    exact List.mem_of_mem_take hc
  have h2 := runL_take p r c h1
  rw [c32 e, hp] at h2
  cases h2
theorem map_fc_id {p : UInt8 → Bool} (hp : ∀ c, p c = true → fc c = c) : ∀ l : Bytes, (∀ c ∈ l, p c = true) → l.map fc = l
  | [], _ => rfl
  | c :: l, h => by rw [List.map_cons, hp c (h c (by simp)), map_fc_id hp l (fun d hd => h d (by simp [hd]))]
theorem map_low (l : Bytes) : (l.map fc).map low = l.map low := by
  rw [List.map_map]
  exact List.map_congr_left (fun c _ => (fc_all c).2.1)
theorem starts_F (r : Bytes) : startsLetter (F r) = startsLetter r := by
  cases r with
  | nil => rfl
  | cons c r =>
    by_cases hc : c.toNat = 32
    · rw [c32 hc, F_sp]; rfl
    · rw [F_cons r hc]; exact (fc_all c).2.2.1
theorem sign_F (c : UInt8) (r : Bytes) (hl : letterB c = false) (hc : c.toNat ≠ 32) : (signL (c :: r) = none → signL (F (c :: r)) = none) ∧ ∀ t n, signL (c :: r) = some (t, n) → signL (F (c :: r)) = some (t, n) ∧ n ≤ (c :: r).length ∧ (∀ d ∈ (c :: r).take n, d.toNat ≠ 32) ∧ 1 ≤ n ∧ t.kind = 4 ∧ (∀ x, t.text = [x] → x = c) := by
  have hcc : fc c = c := (fc_all c).2.2.2.2.2 hl
  rw [F_cons r hc, hcc]
  have t10 : ∀ d : UInt8, whiteB d = true → twoSign c d = false := fun d hd => by
    have key : ∀ n : Fin 256, whiteB (UInt8.ofNat n.val) = true → ((UInt8.ofNat n.val).toNat == 62) = false ∧ ((UInt8.ofNat n.val).toNat == 61) = false ∧ ((UInt8.ofNat n.val).toNat == 124) = false := by decide +kernel
    have h := key ⟨d.toNat, d.toNat_lt⟩
    simp only [UInt8.ofNat_toNat] at h
    obtain ⟨h1, h2, h3⟩ := h hd
    unfold twoSign
    simp only [h1, h2, h3, Bool.and_false, Bool.or_self]
  have one : ∀ (d : UInt8) (q : Bytes), twoSign c d = false → signL (c :: d :: q) = if oneSign c then some (⟨4, [c], 0⟩, 1) else none := fun d q h => by
    simp only [signL, h, Bool.false_eq_true, if_false]
  cases r with
  | nil =>
    have h1 : signL (c :: F []) = if oneSign c then some (⟨4, [c], 0⟩, 1) else none := one 32 [59, 32] (t10 32 rfl)
    rw [h1]
    have h2 : signL [c] = if oneSign c then some (⟨4, [c], 0⟩, 1) else none := rfl
    rw [h2]
    refine ⟨fun h => h, fun t n h => ⟨h, ?_⟩⟩
    split at h
    · cases h
      exact ⟨Nat.le_refl _, fun d hd => by simp at hd; subst hd; exact hc, Nat.le_refl _, rfl, fun x hx => by cases hx; rfl⟩
    · cases h
  | cons d q =>
    by_cases hd : d.toNat = 32
    · have := c32 hd
      subst this
      rw [F_sp, one 10 _ (t10 10 rfl), one 32 q (t10 32 rfl)]
      refine ⟨fun h => h, fun t n h => ⟨h, ?_⟩⟩
      split at h
      · cases h
        exact ⟨by simp, fun d hd => by simp at hd; subst hd; exact hc, Nat.le_refl _, rfl, fun x hx => by cases hx; rfl⟩
      · cases h
    · rw [F_cons q hd]
      have h2 : twoSign c (fc d) = twoSign c d := by
        cases hl2 : letterB d with
        | true => rw [(white_facts d).2.2 hl2 c, (white_facts (fc d)).2.2 (by rw [(fc_all d).2.2.1]; exact hl2) c]
        | false => rw [(fc_all d).2.2.2.2.2 hl2]
      cases h3 : twoSign c d with
      | true =>
        have hl2 : letterB d = false := by
          cases hl2 : letterB d with
          | true => rw [(white_facts d).2.2 hl2 c] at h3; cases h3
          | false => rfl
        have hdd : fc d = d := (fc_all d).2.2.2.2.2 hl2
        have e1 : signL (c :: fc d :: F q) = some (⟨4, [c, d], 0⟩, 2) := by simp only [signL, hdd, h3, if_true]
        have e2 : signL (c :: d :: q) = some (⟨4, [c, d], 0⟩, 2) := by simp only [signL, h3, if_true]
        rw [e1, e2]
        refine ⟨fun h => (by cases h), fun t n h => ⟨h, ?_⟩⟩
        cases h
        exact ⟨by simp, fun x hx => by
          simp only [List.take_succ_cons, List.take_zero, List.mem_cons, List.not_mem_nil, or_false] at hx
          rcases hx with rfl | rfl
          · exact hc
          · exact hd, by decide, rfl, fun x hx => by cases hx⟩
      | false =>
        rw [one (fc d) (F q) (h2.trans h3), one d q h3]
        refine ⟨fun h => h, fun t n h => ⟨h, ?_⟩⟩
        split at h
        · cases h
          exact ⟨by simp, fun d hd => by simp at hd; subst hd; exact hc, Nat.le_refl _, rfl, fun x hx => by cases hx; rfl⟩
        · cases h
theorem tok_F (c : UInt8) (r : Bytes) (hcl : clean (c :: r)) (hw : whiteB c = false) : (oneTok (c :: r) = none → oneTok (F (c :: r)) = none) ∧ ∀ t n, oneTok (c :: r) = some (t, n) → oneTok (F (c :: r)) = some (t, n) ∧ (F (c :: r)).drop n = F ((c :: r).drop n) ∧ 1 ≤ n ∧ (t.kind ≠ 5 ∧ t ≠ tkS ∧ (t.kind = 4 → t.text ≠ [59])) := by
  have hc : c.toNat ≠ 32 := fun e => by rw [c32 e] at hw; cases hw
  obtain ⟨f1, f2, f3, f4, f5, f6⟩ := fc_all c
  have hF := F_cons r hc
  cases hl : letterB c with
  | true =>
    have e1 : oneTok (c :: r) = wordL (c :: r) := by simp only [oneTok, hl, if_true]
    have e2 : oneTok (F (c :: r)) = wordL (F (c :: r)) := by rw [hF]; simp only [oneTok, f3, hl, if_true]
    rw [e1, e2]
    have hrun := run_F innerB rfl rfl (fun d => (fc_all d).1) (c :: r)
    have hle := runL_le innerB (c :: r)
    have htk := take_F (runL innerB (c :: r)) (c :: r) hle (run_no innerB rfl _ _ (Nat.le_refl _))
    unfold wordL
    simp only
    rw [hrun, htk.1, map_low]
    have hpos : 1 ≤ runL innerB (c :: r) := by
      have : innerB c = true := by unfold innerB; rw [hl]; rfl
      simp [runL, this]
    by_cases h32 : runL innerB (c :: r) ≤ 32
    · rw [if_pos h32]
      refine ⟨fun h => (by cases h), fun t n h => ⟨h, ?_⟩⟩
      cases h
      exact ⟨htk.2, hpos, (fun e => by cases e), (fun e => by cases e), (fun e => by cases e)⟩
    · rw [if_neg h32]
      exact ⟨fun h => h, fun t n h => by cases h⟩
  | false =>
    have hcc := f6 hl
    cases hdg : digitB c with
    | true =>
      have e1 : oneTok (c :: r) = numberL (c :: r) := by simp only [oneTok, hl, hdg, if_true, Bool.false_eq_true, if_false]
      have e2 : oneTok (F (c :: r)) = numberL (F (c :: r)) := by rw [hF]; simp only [oneTok, f3, hl, f4, hdg, if_true, Bool.false_eq_true, if_false]
      rw [e1, e2]
      have hrun := run_F digitB rfl rfl (fun d => (fc_all d).2.2.2.1) (c :: r)
      have hle := runL_le digitB (c :: r)
      have htk := take_F (runL digitB (c :: r)) (c :: r) hle (run_no digitB rfl _ _ (Nat.le_refl _))
      have hid : ((c :: r).take (runL digitB (c :: r))).map fc = (c :: r).take (runL digitB (c :: r)) := map_fc_id (p := digitB) (fun d hd => (fc_all d).2.2.2.2.2 ((white_facts d).2.1 hd)) _ (runL_take digitB (c :: r))
      have hpos : 1 ≤ runL digitB (c :: r) := by simp [runL, hdg]
      unfold numberL
      simp only
      rw [hrun, htk.1, htk.2, hid, starts_F]
      by_cases hk : runL digitB (c :: r) ≤ 19 ∧ startsLetter ((c :: r).drop (runL digitB (c :: r))) = false ∧ Lx.valOf 0 ((c :: r).take (runL digitB (c :: r))) < 9223372036854775808
      · rw [if_pos hk]
        refine ⟨fun h => (by cases h), fun t n h => ⟨h, ?_⟩⟩
        cases h
        exact ⟨htk.2, hpos, (fun e => by cases e), (fun e => by cases e), (fun e => by cases e)⟩
      · rw [if_neg hk]
        exact ⟨fun h => h, fun t n h => by cases h⟩
    | false =>
      have h39 : c.toNat ≠ 39 := (hcl c (by simp)).1
      have e1 : oneTok (c :: r) = signL (c :: r) := by simp only [oneTok, hl, hdg, h39, Bool.false_eq_true, if_false]
      have e2 : oneTok (F (c :: r)) = signL (F (c :: r)) := by rw [hF, hcc]; simp only [oneTok, hl, hdg, h39, Bool.false_eq_true, if_false]
      rw [e1, e2]
      obtain ⟨g1, g2⟩ := sign_F c r hl hc
      refine ⟨g1, fun t n h => ?_⟩
      obtain ⟨a1, a2, a3, a4, a5, a6⟩ := g2 t n h
      have h59 : t.text ≠ [59] := fun e => (hcl c (by simp)).2.2 (by rw [← a6 59 e]; rfl)
      exact ⟨a1, (take_F n (c :: r) a2 a3).2, a4, by rw [a5]; decide, fun e => h59 (by rw [e]; rfl), fun _ => h59⟩
theorem blank_clean (c : UInt8) (r : Bytes) (h : clean (c :: r)) : blank1 (c :: r) = if whiteB c then 1 else 0 := by
  have h45 : (c.toNat == 45) = false := by have := (h c (by simp)).2.1; simpa using this
  have hr : remarkB (c :: r) = false := by
    cases r with
    | nil => rfl
    | cons d q => simp only [remarkB, h45, Bool.false_and]
  simp only [blank1, hr, Bool.false_eq_true, if_false]
theorem blank_F (c : UInt8) (r : Bytes) (h : clean (c :: r)) (hw : whiteB c = false) : blank1 (F (c :: r)) = 0 := by
  have hc : c.toNat ≠ 32 := fun e => by rw [c32 e] at hw; cases hw
  obtain ⟨f1, f2, f3, f4, f5, f6⟩ := fc_all c
  rw [F_cons r hc]
  have hr : remarkB (fc c :: F r) = false := by
    cases hl : letterB c with
    | true =>
      have h45 : ((fc c).toNat == 45) = false := by
        have key : ∀ n : Fin 256, letterB (UInt8.ofNat n.val) = true → ((UInt8.ofNat n.val).toNat == 45) = false := by decide +kernel
        have h := key ⟨(fc c).toNat, (fc c).toNat_lt⟩
        simp only [UInt8.ofNat_toNat] at h
        exact h (by rw [f3]; exact hl)
      cases F r with
      | nil => rfl
      | cons d q => simp only [remarkB, h45, Bool.false_and]
    | false =>
      rw [f6 hl]
      have h45 : (c.toNat == 45) = false := by have := (h c (by simp)).2.1; simpa using this
      cases F r with
      | nil => rfl
      | cons d q => simp only [remarkB, h45, Bool.false_and]
  simp only [blank1, f5, hw, hr, Bool.false_eq_true, if_false]
theorem toks_F : ∀ (f : Nat) (r : Bytes), clean r → r.length < f → ∀ f', (F r).length < f' → toks f' (F r) = (toks f r).map (· ++ [tkS]) ∧ ∀ ts, toks f r = some ts → ∀ t ∈ ts, t.kind ≠ 5 ∧ t ≠ tkS ∧ (t.kind = 4 → t.text ≠ [59])
  | 0, r, _, h, _, _ => by omega
  | f + 1, [], _, _, f', h' => by
    have hl : (F []).length = 3 := rfl
    rw [hl] at h'
    obtain ⟨g, rfl⟩ : ∃ g, f' = g + 4 := ⟨f' - 4, by omega⟩
    refine ⟨rfl, fun ts h => ?_⟩
    cases h
    intro t ht; simp at ht
  | f + 1, c :: r, hcl, h, f', h' => by
    have hlen : r.length < f := by simpa using h
    cases f' with
    | zero => omega
    | succ g =>
      have hne : F (c :: r) ≠ [] := by
        unfold F Z; simp
      cases hw : whiteB c with
      | true =>
        have e1 : toks (f + 1) (c :: r) = toks f r := by
          rw [toks, if_neg (by simp), blank_clean c r hcl, hw]
          rfl
        rw [e1]
        have hclr : clean r := hcl.drop 1
        by_cases hc : c.toNat = 32
        · have := c32 hc
          subst this
          rw [F_sp] at h' ⊢
          obtain ⟨g2, rfl⟩ : ∃ g2, g = g2 + 1 := ⟨g - 1, by simp at h'; omega⟩
          have e2 : toks (g2 + 1 + 1) (10 :: 32 :: F r) = toks g2 (F r) := rfl
          rw [e2]
          exact toks_F f r hclr hlen g2 (by simp at h'; omega)
        · rw [F_cons r hc] at h' ⊢
          have hb : blank1 (fc c :: F r) = 1 := by simp only [blank1, (fc_all c).2.2.2.2.1, hw, if_true]
          have e2 : toks (g + 1) (fc c :: F r) = toks g (F r) := by
            rw [toks]
            rw [if_neg (by simp), hb]
            rfl
          rw [e2]
          exact toks_F f r hclr hlen g (by simp at h'; omega)
      | false =>
        have hb1 : blank1 (c :: r) = 0 := by rw [blank_clean c r hcl, hw]; rfl
        have hb2 := blank_F c r hcl hw
        obtain ⟨g1, g2⟩ := tok_F c r hcl hw
        cases ho : oneTok (c :: r) with
        | none =>
          have e1 : toks (f + 1) (c :: r) = none := by
            rw [toks, if_neg (by simp), hb1, if_neg (by decide), ho]
          have e2 : toks (g + 1) (F (c :: r)) = none := by
            rw [toks, if_neg hne, hb2, if_neg (by decide), g1 ho]
          rw [e1, e2]
          exact ⟨rfl, fun ts h => by cases h⟩
        | some q =>
          obtain ⟨t, n⟩ := q
          obtain ⟨a1, a2, a3, a4⟩ := g2 t n ho
          have e1 : toks (f + 1) (c :: r) = (toks f ((c :: r).drop n)).map (t :: ·) := by
            rw [toks, if_neg (by simp), hb1, if_neg (by decide), ho]
          have e2 : toks (g + 1) (F (c :: r)) = (toks g (F ((c :: r).drop n))).map (t :: ·) := by
            rw [toks, if_neg hne, hb2, if_neg (by decide), a1, ← a2]
          have z1 : ((c :: r).drop n).length < f := by rw [List.length_drop, List.length_cons]; omega
          have z2 : (F ((c :: r).drop n)).length < g := by
            rw [← a2, List.length_drop]
            have : 0 < (F (c :: r)).length := List.length_pos_iff.2 hne
            omega
          obtain ⟨k1, k2⟩ := toks_F f _ (hcl.drop n) z1 g z2
          rw [e1, e2, k1]
          refine ⟨?_, fun ts hts => ?_⟩
          · cases toks f ((c :: r).drop n) <;> rfl
          · cases hq : toks f ((c :: r).drop n) with
            | none => rw [hq] at hts; cases hts
            | some us =>
              rw [hq] at hts
              cases hts
              intro u hu
              rcases List.mem_cons.1 hu with rfl | hu
              · exact a4
              · exact k2 us hq u hu
theorem flip_len : ∀ r : Bytes, (flip r).length ≤ 2 * r.length
  | [] => Nat.le_refl _
  | c :: r => by
    have := flip_len r
    unfold flip
    split <;> simp <;> omega
theorem case_read (s u : ByteArray) (hcl : clean s.data.toList) (hz : s.size ≤ 1000) (hu : u.data.toList = flip s.data.toList) : R (readS s) (readS (⟨#[32]⟩ ++ u ++ ⟨#[32, 59, 32]⟩)) := by
  have hsl : s.data.toList.length = s.size := by rw [Array.length_toList]; rfl
  have hd : (⟨#[32]⟩ ++ u ++ ⟨#[32, 59, 32]⟩ : ByteArray).data.toList = 32 :: F s.data.toList := by
    simp only [ByteArray.data_append, Array.toList_append, hu]
    rfl
  have hfl := flip_len s.data.toList
  have hFl : (F s.data.toList).length = (flip s.data.toList).length + 3 := by unfold F Z; simp
  have hzt : (⟨#[32]⟩ ++ u ++ ⟨#[32, 59, 32]⟩ : ByteArray).size = (F s.data.toList).length + 1 := by
    have h1 : (⟨#[32]⟩ ++ u ++ ⟨#[32, 59, 32]⟩ : ByteArray).size = (⟨#[32]⟩ ++ u ++ ⟨#[32, 59, 32]⟩ : ByteArray).data.toList.length := by rw [Array.length_toList]; rfl
    rw [h1, hd, List.length_cons]
  have a := lexN_toks (s.data.toList.length + 1) s.data.toList 0 []
  have b := lexN_toks ((32 :: F s.data.toList).length + 1) (32 :: F s.data.toList) 0 []
  rw [List.drop_zero] at a b
  have e : toks ((32 :: F s.data.toList).length + 1) (32 :: F s.data.toList) = toks (32 :: F s.data.toList).length (F s.data.toList) := rfl
  rw [e] at b
  obtain ⟨k1, k2⟩ := toks_F (s.data.toList.length + 1) s.data.toList hcl (Nat.lt_succ_self _) (32 :: F s.data.toList).length (by simp)
  rw [k1] at b
  unfold readS
  rw [if_neg (by omega), if_neg (by omega), hd]
  unfold lexAll
  cases hq : toks (s.data.toList.length + 1) s.data.toList with
  | none =>
    rw [hq] at a b
    obtain ⟨p, a⟩ := a
    obtain ⟨p', b⟩ := b
    rw [a, b]
    exact .bad _ _ _
  | some ts =>
    rw [hq] at a b
    obtain ⟨l, a1, a2⟩ := a
    obtain ⟨l', b1, b2⟩ := b
    rw [a1, b1]
    simp only [List.nil_append]
    refine .inl ⟨ts, l, l', 0, rfl, rfl, a2, ?_, k2 ts hq⟩
    rw [b2]
    simp
theorem case_law (s u : ByteArray) (hcl : clean s.data.toList) (hz : s.size ≤ 1000) (hu : u.data.toList = flip s.data.toList) :
    (∃ x l d l' d', stmT s = (x, .ok l d) ∧ stmT (⟨#[32]⟩ ++ u ++ ⟨#[32, 59, 32]⟩) = (x, .ok l' d')) ∨ ∃ e a a', (stmT s).2 = .bad e a ∧ (stmT (⟨#[32]⟩ ++ u ++ ⟨#[32, 59, 32]⟩)).2 = .bad e a' := r_stmT (case_read s u hcl hz hu)
end Go.Proofs.Ytaogpifcfmjcbaa.Rl
end
section
namespace Go.Proofs.Ytaogpifcfmjcbaa
open Go.RowKit
set_option linter.unusedSimpArgs false
set_option linter.unusedVariables false
attribute [local go_sem] Rg.leads_value Rg.leads_skip Rg.leads_enter Rg.brings_value Rg.brings_skip Rg.brings_enter Rg.bringsG_value Rg.bringsG_enter Rg.once_normal Rg.once_exit Rg.once_ret Rg.once_panic Rg.once_goto Rg.bringsS_value Rg.bringsS_skip Rg.bringsS_enter Rg.still_value Rg.still_skip Rg.still_enter
def Tru (w : World) (e : Ending) (w' : World) : Prop := e = .returned (.bool true) ∧ Gr w w'
theorem at_head {S : Nat → Prop} {w : World} {hd : Hd} {ks : List Ex} {r : XR} (hx : Ex.At S w (.mk hd ks) r) : r.h = hd ∧ KsAt kX S w ks ⟨r.oa, r.n, r.cap⟩ := by
  unfold Ex.At at hx
  obtain ⟨h1, h2, h3, rs, h4, h5, h6⟩ := hx
  exact ⟨h1, ks_x.1 ⟨h2, h3, rs, h4, h5, h6⟩⟩
set_option maxHeartbeats 8000000 in
set_option maxRecDepth 100000 in
theorem same_of (h : Hd) (oa oa' : Option Addr) (n n' c c' : Nat) (w : World) (HALL : ∀ W, Gr w W → Calls Try.prog 21 #[.slice oa n c, .slice oa' n' c'] W (Tru W)) : Calls Try.prog 22 #[XR.val ⟨h, oa, n, c⟩, XR.val ⟨h, oa', n', c'⟩] w (Tru w) := by
  obtain ⟨op, ⟨vt, vn, vs, vb⟩, tab, name, t, cc, nt, st⟩ := h
  have EV := fun W => v_same vt vn vs vb W
  have HQ : Hid (∀ e w', e = .returned (.bool true) ∧ Gr w w' → Tru w e w') := hid (fun e w' h => h)
  generalize hQ : Tru w = Q at *
  have HH := hid HALL
  clear HALL hQ
  simp only [XR.val]
  go_enter Try.func22, Try.ntmps22
  go_wp2_with fail
  have hg : Gr w ((w.alloc (.cells #[.int .i64 op, .int .i64 vt, .int .i64 vn, .string vs, .bool vb, .string tab, .string name, .int .i64 t, .int .i64 cc, .bool nt, .bool st, .slice oa n c] 32)).alloc (.cells #[.int .i64 op, .int .i64 vt, .int .i64 vn, .string vs, .bool vb, .string tab, .string name, .int .i64 t, .int .i64 cc, .bool nt, .bool st, .slice oa' n' c'] 32)) := ((Gr.refl w).alloc _).alloc _
  refine (HH.out _ hg).mono ?_
  rintro e w1 ⟨rfl, hg1⟩
  have HF := hid (HQ.out _ _ ⟨rfl, hg.trans hg1⟩)
  clear hg hg1 HH HQ EV
  go_wp2
  first | exact HF.out | (go_ret; exact HF.out) | (go_ret3; exact HF.out)
set_option maxHeartbeats 8000000 in
set_option maxRecDepth 100000 in
theorem sameall_of (ks : List Ex) (S S' : Nat → Prop) (s s' : Slc) (w : World) (hx : KsAt kX S w ks s) (hx' : KsAt kX S' w ks s')
    (hrec : ∀ k (hk : k < ks.length) r r' W, Ex.At S W ks[k] r → Ex.At S' W ks[k] r' → Calls Try.prog 22 #[XR.val r, XR.val r'] W (Tru W)) :
    Calls Try.prog 21 #[s.val, s'.val] w (Tru w) := by
  have HQ : Hid (∀ e w', e = .returned (.bool true) ∧ Gr w w' → Tru w e w') := hid (fun e w' h => h)
  generalize hQ : Tru w = Q at *
  clear hQ
  obtain ⟨oa, n, c⟩ := s
  obtain ⟨oa', n', c'⟩ := s'
  have hn : n = ks.length := hx.1
  have hn' : n' = n := (show n' = ks.length from hx'.1).trans hn.symm
  subst hn'
  have hb : n' ≤ 2000000 := hx.2.1.2
  have HX := hid hx
  have HX' := hid hx'
  have HR := hid hrec
  have HN := hid hn
  clear hx hx' hrec hn
  unfold Slc.val
  go_enter Try.func21, Try.ntmps21
  go_wp2_with fail
  go_loopw [5] (fun s5 wr => ∃ k : Nat, s5 = .int .i64 (k : Int) ∧ k ≤ n' ∧ Gr w wr) (fun s5 _ => n' - (intOf s5).toNat)
  · exact ⟨0, rfl, Nat.zero_le _, .refl _⟩
  · obtain ⟨k, rfl, hk, hg⟩ := hrel
    by_cases hkn : k < n'
    · have t0 : decide ((k : Int) < (n' : Int)) = true := lt_dec _ _ hkn
      have g1 : (k : Int) < (n' : Int) := lt_cast _ _ hkn
      have hwk : wrap64 ((k : Int) + 1) = (k : Int) + 1 := wrap_next _ _ hkn (by omega)
      have hks : k < ks.length := by rw [← HN.out]; exact hkn
      obtain ⟨b, off, rk, hoa, _, hbl, _, hat, hrk⟩ := ks_getK (HX.out.of kX_ok hg.size (fun b _ hl => hg.block b hl)) k hks
      obtain ⟨b', off', rk', hoa', _, hbl', _, hat', hrk'⟩ := ks_getK (HX'.out.of kX_ok hg.size (fun b _ hl => hg.block b hl)) k hks
      have hoa : oa = some ⟨b, off, none⟩ := hoa
      have hoa' : oa' = some ⟨b', off', none⟩ := hoa'
      have HC1 : Hid (∀ i u, (xF rk)[i]? = some u → wr.cell? ⟨b, off + k * 12 + i, none⟩ = some u) := hid hrk
      have HC2 : Hid (∀ i u, (xF rk')[i]? = some u → wr.cell? ⟨b', off' + k * 12 + i, none⟩ = some u) := hid hrk'
      have HS : Hid (∀ W, Gr wr W → Calls Try.prog 22 #[XR.val rk, XR.val rk'] W (Tru W)) := hid (fun W h => HR.out k hks rk rk' W (kX_ok.of h.size (fun b _ hl => h.block b hl) hat) (kX_ok.of h.size (fun b _ hl => h.block b hl) hat'))
      have HE : Hid (∀ W, Gr wr W → (∃ k' : Nat, Value.int .i64 ((k : Int) + 1) = .int .i64 (k' : Int) ∧ k' ≤ n' ∧ Gr w W) ∧ n' - (intOf (.int .i64 ((k : Int) + 1))).toNat < n' - (intOf (.int .i64 (k : Int))).toNat) := hid (fun W h => ⟨⟨k + 1, next_int _, hkn, hg.trans h⟩, meas_step _ _ hkn⟩)
      have HWK := hid hwk
      obtain ⟨vk, hvk⟩ : ∃ vk, XR.val rk = vk := ⟨_, rfl⟩
      obtain ⟨vl, hvl⟩ : ∃ vl, XR.val rk' = vl := ⟨_, rfl⟩
      rw [hvk, hvl] at HS
      have HK := hid hvk
      have HL := hid hvl
      clear hrk hrk' hat hat' hg hk hkn hks hbl hbl' hvk hvl
      rw [hoa, hoa']
      go_wp2_with fail
      refine Rg.region_chain 9 [8] [] (fun _ _ W => Gr wr W) [some (.slice (some ⟨b, off, none⟩) n' c), some (.int .i64 (k : Int)), some (.pointer (some ⟨b, off + k * 12, none⟩)), some vk, some (.slice (some ⟨b', off', none⟩) n' c'), some (.int .i64 (k : Int)), some (.pointer (some ⟨b', off' + k * 12, none⟩)), some vl, some (.bool true)]
        (fun _ => ((Gr.refl _).drew)) (by kernel_rfl) (by kernel_rfl) (by kernel_rfl) (by kernel_rfl) (fun _ _ d _ _ h => by cases d <;> exact h) ?_
      intro OPS HOPS v
      clear HOPS
      simp only [List.take_succ_cons, List.take_zero, Rg.wpC, Rg.wpS, Option.getD_some, Option.getD_none, Act.put, List.setIfInBounds_toArray, List.set_cons_zero, List.set_cons_succ, show List.contains [8] 0 = false from rfl, show List.contains [8] 1 = false from rfl, show List.contains [8] 2 = false from rfl, show List.contains [8] 3 = false from rfl, show List.contains [8] 4 = false from rfl, show List.contains [8] 5 = false from rfl, show List.contains [8] 6 = false from rfl, show List.contains [8] 7 = false from rfl, show List.contains [8] 8 = true from rfl, Bool.false_eq_true, if_false, if_true, Nat.reduceAdd]
      refine ⟨?_, ?_, ?_, ?_, ?_, ?_, ?_, ?_, ?_, ?_⟩
      iterate 3
        · refine sc_still (by rfl) (by rfl) (fun s' W _ hS => ?_)
          clear hS
          go_simp
      · refine sc_still (by rfl) (by rfl) (fun s' W hlim hS => ?_)
        have hg : Gr wr W := hS
        rw [← HK.out]
        exact still_load rfl b (off + k * 12) rfl (xF rk) (fun i u hu => hg.keep (HC1.out i u hu)) _ Try.underlying32 rfl (by kernel_rfl)
      iterate 3
        · refine sc_still (by rfl) (by rfl) (fun s' W _ hS => ?_)
          clear hS
          go_simp
      · refine sc_still (by rfl) (by rfl) (fun s' W hlim hS => ?_)
        have hg : Gr wr W := hS
        rw [← HL.out]
        exact still_load rfl b' (off' + k * 12) rfl (xF rk') (fun i u hu => hg.keep (HC2.out i u hu)) _ Try.underlying32 rfl (by kernel_rfl)
      · refine sc_call (by rfl) (by rfl) (fun W hS => ?_)
        have HG : Hid (Gr wr W) := hid hS
        clear hS
        go_simp
        refine (HS.out W HG.out).mono ?_
        rintro e w' ⟨rfl, hg'⟩
        exact ⟨_, rfl, rfl, HG.out.trans hg'⟩
      intro W hS
      simp only [List.drop_succ_cons, List.drop_zero]
      have HF := hid (HE.out W hS)
      clear hS HC1 HC2 HS HE hoa hoa'
      go_wp2_with fail
      first | exact HF.out | (rw [HWK.out]; exact HF.out)
    · have t0 : decide ((k : Int) < (n' : Int)) = false := nlt_dec _ _ hkn
      have HF := hid (HQ.out _ _ ⟨rfl, hg⟩)
      clear hg hk HX HX' HR HN HQ
      go_wp2
      first | exact HF.out | (go_ret; exact HF.out) | (go_ret3; exact HF.out)
theorem same_any : ∀ (N : Nat) (x : Ex), Ex.sz x ≤ N → ∀ (r r' : XR) (S S' : Nat → Prop) (w : World), Ex.At S w x r → Ex.At S' w x r' → Calls Try.prog 22 #[XR.val r, XR.val r'] w (Tru w)
  | 0, x, h, _, _, _, _, _, _, _ => by cases x; rw [Ex.sz] at h; omega
  | N + 1, .mk hd ks, h, r, r', S, S', w, hx, hx' => by
    have k1 := (at_head hx)
    have k2 := (at_head hx')
    obtain ⟨rh, oa, n, c⟩ := r
    obtain ⟨rh', oa', n', c'⟩ := r'
    have e1 : rh = hd := k1.1
    have e2 : rh' = hd := k2.1
    subst e1
    subst e2
    refine same_of rh' oa oa' n n' c c' w (fun W hg => ?_)
    refine sameall_of ks S S' ⟨oa, n, c⟩ ⟨oa', n', c'⟩ W (k1.2.of kX_ok hg.size (fun b _ hl => hg.block b hl)) (k2.2.of kX_ok hg.size (fun b _ hl => hg.block b hl)) (fun k hk q q' W' a1 a2 => ?_)
    have hs := sz_get ks k hk
    rw [Ex.sz] at h
    exact same_any N ks[k] (by omega) q q' S S' W' a1 a2
theorem sameall_any {ks : List Ex} {S S' : Nat → Prop} {s s' : Slc} {w : World} (hx : KsAt kX S w ks s) (hx' : KsAt kX S' w ks s') : Calls Try.prog 21 #[s.val, s'.val] w (Tru w) :=
  sameall_of ks S S' s s' w hx hx' (fun k hk r r' W a b => same_any _ _ (Nat.le_refl _) r r' S S' W a b)
end Go.Proofs.Ytaogpifcfmjcbaa
end
section
namespace Go.Proofs.Ytaogpifcfmjcbaa
open Go.RowKit
set_option linter.unusedSimpArgs false
set_option linter.unusedVariables false
attribute [local go_sem] Rg.leads_value Rg.leads_skip Rg.leads_enter Rg.brings_value Rg.brings_skip Rg.brings_enter Rg.bringsG_value Rg.bringsG_enter Rg.once_normal Rg.once_exit Rg.once_ret Rg.once_panic Rg.once_goto Rg.bringsS_value Rg.bringsS_skip Rg.bringsS_enter Rg.still_value Rg.still_skip Rg.still_enter
def TwB (T : TypeId) (z cs : List Value) (wr : World) (i j c : Nat) (D : Nat → Bool) (v : Nat → Value) (W : World) : Prop :=
  Gr wr W ∧ (D c = true → D i = true ∧ D j = true) ∧ (D i = true → ∃ g, v i = .pointer (some ⟨g, 0, none⟩) ∧ wr.heap.size ≤ g ∧ W.heap[g]? = some (.cells (if D c then cs else z).toArray T (0, 0))) ∧ (D j = true → ∃ g, v j = .pointer (some ⟨g, 0, none⟩) ∧ wr.heap.size ≤ g ∧ W.heap[g]? = some (.cells z.toArray T (0, 0)) ∧ (D i = true → v i ≠ v j))
section
variable {T : TypeId} {z cs : List Value} {wr W : World} {i j c : Nat} {D : Nat → Bool} {v : Nat → Value}
theorem TwB.start (hG : Gr wr W) (v : Nat → Value) : TwB T z cs wr i j c (fun _ => false) v W := ⟨hG, fun h => (by cases h), fun h => (by cases h), fun h => (by cases h)⟩
theorem TwB.one (hij : i ≠ j) (hic : i ≠ c) (hD : D i = false) (h : TwB T z cs wr i j c D v W) : TwB T z cs wr i j c (Rg.ins D i) (Rg.upd v i (.pointer (some ⟨W.heap.size, 0, none⟩))) (W.alloc (.cells z.toArray T)) := by
  obtain ⟨hg, hc, h1, h2⟩ := h
  have hDc : D c = false := by
    cases e : D c with
    | false => rfl
    | true => have := (hc e).1; rw [hD] at this; cases this
  have ec : Rg.ins D i c = false := by simp [Rg.ins, Ne.symm hic, hDc]
  have ei : Rg.ins D i i = true := by simp [Rg.ins]
  have ej : Rg.ins D i j = D j := by simp [Rg.ins, Ne.symm hij]
  have vi : ∀ u, Rg.upd v i u i = u := fun u => by simp [Rg.upd]
  have vj : ∀ u, Rg.upd v i u j = v j := fun u => by simp [Rg.upd, Ne.symm hij]
  have hA := (Gr.refl W).alloc (.cells z.toArray T)
  refine ⟨hg.trans hA, fun h => (by rw [ec] at h; cases h), fun _ => ⟨_, vi _, hg.size, by rw [ec]; exact alloc_at _ _⟩, fun h => ?_⟩
  rw [ej] at h
  obtain ⟨g, g1, g2, g3, _⟩ := h2 h
  refine ⟨g, (vj _).trans g1, g2, by rw [hA.block g (Array.getElem?_eq_some_iff.1 g3).1]; exact g3, fun _ => ?_⟩
  rw [vi, vj, g1]
  intro e
  have := (Array.getElem?_eq_some_iff.1 g3).1
  cases e
  omega
theorem TwB.two (hij : i ≠ j) (hjc : j ≠ c) (hD : D j = false) (h : TwB T z cs wr i j c D v W) : TwB T z cs wr i j c (Rg.ins D j) (Rg.upd v j (.pointer (some ⟨W.heap.size, 0, none⟩))) (W.alloc (.cells z.toArray T)) := by
  obtain ⟨hg, hc, h1, h2⟩ := h
  have hDc : D c = false := by
    cases e : D c with
    | false => rfl
    | true => have := (hc e).2; rw [hD] at this; cases this
  have ec : Rg.ins D j c = false := by simp [Rg.ins, Ne.symm hjc, hDc]
  have ei : Rg.ins D j i = D i := by simp [Rg.ins, hij]
  have vi : ∀ u, Rg.upd v j u i = v i := fun u => by simp [Rg.upd, hij]
  have vj : ∀ u, Rg.upd v j u j = u := fun u => by simp [Rg.upd]
  have hA := (Gr.refl W).alloc (.cells z.toArray T)
  refine ⟨hg.trans hA, fun h => (by rw [ec] at h; cases h), fun h => ?_, fun _ => ⟨_, vj _, hg.size, alloc_at _ _, fun h => ?_⟩⟩
  · rw [ei] at h
    obtain ⟨g, g1, g2, g3⟩ := h1 h
    rw [hDc] at g3
    refine ⟨g, (vi _).trans g1, g2, by rw [ec, hA.block g (Array.getElem?_eq_some_iff.1 g3).1]; exact g3⟩
  · rw [ei] at h
    obtain ⟨g, g1, g2, g3⟩ := h1 h
    rw [vi, vj, g1]
    intro e
    have := (Array.getElem?_eq_some_iff.1 g3).1
    cases e
    omega
theorem TwB.fill (hij : i ≠ j) (hic : i ≠ c) (hjc : j ≠ c) (hD : D c = false) (hDi : D i = true) (hDj : D j = true) (hz : cs.length = z.length) (h : TwB T z cs wr i j c D v W) : ∃ g, v i = .pointer (some ⟨g, 0, none⟩) ∧ W.heap[g]? = some (.cells z.toArray T (0, 0)) ∧ TwB T z cs wr i j c (Rg.ins D c) v (W.setCells g 0 cs) := by
  obtain ⟨hg, hc, h1, h2⟩ := h
  obtain ⟨g, g1, g2, g3⟩ := h1 hDi
  obtain ⟨k, k1, k2, k3, k4⟩ := h2 hDj
  rw [hD] at g3
  have ec : Rg.ins D c c = true := by simp [Rg.ins]
  have ei : Rg.ins D c i = true := by simp [Rg.ins, hDi]
  have hgo := setCells_go (g := g) cs 0 W
  have hne : k ≠ g := fun e => k4 hDi (by rw [g1, k1, e])
  refine ⟨g, g1, g3, hg.grown hgo (fun b e => by cases e; exact g2), fun _ => ⟨ei, by simp [Rg.ins, hDj]⟩, fun _ => ⟨g, g1, g2, ?_⟩, fun _ => ⟨k, k1, k2, ?_, fun _ => k4 hDi⟩⟩
  · rw [ec]
    have h3 := setCells_heap cs 0 z W g3
    rw [putL_self cs 0 z hz.symm] at h3
    exact h3
  · rw [hgo.get (Array.getElem?_eq_some_iff.1 k3).1 hne]; exact k3
theorem TwB.fin (h : TwB T z cs wr i j c D v W) (hi : D i = true) (hj : D j = true) (hc : D c = true) : Gr wr W ∧ ∃ g k, v i = .pointer (some ⟨g, 0, none⟩) ∧ v j = .pointer (some ⟨k, 0, none⟩) ∧ wr.heap.size ≤ g ∧ wr.heap.size ≤ k ∧ g ≠ k ∧ W.heap[g]? = some (.cells cs.toArray T (0, 0)) ∧ W.heap[k]? = some (.cells z.toArray T (0, 0)) := by
  obtain ⟨hg, _, h1, h2⟩ := h
  obtain ⟨g, g1, g2, g3⟩ := h1 hi
  obtain ⟨k, k1, k2, k3, k4⟩ := h2 hj
  rw [hc] at g3
  exact ⟨hg, g, k, g1, k1, g2, k2, fun e => k4 hi (by rw [g1, k1, e]), g3, k3⟩
end
theorem ss_call {P : Program} {ops : Array Oper} {Cs : List Nat} {Ps Ws : List (Nat × Nat)} {St : (Nat → Bool) → (Nat → Value) → World → Prop} {v : Nat → Value} {i : Nat} {o : Oper} {a : Act} {c : Value} (hC : Cs.contains i = true) (hw : Region.wanted o (yielded ops a.tmps) = true) (h : ∀ D w, D i = false → Rg.preS Ps i D → St D v w → Rg.BringsS P (fun u w' => u = c ∧ St (Rg.ins D i) v w') ((execOp a.eval o).run P w)) : Rg.StepS P ops Cs Ps Ws St v (some c) i o a := by
  unfold Rg.StepS
  rw [hC]
  simp only [if_true]
  exact ⟨hw, h⟩
structure Bxs (w0 : World) (g : Nat) (r r' : SR) : Prop where
  a : w0.heap[g]? = some (.cells (SR.cs r).toArray 35 (0, 0))
  b : w0.heap[g + 1]? = some (.cells (SR.cs r').toArray 35 (0, 0))
section
variable {w0 : World} {g : Nat} {r r' : SR}
theorem Bxs.items1 (h : Bxs w0 g r r') : w0.cell? ⟨g, 11, none⟩ = some (.slice r.items.oa r.items.n r.items.cap) := by rw [Rg.blk_cells h.a]; rfl
theorem Bxs.items2 (h : Bxs w0 g r r') : w0.cell? ⟨g + 1, 11, none⟩ = some (.slice r'.items.oa r'.items.n r'.items.cap) := by rw [Rg.blk_cells h.b]; rfl
theorem Bxs.refs1 (h : Bxs w0 g r r') : w0.cell? ⟨g, 12, none⟩ = some (.slice r.refs.oa r.refs.n r.refs.cap) := by rw [Rg.blk_cells h.a]; rfl
theorem Bxs.refs2 (h : Bxs w0 g r r') : w0.cell? ⟨g + 1, 12, none⟩ = some (.slice r'.refs.oa r'.refs.n r'.refs.cap) := by rw [Rg.blk_cells h.b]; rfl
theorem Bxs.order1 (h : Bxs w0 g r r') : w0.cell? ⟨g, 38, none⟩ = some (.slice r.order.oa r.order.n r.order.cap) := by rw [Rg.blk_cells h.a]; rfl
theorem Bxs.order2 (h : Bxs w0 g r r') : w0.cell? ⟨g + 1, 38, none⟩ = some (.slice r'.order.oa r'.order.n r'.order.cap) := by rw [Rg.blk_cells h.b]; rfl
end
set_option maxHeartbeats 16000000 in
set_option maxRecDepth 100000 in
theorem lists_any (x : Stm) (r r' : SR) (S S' : Nat → Prop) (w : World) (hx : StmAt S w x r) (hx' : StmAt S' w x r') : Calls Try.prog 23 #[SR.val r, SR.val r'] w (Tru w) := by
  have HQ : Hid (∀ e w', e = .returned (.bool true) ∧ Gr w w' → Tru w e w') := hid (fun e w' h => h)
  generalize hQ : Tru w = Q at *
  clear hQ
  obtain ⟨w0, hw0⟩ : ∃ w0, (w.alloc (.cells (SR.cs r).toArray 35)).alloc (.cells (SR.cs r').toArray 35) = w0 := ⟨_, rfl⟩
  have hA : Gr w w0 := by rw [← hw0]; exact ((Gr.refl w).alloc _).alloc _
  have HC : Hid (Bxs w0 w.heap.size r r') := hid ⟨by rw [← hw0, ((Gr.refl _).alloc _).block _ (by simp)]; exact alloc_at _ _, by rw [← hw0]; exact alloc_at' _ _ _ (World.size_alloc _ _).symm⟩
  have HX := hid (hx.of hA.size (fun b _ hb => hA.block b hb))
  have HX' := hid (hx'.of hA.size (fun b _ hb => hA.block b hb))
  have HQ0 : Hid (∀ e w', e = .returned (.bool true) ∧ Gr w0 w' → Q e w') := hid (fun e w' h => HQ.out e w' ⟨h.1, hA.trans h.2⟩)
  have HG0 := hid (Gr.refl w0)
  have cI := HC.out.items1
  have HW := hid hw0
  clear hx hx' HQ hA hw0
  unfold SR.val
  go_enter Try.func23, Try.ntmps23
  go_wp2_with fail
  change Code.wp _ _ _ _ ((w.alloc (.cells (SR.cs r).toArray 35)).alloc (.cells (SR.cs r').toArray 35))
  rw [HW.out]
  clear HW
  go_loopw [5] (fun s9 wr => ∃ k : Nat, s9 = .int .i64 (k : Int) ∧ k ≤ r.items.n ∧ Gr w0 wr) (fun s9 _ => r.items.n - (intOf s9).toNat)
  · exact ⟨0, rfl, Nat.zero_le _, HG0.out⟩
  · obtain ⟨k, rfl, hk, hg⟩ := hrel
    have hbd : r.items.n ≤ 2000000 := HX.out.items.2.1.2
    have hnn : r'.items.n = r.items.n := HX'.out.items.1.trans HX.out.items.1.symm
    have cA := hg.keep (HC.out.items1)
    have cB := hg.keep (HC.out.items2)
    rw [hnn] at cB
    by_cases hkn : k < r.items.n
    · have t0 : decide ((k : Int) < (r.items.n : Int)) = true := lt_dec _ _ hkn
      have g1 : (k : Int) < (r.items.n : Int) := lt_cast _ _ hkn
      have hwk : wrap64 ((k : Int) + 1) = (k : Int) + 1 := wrap_next _ _ hkn (by omega)
      have hks : k < x.items.length := by rw [← HX.out.items.1]; exact hkn
      obtain ⟨b, off, rk, hoa, _, hbl, _, hat, hrk⟩ := ks_getK (HX.out.items.of kItem_ok hg.size (fun b _ hl => hg.block b hl)) k hks
      obtain ⟨b', off', rk', hoa', _, hbl', _, hat', hrk'⟩ := ks_getK (HX'.out.items.of kItem_ok hg.size (fun b _ hl => hg.block b hl)) k hks
      rw [hoa] at cA
      rw [hoa'] at cB
      have HE : Hid (∀ W, Gr wr W → (∃ k' : Nat, Value.int .i64 ((k : Int) + 1) = .int .i64 (k' : Int) ∧ k' ≤ r.items.n ∧ Gr w0 W) ∧ r.items.n - (intOf (.int .i64 ((k : Int) + 1))).toNat < r.items.n - (intOf (.int .i64 (k : Int))).toNat) := hid (fun W h => ⟨⟨k + 1, next_int _, hkn, hg.trans h⟩, meas_step _ _ hkn⟩)
      have HWK := hid hwk
      obtain ⟨y1, hy1⟩ : ∃ y, (x.items[k]'hks).star = y := ⟨_, rfl⟩
      obtain ⟨y2, hy2⟩ : ∃ y, (x.items[k]'hks).as_ = y := ⟨_, rfl⟩
      obtain ⟨y3, hy3⟩ : ∃ y, (x.items[k]'hks).name = y := ⟨_, rfl⟩
      have hx1 : Ex.At S wr (x.items[k]'hks).e (ItR.x rk) := hat.2.2.2
      have hx2 : Ex.At S' wr (x.items[k]'hks).e (ItR.x rk') := hat'.2.2.2
      have q1 : rk.star = y1 := hat.1.trans hy1
      have q2 : rk.as_ = y2 := hat.2.1.trans hy2
      have q3 : rk.name = y3 := hat.2.2.1.trans hy3
      have q4 : rk'.star = y1 := hat'.1.trans hy1
      have q5 : rk'.as_ = y2 := hat'.2.1.trans hy2
      have q6 : rk'.name = y3 := hat'.2.2.1.trans hy3
      clear hy1 hy2 hy3
      obtain ⟨z1, zx, z2, z3⟩ := rk
      obtain ⟨z4, zy, z5, z6⟩ := rk'
      simp only at q1 q2 q3 q4 q5 q6 hx1 hx2
      subst q1 q2 q3 q4 q5 q6
      have HLA : Hid (∀ i u, (itF ⟨z4, zx, z5, z6⟩)[i]? = some u → wr.cell? ⟨b, off + k * 15 + i, none⟩ = some u) := hid hrk
      have HLB : Hid (∀ i u, (itF ⟨z4, zy, z5, z6⟩)[i]? = some u → wr.cell? ⟨b', off' + k * 15 + i, none⟩ = some u) := hid hrk'
      have HS : Hid (∀ W, Gr wr W → Calls Try.prog 22 #[XR.val zx, XR.val zy] W (Tru W)) := hid (fun W h => same_any _ _ (Nat.le_refl _) _ _ _ _ W (Ex.At.of h.size (fun b _ hl => h.block b hl) hx1) (Ex.At.of h.size (fun b _ hl => h.block b hl) hx2))
      obtain ⟨vk, hvk⟩ : ∃ vk, Value.agg (itF ⟨z4, zx, z5, z6⟩).toArray = vk := ⟨_, rfl⟩
      obtain ⟨vl, hvl⟩ : ∃ vl, Value.agg (itF ⟨z4, zy, z5, z6⟩).toArray = vl := ⟨_, rfl⟩
      have HK := hid hvk
      have HL := hid hvl
      clear hrk hrk' hat hat' hx1 hx2 hg hk hkn hks hbl hbl' hnn hvk hvl
      go_wp2_with fail
      refine Rg.region_set 13 [10, 11, 12] [(10, 12), (11, 12)] [] (TwB 84 (.bool false :: (xF ⟨{ op := 0 }, none, 0, 0⟩ ++ [.string ⟨#[]⟩, .string ⟨#[]⟩])) (itF ⟨z4, zx, z5, z6⟩) wr 10 11 12) [some (.pointer (some ⟨w.heap.size, 11, none⟩)), some (.slice (some ⟨b, off, none⟩) r.items.n r.items.cap), some (.int .i64 (k : Int)), some (.pointer (some ⟨b, off + k * 15, none⟩)), some vk, some (.pointer (some ⟨w.heap.size + 1, 11, none⟩)), some (.slice (some ⟨b', off', none⟩) r.items.n r'.items.cap), some (.int .i64 (k : Int)), some (.pointer (some ⟨b', off' + k * 15, none⟩)), some vl, none, none, some undef]
        (fun _ => TwB.start ((Gr.refl _).drew) _) (by kernel_rfl) (by kernel_rfl) (by kernel_rfl) (by kernel_rfl) (fun _ _ d _ _ h => by cases d <;> exact h) ?_
      intro OPS HOPS v
      clear HOPS
      simp only [List.take_succ_cons, List.take_zero, Rg.wpC, Rg.wpS, Option.getD_some, Option.getD_none, Act.put, List.setIfInBounds_toArray, List.set_cons_zero, List.set_cons_succ, show List.contains [10, 11, 12] 0 = false from rfl, show List.contains [10, 11, 12] 1 = false from rfl, show List.contains [10, 11, 12] 2 = false from rfl, show List.contains [10, 11, 12] 3 = false from rfl, show List.contains [10, 11, 12] 4 = false from rfl, show List.contains [10, 11, 12] 5 = false from rfl, show List.contains [10, 11, 12] 6 = false from rfl, show List.contains [10, 11, 12] 7 = false from rfl, show List.contains [10, 11, 12] 8 = false from rfl, show List.contains [10, 11, 12] 9 = false from rfl, show List.contains [10, 11, 12] 10 = true from rfl, show List.contains [10, 11, 12] 11 = true from rfl, show List.contains [10, 11, 12] 12 = true from rfl, Bool.false_eq_true, if_false, if_true, Nat.reduceAdd]
      refine ⟨?_, ?_, ?_, ?_, ?_, ?_, ?_, ?_, ?_, ?_, ?_, ?_, ?_, ?_⟩
      iterate 4
        · refine ss_still (by rfl) (by rfl) (fun D W _ hS => ?_)
          have c1 := hS.1.keep cA
          clear hS cA cB
          go_simp
      · refine ss_still (by rfl) (by rfl) (fun D W _ hS => ?_)
        rw [← HK.out]
        exact still_load rfl b (off + k * 15) rfl (itF ⟨z4, zx, z5, z6⟩) (fun i u hu => hS.1.keep (HLA.out i u hu)) _ Try.underlying84 rfl (by kernel_rfl)
      iterate 4
        · refine ss_still (by rfl) (by rfl) (fun D W _ hS => ?_)
          have c1 := hS.1.keep cB
          clear hS cA cB
          go_simp
      · refine ss_still (by rfl) (by rfl) (fun D W _ hS => ?_)
        rw [← HL.out]
        exact still_load rfl b' (off' + k * 15) rfl (itF ⟨z4, zy, z5, z6⟩) (fun i u hu => hS.1.keep (HLB.out i u hu)) _ Try.underlying84 rfl (by kernel_rfl)
      · refine ss_new (by rfl) (by rfl) (fun D W hD _ hS => ?_)
        have hK := hid (hS.one (by decide) (by decide) hD)
        clear hS cA cB
        go_simp
        exact hK.out
      · refine ss_new (by rfl) (by rfl) (fun D W hD _ hS => ?_)
        have hK := hid (hS.two (by decide) (by decide) hD)
        clear hS cA cB
        go_simp
        exact hK.out
      · refine ss_call (by rfl) (by rfl) (fun D W hD hP hS => ?_)
        obtain ⟨g, hv, hgz, hS'⟩ := hS.fill (by decide) (by decide) (by decide) hD (hP 10 (by simp)) (hP 11 (by simp)) (by rfl)
        refine brings_store rfl g 0 (itF ⟨z4, zx, z5, z6⟩).toArray hv HK.out.symm (fun j hj => ⟨?_, Rg.blk_free hgz _⟩) (by kernel_rfl) (by kernel_rfl) ⟨rfl, hS'⟩
        have hj' : j < ((.bool false :: (xF ⟨{ op := 0 }, none, 0, 0⟩ ++ [.string ⟨#[]⟩, .string ⟨#[]⟩])) : List Value).toArray.size := hj
        rw [Nat.zero_add, Rg.blk_cells hgz, Array.getElem?_eq_getElem hj']
        rfl
      intro W hS
      simp only [List.drop_succ_cons, List.drop_zero]
      obtain ⟨hgW, g, k2, hv1, hv2, hgg, hkk, hne, hA, hB⟩ := hS.fin (by rfl) (by rfl) (by rfl)
      generalize v 10 = v10 at *
      generalize v 11 = v11 at *
      subst hv1
      subst hv2
      have HB := hid hB
      have HL2 := hid HL.out.symm
      have HFF : Hid (∀ W2, W2.heap[k2]? = some (.cells (itF ⟨z4, zy, z5, z6⟩).toArray 84 (0, 0)) → Go1 k2 W W2 → Gr wr W2 ∧ (∀ i, W2.cell? ⟨g, i, none⟩ = (#[.bool z4, .int .i64 zx.h.op, .int .i64 zx.h.v.t, .int .i64 zx.h.v.n, .string zx.h.v.s, .bool zx.h.v.b, .string zx.h.tab, .string zx.h.name, .int .i64 zx.h.t, .int .i64 zx.h.c, .bool zx.h.nt, .bool zx.h.st, .slice zx.oa zx.n zx.cap, .string z5, .string z6] : Array Value)[i]?) ∧ (∀ i, W2.cell? ⟨k2, i, none⟩ = (#[.bool z4, .int .i64 zy.h.op, .int .i64 zy.h.v.t, .int .i64 zy.h.v.n, .string zy.h.v.s, .bool zy.h.v.b, .string zy.h.tab, .string zy.h.name, .int .i64 zy.h.t, .int .i64 zy.h.c, .bool zy.h.nt, .bool zy.h.st, .slice zy.oa zy.n zy.cap, .string z5, .string z6] : Array Value)[i]?)) := hid (fun W2 h2 hg2 => by
        refine ⟨hgW.grown hg2 (fun b e => by cases e; exact hkk), fun i => ?_, fun i => ?_⟩
        · rw [hg2.cell (Array.getElem?_eq_some_iff.1 hA).1 hne, Rg.blk_cells hA]; rfl
        · rw [Rg.blk_cells h2]; rfl)
      clear hS hgW hA hB HLA HLB cA cB hgg hkk
      rw [← HL.out]
      clear HL HL2 HK
      go_wp2_with (guard_target =~ wpList _ _ _ (Oper.mk _ (Op.store 84 _ _) _ _ _ _ :: _) _ _; refine st_row (ty := 84) rfl rfl k2 (itF ⟨z4, zy, z5, z6⟩).toArray rfl rfl 84 _ HB.out (by kernel_rfl) rfl (by kernel_rfl) ?_; intro W2 hW2 gW2 zW2; obtain ⟨hgr2, cG, cH⟩ := HFF.out W2 hW2 gW2; have HG2 := hid hgr2; clear HFF HB hW2 gW2 zW2 hgr2)
      refine (HS.out W2 HG2.out).mono ?_
      rintro e w7 ⟨rfl, hg7⟩
      have HF := hid (HE.out w7 (HG2.out.trans hg7))
      clear hg7 HS HE HG2 cG cH
      go_wp2_with fail
      first | exact HF.out | (rw [HWK.out]; exact HF.out)
    · have t0 : decide ((k : Int) < (r.items.n : Int)) = false := nlt_dec _ _ hkn
      have HG0 := hid hg
      clear cB hnn hbd hk
      go_wp2_with fail
      clear t0 cA hkn cI
      have cI := HC.out.refs1
      go_wp2_with fail
      go_loopw [8] (fun s9 wr => ∃ k : Nat, s9 = .int .i64 (k : Int) ∧ k ≤ r.refs.n ∧ Gr w0 wr) (fun s9 _ => r.refs.n - (intOf s9).toNat)
      · exact ⟨0, rfl, Nat.zero_le _, HG0.out⟩
      · obtain ⟨k, rfl, hk, hg⟩ := hrel
        have hbd : r.refs.n ≤ 2000000 := HX.out.refs.2.1.2
        have hnn : r'.refs.n = r.refs.n := HX'.out.refs.1.trans HX.out.refs.1.symm
        have cA := hg.keep (HC.out.refs1)
        have cB := hg.keep (HC.out.refs2)
        rw [hnn] at cB
        by_cases hkn : k < r.refs.n
        · have t0 : decide ((k : Int) < (r.refs.n : Int)) = true := lt_dec _ _ hkn
          have g1 : (k : Int) < (r.refs.n : Int) := lt_cast _ _ hkn
          have hwk : wrap64 ((k : Int) + 1) = (k : Int) + 1 := wrap_next _ _ hkn (by omega)
          have hks : k < x.refs.length := by rw [← HX.out.refs.1]; exact hkn
          obtain ⟨b, off, rk, hoa, _, hbl, _, hat, hrk⟩ := ks_getK (HX.out.refs.of kRef_ok hg.size (fun b _ hl => hg.block b hl)) k hks
          obtain ⟨b', off', rk', hoa', _, hbl', _, hat', hrk'⟩ := ks_getK (HX'.out.refs.of kRef_ok hg.size (fun b _ hl => hg.block b hl)) k hks
          rw [hoa] at cA
          rw [hoa'] at cB
          have HE : Hid (∀ W, Gr wr W → (∃ k' : Nat, Value.int .i64 ((k : Int) + 1) = .int .i64 (k' : Int) ∧ k' ≤ r.refs.n ∧ Gr w0 W) ∧ r.refs.n - (intOf (.int .i64 ((k : Int) + 1))).toNat < r.refs.n - (intOf (.int .i64 (k : Int))).toNat) := hid (fun W h => ⟨⟨k + 1, next_int _, hkn, hg.trans h⟩, meas_step _ _ hkn⟩)
          have HWK := hid hwk
          obtain ⟨y1, hy1⟩ : ∃ y, (x.refs[k]'hks).tab = y := ⟨_, rfl⟩
          obtain ⟨y2, hy2⟩ : ∃ y, (x.refs[k]'hks).al = y := ⟨_, rfl⟩
          have hx1 : Ex.At S wr (x.refs[k]'hks).on_ (RfR.x rk) := hat.2.2
          have hx2 : Ex.At S' wr (x.refs[k]'hks).on_ (RfR.x rk') := hat'.2.2
          have q1 : rk.tab = y1 := hat.1.trans hy1
          have q2 : rk.al = y2 := hat.2.1.trans hy2
          have q4 : rk'.tab = y1 := hat'.1.trans hy1
          have q5 : rk'.al = y2 := hat'.2.1.trans hy2
          clear hy1 hy2
          obtain ⟨z1, z2, zx⟩ := rk
          obtain ⟨z4, z5, zy⟩ := rk'
          simp only at q1 q2 q4 q5 hx1 hx2
          subst q1 q2 q4 q5
          have HLA : Hid (∀ i u, (rF ⟨z4, z5, zx⟩)[i]? = some u → wr.cell? ⟨b, off + k * 14 + i, none⟩ = some u) := hid hrk
          have HLB : Hid (∀ i u, (rF ⟨z4, z5, zy⟩)[i]? = some u → wr.cell? ⟨b', off' + k * 14 + i, none⟩ = some u) := hid hrk'
          have HS : Hid (∀ W, Gr wr W → Calls Try.prog 22 #[XR.val zx, XR.val zy] W (Tru W)) := hid (fun W h => same_any _ _ (Nat.le_refl _) _ _ _ _ W (Ex.At.of h.size (fun b _ hl => h.block b hl) hx1) (Ex.At.of h.size (fun b _ hl => h.block b hl) hx2))
          obtain ⟨vk, hvk⟩ : ∃ vk, Value.agg (rF ⟨z4, z5, zx⟩).toArray = vk := ⟨_, rfl⟩
          obtain ⟨vl, hvl⟩ : ∃ vl, Value.agg (rF ⟨z4, z5, zy⟩).toArray = vl := ⟨_, rfl⟩
          have HK := hid hvk
          have HL := hid hvl
          clear hrk hrk' hat hat' hx1 hx2 hg hk hkn hks hbl hbl' hnn hvk hvl
          go_wp2_with fail
          refine Rg.region_set 13 [10, 11, 12] [(10, 12), (11, 12)] [] (TwB 81 (.string ⟨#[]⟩ :: .string ⟨#[]⟩ :: (xF ⟨{ op := 0 }, none, 0, 0⟩ ++ [])) (rF ⟨z4, z5, zx⟩) wr 10 11 12) [some (.pointer (some ⟨w.heap.size, 12, none⟩)), some (.slice (some ⟨b, off, none⟩) r.refs.n r.refs.cap), some (.int .i64 (k : Int)), some (.pointer (some ⟨b, off + k * 14, none⟩)), some vk, some (.pointer (some ⟨w.heap.size + 1, 12, none⟩)), some (.slice (some ⟨b', off', none⟩) r.refs.n r'.refs.cap), some (.int .i64 (k : Int)), some (.pointer (some ⟨b', off' + k * 14, none⟩)), some vl, none, none, some undef]
            (fun _ => TwB.start ((Gr.refl _).drew) _) (by kernel_rfl) (by kernel_rfl) (by kernel_rfl) (by kernel_rfl) (fun _ _ d _ _ h => by cases d <;> exact h) ?_
          intro OPS HOPS v
          clear HOPS
          simp only [List.take_succ_cons, List.take_zero, Rg.wpC, Rg.wpS, Option.getD_some, Option.getD_none, Act.put, List.setIfInBounds_toArray, List.set_cons_zero, List.set_cons_succ, show List.contains [10, 11, 12] 0 = false from rfl, show List.contains [10, 11, 12] 1 = false from rfl, show List.contains [10, 11, 12] 2 = false from rfl, show List.contains [10, 11, 12] 3 = false from rfl, show List.contains [10, 11, 12] 4 = false from rfl, show List.contains [10, 11, 12] 5 = false from rfl, show List.contains [10, 11, 12] 6 = false from rfl, show List.contains [10, 11, 12] 7 = false from rfl, show List.contains [10, 11, 12] 8 = false from rfl, show List.contains [10, 11, 12] 9 = false from rfl, show List.contains [10, 11, 12] 10 = true from rfl, show List.contains [10, 11, 12] 11 = true from rfl, show List.contains [10, 11, 12] 12 = true from rfl, Bool.false_eq_true, if_false, if_true, Nat.reduceAdd]
          refine ⟨?_, ?_, ?_, ?_, ?_, ?_, ?_, ?_, ?_, ?_, ?_, ?_, ?_, ?_⟩
          iterate 4
            · refine ss_still (by rfl) (by rfl) (fun D W _ hS => ?_)
              have c1 := hS.1.keep cA
              clear hS cA cB
              go_simp
          · refine ss_still (by rfl) (by rfl) (fun D W _ hS => ?_)
            rw [← HK.out]
            exact still_load rfl b (off + k * 14) rfl (rF ⟨z4, z5, zx⟩) (fun i u hu => hS.1.keep (HLA.out i u hu)) _ Try.underlying81 rfl (by kernel_rfl)
          iterate 4
            · refine ss_still (by rfl) (by rfl) (fun D W _ hS => ?_)
              have c1 := hS.1.keep cB
              clear hS cA cB
              go_simp
          · refine ss_still (by rfl) (by rfl) (fun D W _ hS => ?_)
            rw [← HL.out]
            exact still_load rfl b' (off' + k * 14) rfl (rF ⟨z4, z5, zy⟩) (fun i u hu => hS.1.keep (HLB.out i u hu)) _ Try.underlying81 rfl (by kernel_rfl)
          · refine ss_new (by rfl) (by rfl) (fun D W hD _ hS => ?_)
            have hK := hid (hS.one (by decide) (by decide) hD)
            clear hS cA cB
            go_simp
            exact hK.out
          · refine ss_new (by rfl) (by rfl) (fun D W hD _ hS => ?_)
            have hK := hid (hS.two (by decide) (by decide) hD)
            clear hS cA cB
            go_simp
            exact hK.out
          · refine ss_call (by rfl) (by rfl) (fun D W hD hP hS => ?_)
            obtain ⟨g, hv, hgz, hS'⟩ := hS.fill (by decide) (by decide) (by decide) hD (hP 10 (by simp)) (hP 11 (by simp)) (by rfl)
            refine brings_store rfl g 0 (rF ⟨z4, z5, zx⟩).toArray hv HK.out.symm (fun j hj => ⟨?_, Rg.blk_free hgz _⟩) (by kernel_rfl) (by kernel_rfl) ⟨rfl, hS'⟩
            have hj' : j < ((.string ⟨#[]⟩ :: .string ⟨#[]⟩ :: (xF ⟨{ op := 0 }, none, 0, 0⟩ ++ [])) : List Value).toArray.size := hj
            rw [Nat.zero_add, Rg.blk_cells hgz, Array.getElem?_eq_getElem hj']
            rfl
          intro W hS
          simp only [List.drop_succ_cons, List.drop_zero]
          obtain ⟨hgW, g, k2, hv1, hv2, hgg, hkk, hne, hA, hB⟩ := hS.fin (by rfl) (by rfl) (by rfl)
          generalize v 10 = v10 at *
          generalize v 11 = v11 at *
          subst hv1
          subst hv2
          have HB := hid hB
          have HL2 := hid HL.out.symm
          have HFF : Hid (∀ W2, W2.heap[k2]? = some (.cells (rF ⟨z4, z5, zy⟩).toArray 81 (0, 0)) → Go1 k2 W W2 → Gr wr W2 ∧ (∀ i, W2.cell? ⟨g, i, none⟩ = (#[.string z4, .string z5, .int .i64 zx.h.op, .int .i64 zx.h.v.t, .int .i64 zx.h.v.n, .string zx.h.v.s, .bool zx.h.v.b, .string zx.h.tab, .string zx.h.name, .int .i64 zx.h.t, .int .i64 zx.h.c, .bool zx.h.nt, .bool zx.h.st, .slice zx.oa zx.n zx.cap] : Array Value)[i]?) ∧ (∀ i, W2.cell? ⟨k2, i, none⟩ = (#[.string z4, .string z5, .int .i64 zy.h.op, .int .i64 zy.h.v.t, .int .i64 zy.h.v.n, .string zy.h.v.s, .bool zy.h.v.b, .string zy.h.tab, .string zy.h.name, .int .i64 zy.h.t, .int .i64 zy.h.c, .bool zy.h.nt, .bool zy.h.st, .slice zy.oa zy.n zy.cap] : Array Value)[i]?)) := hid (fun W2 h2 hg2 => by
            refine ⟨hgW.grown hg2 (fun b e => by cases e; exact hkk), fun i => ?_, fun i => ?_⟩
            · rw [hg2.cell (Array.getElem?_eq_some_iff.1 hA).1 hne, Rg.blk_cells hA]; rfl
            · rw [Rg.blk_cells h2]; rfl)
          clear hS hgW hA hB HLA HLB cA cB hgg hkk
          rw [← HL.out]
          clear HL HL2 HK
          go_wp2_with (guard_target =~ wpList _ _ _ (Oper.mk _ (Op.store 81 _ _) _ _ _ _ :: _) _ _; refine st_row (ty := 81) rfl rfl k2 (rF ⟨z4, z5, zy⟩).toArray rfl rfl 81 _ HB.out (by kernel_rfl) rfl (by kernel_rfl) ?_; intro W2 hW2 gW2 zW2; obtain ⟨hgr2, cG, cH⟩ := HFF.out W2 hW2 gW2; have HG2 := hid hgr2; clear HFF HB hW2 gW2 zW2 hgr2)
          refine (HS.out W2 HG2.out).mono ?_
          rintro e w7 ⟨rfl, hg7⟩
          have HF := hid (HE.out w7 (HG2.out.trans hg7))
          clear hg7 HS HE HG2 cG cH
          go_wp2_with fail
          first | exact HF.out | (rw [HWK.out]; exact HF.out)
        · have t0 : decide ((k : Int) < (r.refs.n : Int)) = false := nlt_dec _ _ hkn
          have HG0 := hid hg
          clear cB hnn hbd hk
          go_wp2_with fail
          clear t0 cA hkn
          have cI := HC.out.order1
          go_wp2_with fail
          go_loopw [11] (fun s9 wr => ∃ k : Nat, s9 = .int .i64 (k : Int) ∧ k ≤ r.order.n ∧ Gr w0 wr) (fun s9 _ => r.order.n - (intOf s9).toNat)
          · exact ⟨0, rfl, Nat.zero_le _, HG0.out⟩
          · obtain ⟨k, rfl, hk, hg⟩ := hrel
            have hbd : r.order.n ≤ 2000000 := HX.out.order.2.1.2
            have hnn : r'.order.n = r.order.n := HX'.out.order.1.trans HX.out.order.1.symm
            have cA := hg.keep (HC.out.order1)
            have cB := hg.keep (HC.out.order2)
            rw [hnn] at cB
            clear cI
            by_cases hkn : k < r.order.n
            · have t0 : decide ((k : Int) < (r.order.n : Int)) = true := lt_dec _ _ hkn
              have g1 : (k : Int) < (r.order.n : Int) := lt_cast _ _ hkn
              have hwk : wrap64 ((k : Int) + 1) = (k : Int) + 1 := wrap_next _ _ hkn (by omega)
              have hks : k < x.order.length := by rw [← HX.out.order.1]; exact hkn
              obtain ⟨b, off, rk, hoa, _, hbl, _, hat, hrk⟩ := ks_getK (HX.out.order.of kOrd_ok hg.size (fun b _ hl => hg.block b hl)) k hks
              obtain ⟨b', off', rk', hoa', _, hbl', _, hat', hrk'⟩ := ks_getK (HX'.out.order.of kOrd_ok hg.size (fun b _ hl => hg.block b hl)) k hks
              rw [hoa] at cA
              rw [hoa'] at cB
              have HE : Hid (∀ W, Gr wr W → (∃ k' : Nat, Value.int .i64 ((k : Int) + 1) = .int .i64 (k' : Int) ∧ k' ≤ r.order.n ∧ Gr w0 W) ∧ r.order.n - (intOf (.int .i64 ((k : Int) + 1))).toNat < r.order.n - (intOf (.int .i64 (k : Int))).toNat) := hid (fun W h => ⟨⟨k + 1, next_int _, hkn, hg.trans h⟩, meas_step _ _ hkn⟩)
              have HWK := hid hwk
              have HLA : Hid (∀ i u, (xF rk.x)[i]? = some u → wr.cell? ⟨b, off + k * 13 + i, none⟩ = some u) := hid (fun i u hu => by have h := hrk (0 + i) u (or_x rk hu); rw [Nat.zero_add] at h; exact h)
              have HLB : Hid (∀ i u, (xF rk'.x)[i]? = some u → wr.cell? ⟨b', off' + k * 13 + i, none⟩ = some u) := hid (fun i u hu => by have h := hrk' (0 + i) u (or_x rk' hu); rw [Nat.zero_add] at h; exact h)
              obtain ⟨yd, hyd⟩ : ∃ y, (x.order[k]'hks).desc = y := ⟨_, rfl⟩
              have d1 : wr.cell? ⟨b, off + k * 13 + 12, none⟩ = some (.bool yd) := by have h := hrk 12 (.bool rk.desc) rfl; rw [hat.1.trans hyd] at h; exact h
              have d2 : wr.cell? ⟨b', off' + k * 13 + 12, none⟩ = some (.bool yd) := by have h := hrk' 12 (.bool rk'.desc) rfl; rw [hat'.1.trans hyd] at h; exact h
              have hx1 : Ex.At S wr (x.order[k]'hks).e rk.x := hat.2
              have hx2 : Ex.At S' wr (x.order[k]'hks).e rk'.x := hat'.2
              have HS : Hid (∀ W, Gr wr W → Calls Try.prog 22 #[XR.val rk.x, XR.val rk'.x] W (Tru W)) := hid (fun W h => same_any _ _ (Nat.le_refl _) _ _ _ _ W (Ex.At.of h.size (fun b _ hl => h.block b hl) hx1) (Ex.At.of h.size (fun b _ hl => h.block b hl) hx2))
              obtain ⟨vk, hvk⟩ : ∃ vk, XR.val rk.x = vk := ⟨_, rfl⟩
              obtain ⟨vl, hvl⟩ : ∃ vl, XR.val rk'.x = vl := ⟨_, rfl⟩
              rw [hvk, hvl] at HS
              have HK := hid hvk
              have HL := hid hvl
              clear hrk hrk' hat hat' hx1 hx2 hg hk hkn hks hbl hbl' hnn hvk hvl hyd
              go_wp2_with fail
              refine Rg.region_chain 28 [26] [] (fun _ _ W => Gr wr W) [some (.pointer (some ⟨w.heap.size, 38, none⟩)), some (.slice (some ⟨b, off, none⟩) r.order.n r.order.cap), some (.int .i64 (k : Int)), some (.pointer (some ⟨b, off + k * 13, none⟩)), some (.pointer (some ⟨b, off + k * 13 + 12, none⟩)), some (.bool yd), some (.pointer (some ⟨w.heap.size + 1, 38, none⟩)), some (.slice (some ⟨b', off', none⟩) r.order.n r'.order.cap), some (.int .i64 (k : Int)), some (.pointer (some ⟨b', off' + k * 13, none⟩)), some (.pointer (some ⟨b', off' + k * 13 + 12, none⟩)), some (.bool yd), some (.bool false), some (.bool false), some (.pointer (some ⟨w.heap.size, 38, none⟩)), some (.slice (some ⟨b, off, none⟩) r.order.n r.order.cap), some (.int .i64 (k : Int)), some (.pointer (some ⟨b, off + k * 13, none⟩)), some (.pointer (some ⟨b, off + k * 13, none⟩)), some vk, some (.pointer (some ⟨w.heap.size + 1, 38, none⟩)), some (.slice (some ⟨b', off', none⟩) r.order.n r'.order.cap), some (.int .i64 (k : Int)), some (.pointer (some ⟨b', off' + k * 13, none⟩)), some (.pointer (some ⟨b', off' + k * 13, none⟩)), some vl, some (.bool true), some (.bool false)]
                (fun _ => ((Gr.refl _).drew)) (by kernel_rfl) (by kernel_rfl) (by kernel_rfl) (by kernel_rfl) (fun _ _ d _ _ h => by cases d <;> exact h) ?_
              intro OPS HOPS v
              have HO := hid HOPS
              clear HOPS
              simp only [List.take_succ_cons, List.take_zero, Rg.wpC, Rg.wpS, Option.getD_some, Option.getD_none, Act.put, List.setIfInBounds_toArray, List.set_cons_zero, List.set_cons_succ, show List.contains [26] 0 = false from rfl, show List.contains [26] 1 = false from rfl, show List.contains [26] 2 = false from rfl, show List.contains [26] 3 = false from rfl, show List.contains [26] 4 = false from rfl, show List.contains [26] 5 = false from rfl, show List.contains [26] 6 = false from rfl, show List.contains [26] 7 = false from rfl, show List.contains [26] 8 = false from rfl, show List.contains [26] 9 = false from rfl, show List.contains [26] 10 = false from rfl, show List.contains [26] 11 = false from rfl, show List.contains [26] 12 = false from rfl, show List.contains [26] 13 = false from rfl, show List.contains [26] 14 = false from rfl, show List.contains [26] 15 = false from rfl, show List.contains [26] 16 = false from rfl, show List.contains [26] 17 = false from rfl, show List.contains [26] 18 = false from rfl, show List.contains [26] 19 = false from rfl, show List.contains [26] 20 = false from rfl, show List.contains [26] 21 = false from rfl, show List.contains [26] 22 = false from rfl, show List.contains [26] 23 = false from rfl, show List.contains [26] 24 = false from rfl, show List.contains [26] 25 = false from rfl, show List.contains [26] 26 = true from rfl, show List.contains [26] 27 = false from rfl, Bool.false_eq_true, if_false, if_true, Nat.reduceAdd]
              refine ⟨?_, ?_, ?_, ?_, ?_, ?_, ?_, ?_, ?_, ?_, ?_, ?_, ?_, ?_, ?_, ?_, ?_, ?_, ?_, ?_, ?_, ?_, ?_, ?_, ?_, ?_, ?_, ?_, ?_⟩
              · refine sc_still (by rfl) (by rfl) (fun s' W _ hS => ?_)
                have hg : Gr wr W := hS
                have c1 := hg.keep cA
                have c2 := hg.keep cB
                have c3 := hg.keep d1
                have c4 := hg.keep d2
                clear hg hS cA cB d1 d2
                go_simp
              · refine sc_still (by rfl) (by rfl) (fun s' W _ hS => ?_)
                have hg : Gr wr W := hS
                have c1 := hg.keep cA
                have c2 := hg.keep cB
                have c3 := hg.keep d1
                have c4 := hg.keep d2
                clear hg hS cA cB d1 d2
                go_simp
              · refine sc_still (by rfl) (by rfl) (fun s' W _ hS => ?_)
                have hg : Gr wr W := hS
                have c1 := hg.keep cA
                have c2 := hg.keep cB
                have c3 := hg.keep d1
                have c4 := hg.keep d2
                clear hg hS cA cB d1 d2
                go_simp
              · refine sc_still (by rfl) (by rfl) (fun s' W _ hS => ?_)
                have hg : Gr wr W := hS
                have c1 := hg.keep cA
                have c2 := hg.keep cB
                have c3 := hg.keep d1
                have c4 := hg.keep d2
                clear hg hS cA cB d1 d2
                go_simp
              · refine sc_still (by rfl) (by rfl) (fun s' W _ hS => ?_)
                have hg : Gr wr W := hS
                have c1 := hg.keep cA
                have c2 := hg.keep cB
                have c3 := hg.keep d1
                have c4 := hg.keep d2
                clear hg hS cA cB d1 d2
                go_simp
              · refine sc_still (by rfl) (by rfl) (fun s' W _ hS => ?_)
                have hg : Gr wr W := hS
                have c1 := hg.keep cA
                have c2 := hg.keep cB
                have c3 := hg.keep d1
                have c4 := hg.keep d2
                clear hg hS cA cB d1 d2
                go_simp
              · refine sc_still (by rfl) (by rfl) (fun s' W _ hS => ?_)
                have hg : Gr wr W := hS
                have c1 := hg.keep cA
                have c2 := hg.keep cB
                have c3 := hg.keep d1
                have c4 := hg.keep d2
                clear hg hS cA cB d1 d2
                go_simp
              · refine sc_still (by rfl) (by rfl) (fun s' W _ hS => ?_)
                have hg : Gr wr W := hS
                have c1 := hg.keep cA
                have c2 := hg.keep cB
                have c3 := hg.keep d1
                have c4 := hg.keep d2
                clear hg hS cA cB d1 d2
                go_simp
              · refine sc_still (by rfl) (by rfl) (fun s' W _ hS => ?_)
                have hg : Gr wr W := hS
                have c1 := hg.keep cA
                have c2 := hg.keep cB
                have c3 := hg.keep d1
                have c4 := hg.keep d2
                clear hg hS cA cB d1 d2
                go_simp
              · refine sc_still (by rfl) (by rfl) (fun s' W _ hS => ?_)
                have hg : Gr wr W := hS
                have c1 := hg.keep cA
                have c2 := hg.keep cB
                have c3 := hg.keep d1
                have c4 := hg.keep d2
                clear hg hS cA cB d1 d2
                go_simp
              · refine sc_still (by rfl) (by rfl) (fun s' W _ hS => ?_)
                have hg : Gr wr W := hS
                have c1 := hg.keep cA
                have c2 := hg.keep cB
                have c3 := hg.keep d1
                have c4 := hg.keep d2
                clear hg hS cA cB d1 d2
                go_simp
              · refine sc_still (by rfl) (by rfl) (fun s' W _ hS => ?_)
                have hg : Gr wr W := hS
                have c1 := hg.keep cA
                have c2 := hg.keep cB
                have c3 := hg.keep d1
                have c4 := hg.keep d2
                clear hg hS cA cB d1 d2
                go_simp
              · refine sc_still (by rfl) (by rfl) (fun s' W _ hS => ?_)
                have hg : Gr wr W := hS
                have c1 := hg.keep cA
                have c2 := hg.keep cB
                have c3 := hg.keep d1
                have c4 := hg.keep d2
                clear hg hS cA cB d1 d2
                go_simp
              · refine sc_still (by rfl) (by rfl) (fun s' W _ hS => ?_)
                have hg : Gr wr W := hS
                have c1 := hg.keep cA
                have c2 := hg.keep cB
                have c3 := hg.keep d1
                have c4 := hg.keep d2
                clear hg hS cA cB d1 d2
                go_simp
              · refine sc_still (by rfl) (by rw [HO.out]; rfl) (fun s' W _ hS => ?_)
                have hg : Gr wr W := hS
                have c1 := hg.keep cA
                have c2 := hg.keep cB
                have c3 := hg.keep d1
                have c4 := hg.keep d2
                clear hg hS cA cB d1 d2
                go_simp
              · refine sc_still (by rfl) (by rw [HO.out]; rfl) (fun s' W _ hS => ?_)
                have hg : Gr wr W := hS
                have c1 := hg.keep cA
                have c2 := hg.keep cB
                have c3 := hg.keep d1
                have c4 := hg.keep d2
                clear hg hS cA cB d1 d2
                go_simp
              · refine sc_still (by rfl) (by rw [HO.out]; rfl) (fun s' W _ hS => ?_)
                have hg : Gr wr W := hS
                have c1 := hg.keep cA
                have c2 := hg.keep cB
                have c3 := hg.keep d1
                have c4 := hg.keep d2
                clear hg hS cA cB d1 d2
                go_simp
              · refine sc_still (by rfl) (by rw [HO.out]; rfl) (fun s' W _ hS => ?_)
                have hg : Gr wr W := hS
                have c1 := hg.keep cA
                have c2 := hg.keep cB
                have c3 := hg.keep d1
                have c4 := hg.keep d2
                clear hg hS cA cB d1 d2
                go_simp
              · refine sc_still (by rfl) (by rw [HO.out]; rfl) (fun s' W _ hS => ?_)
                have hg : Gr wr W := hS
                have c1 := hg.keep cA
                have c2 := hg.keep cB
                have c3 := hg.keep d1
                have c4 := hg.keep d2
                clear hg hS cA cB d1 d2
                go_simp
              · refine sc_still (by rfl) (by rw [HO.out]; rfl) (fun s' W _ hS => ?_)
                have hg : Gr wr W := hS
                rw [← HK.out]
                exact still_load rfl b (off + k * 13) rfl (xF rk.x) (fun i u hu => hg.keep (HLA.out i u hu)) _ Try.underlying32 rfl (by kernel_rfl)
              · refine sc_still (by rfl) (by rw [HO.out]; rfl) (fun s' W _ hS => ?_)
                have hg : Gr wr W := hS
                have c1 := hg.keep cA
                have c2 := hg.keep cB
                have c3 := hg.keep d1
                have c4 := hg.keep d2
                clear hg hS cA cB d1 d2
                go_simp
              · refine sc_still (by rfl) (by rw [HO.out]; rfl) (fun s' W _ hS => ?_)
                have hg : Gr wr W := hS
                have c1 := hg.keep cA
                have c2 := hg.keep cB
                have c3 := hg.keep d1
                have c4 := hg.keep d2
                clear hg hS cA cB d1 d2
                go_simp
              · refine sc_still (by rfl) (by rw [HO.out]; rfl) (fun s' W _ hS => ?_)
                have hg : Gr wr W := hS
                have c1 := hg.keep cA
                have c2 := hg.keep cB
                have c3 := hg.keep d1
                have c4 := hg.keep d2
                clear hg hS cA cB d1 d2
                go_simp
              · refine sc_still (by rfl) (by rw [HO.out]; rfl) (fun s' W _ hS => ?_)
                have hg : Gr wr W := hS
                have c1 := hg.keep cA
                have c2 := hg.keep cB
                have c3 := hg.keep d1
                have c4 := hg.keep d2
                clear hg hS cA cB d1 d2
                go_simp
              · refine sc_still (by rfl) (by rw [HO.out]; rfl) (fun s' W _ hS => ?_)
                have hg : Gr wr W := hS
                have c1 := hg.keep cA
                have c2 := hg.keep cB
                have c3 := hg.keep d1
                have c4 := hg.keep d2
                clear hg hS cA cB d1 d2
                go_simp
              · refine sc_still (by rfl) (by rw [HO.out]; rfl) (fun s' W _ hS => ?_)
                have hg : Gr wr W := hS
                rw [← HL.out]
                exact still_load rfl b' (off' + k * 13) rfl (xF rk'.x) (fun i u hu => hg.keep (HLB.out i u hu)) _ Try.underlying32 rfl (by kernel_rfl)
              · refine sc_call (by rfl) (by rw [HO.out]; rfl) (fun W hS => ?_)
                have HG : Hid (Gr wr W) := hid hS
                clear hS cA cB d1 d2
                go_simp
                refine (HS.out W HG.out).mono ?_
                rintro e w' ⟨rfl, hg'⟩
                exact ⟨_, rfl, rfl, HG.out.trans hg'⟩
              · refine sc_still (by rfl) (by rw [HO.out]; rfl) (fun s' W _ hS => ?_)
                have hg : Gr wr W := hS
                have c1 := hg.keep cA
                have c2 := hg.keep cB
                have c3 := hg.keep d1
                have c4 := hg.keep d2
                clear hg hS cA cB d1 d2
                go_simp
              intro W hS
              simp only [List.drop_succ_cons, List.drop_zero]
              have HF := hid (HE.out W hS)
              clear hS HO HLA HLB HS HE cA cB d1 d2
              go_wp2_with fail
              first | exact HF.out | (rw [HWK.out]; exact HF.out)
            · have t0 : decide ((k : Int) < (r.order.n : Int)) = false := nlt_dec _ _ hkn
              have HFQ := hid (HQ0.out _ _ ⟨rfl, hg⟩)
              clear cB hnn hbd hk hg
              go_wp2
              first | exact HFQ.out | (go_ret; exact HFQ.out) | (go_ret3; exact HFQ.out)
end Go.Proofs.Ytaogpifcfmjcbaa
end
section
namespace Go.Proofs.Ytaogpifcfmjcbaa
open Go.RowKit
set_option linter.unusedSimpArgs false
set_option linter.unusedVariables false
attribute [local go_sem] Rg.leads_value Rg.leads_skip Rg.leads_enter Rg.brings_value Rg.brings_skip Rg.brings_enter Rg.bringsG_value Rg.bringsG_enter Rg.once_normal Rg.once_exit Rg.once_ret Rg.once_panic Rg.once_goto Rg.bringsS_value Rg.bringsS_skip Rg.bringsS_enter Rg.still_value Rg.still_skip Rg.still_enter
set_option maxHeartbeats 8000000 in
set_option maxRecDepth 100000 in
theorem texts_any (ks : List ByteArray) (S S' : Nat → Prop) (s s' : Slc) (w : World) (hx : KsAt kStr S w ks s) (hx' : KsAt kStr S' w ks s') :
    Calls Try.prog 20 #[s.val, s'.val] w (Tru w) := by
  have HQ : Hid (∀ e w', e = .returned (.bool true) ∧ Gr w w' → Tru w e w') := hid (fun e w' h => h)
  generalize hQ : Tru w = Q at *
  clear hQ
  obtain ⟨oa, n, c⟩ := s
  obtain ⟨oa', n', c'⟩ := s'
  have hn : n = ks.length := hx.1
  have hn' : n' = n := (show n' = ks.length from hx'.1).trans hn.symm
  subst hn'
  have hb : n' ≤ 2000000 := hx.2.1.2
  have HX := hid hx
  have HX' := hid hx'
  have HN := hid hn
  clear hx hx' hn
  unfold Slc.val
  go_enter Try.func20, Try.ntmps20
  go_wp2_with fail
  go_loopw [5] (fun s5 wr => ∃ k : Nat, s5 = .int .i64 (k : Int) ∧ k ≤ n' ∧ Gr w wr) (fun s5 _ => n' - (intOf s5).toNat)
  · exact ⟨0, rfl, Nat.zero_le _, .refl _⟩
  · obtain ⟨k, rfl, hk, hg⟩ := hrel
    by_cases hkn : k < n'
    · have t0 : decide ((k : Int) < (n' : Int)) = true := lt_dec _ _ hkn
      have g1 : (k : Int) < (n' : Int) := lt_cast _ _ hkn
      have hwk : wrap64 ((k : Int) + 1) = (k : Int) + 1 := wrap_next _ _ hkn (by omega)
      have hks : k < ks.length := by rw [← HN.out]; exact hkn
      obtain ⟨b, off, rk, hoa, _, hbl, _, hat, hrk⟩ := ks_getK (HX.out.of kStr_ok hg.size (fun b _ hl => hg.block b hl)) k hks
      obtain ⟨b', off', rk', hoa', _, hbl', _, hat', hrk'⟩ := ks_getK (HX'.out.of kStr_ok hg.size (fun b _ hl => hg.block b hl)) k hks
      have hoa : oa = some ⟨b, off, none⟩ := hoa
      have hoa' : oa' = some ⟨b', off', none⟩ := hoa'
      obtain ⟨y, hy⟩ : ∃ y, ks[k]'hks = y := ⟨_, rfl⟩
      have e1 : rk = y := (show rk = ks[k]'hks from hat).trans hy
      have e2 : rk' = y := (show rk' = ks[k]'hks from hat').trans hy
      have c1 : wr.cell? ⟨b, off + k, none⟩ = some (.string y) := by
        have h := hrk 0 (.string rk) rfl
        have e : off + k * kStr.n + 0 = off + k := by show off + k * 1 + 0 = _; omega
        rw [e, e1] at h; exact h
      have c2 : wr.cell? ⟨b', off' + k, none⟩ = some (.string y) := by
        have h := hrk' 0 (.string rk') rfl
        have e : off' + k * kStr.n + 0 = off' + k := by show off' + k * 1 + 0 = _; omega
        rw [e, e2] at h; exact h
      have HE : Hid (∀ W, Gr wr W → (∃ k' : Nat, Value.int .i64 ((k : Int) + 1) = .int .i64 (k' : Int) ∧ k' ≤ n' ∧ Gr w W) ∧ n' - (intOf (.int .i64 ((k : Int) + 1))).toNat < n' - (intOf (.int .i64 (k : Int))).toNat) := hid (fun W h => ⟨⟨k + 1, next_int _, hkn, hg.trans h⟩, meas_step _ _ hkn⟩)
      have HWK := hid hwk
      clear hrk hrk' hat hat' hg hk hkn hks hbl hbl' hy e1 e2
      rw [hoa, hoa']
      go_wp2_with fail
      refine Rg.region_chain 8 [] [] (fun _ _ W => Gr wr W) [some (.slice (some ⟨b, off, none⟩) n' c), some (.int .i64 (k : Int)), some (.pointer (some ⟨b, off + k, none⟩)), some (.string y), some (.slice (some ⟨b', off', none⟩) n' c'), some (.int .i64 (k : Int)), some (.pointer (some ⟨b', off' + k, none⟩)), some (.string y)]
        (fun _ => ((Gr.refl _).drew)) (by kernel_rfl) (by kernel_rfl) (by kernel_rfl) (by kernel_rfl) (fun _ _ d _ _ h => by cases d <;> exact h) ?_
      intro OPS HOPS v
      clear HOPS
      simp only [List.take_succ_cons, List.take_zero, Rg.wpC, Rg.wpS, Option.getD_some, Option.getD_none, Act.put, List.setIfInBounds_toArray, List.set_cons_zero, List.set_cons_succ, show List.contains [] 0 = false from rfl, show List.contains [] 1 = false from rfl, show List.contains [] 2 = false from rfl, show List.contains [] 3 = false from rfl, show List.contains [] 4 = false from rfl, show List.contains [] 5 = false from rfl, show List.contains [] 6 = false from rfl, show List.contains [] 7 = false from rfl, Bool.false_eq_true, if_false, if_true, Nat.reduceAdd]
      refine ⟨?_, ?_, ?_, ?_, ?_, ?_, ?_, ?_, ?_⟩
      iterate 8
        · refine sc_still (by rfl) (by rfl) (fun s' W _ hS => ?_)
          have hg : Gr wr W := hS
          have d1 := hg.keep c1
          have d2 := hg.keep c2
          clear hS hg c1 c2
          go_simp
      intro W hS
      simp only [List.drop_succ_cons, List.drop_zero]
      have HF := hid (HE.out W hS)
      clear hS HE hoa hoa' c1 c2
      go_wp2_with fail
      first | exact HF.out | (rw [HWK.out]; exact HF.out)
    · have t0 : decide ((k : Int) < (n' : Int)) = false := nlt_dec _ _ hkn
      have HFQ := hid (HQ.out _ _ ⟨rfl, hg⟩)
      clear hg hk HX HX' HN HQ
      go_wp2
      first | exact HFQ.out | (go_ret; exact HFQ.out) | (go_ret3; exact HFQ.out)
theorem c_struct : Try.prog.underlying 44 = some (.struct (Try.prog.fieldsOf 44)) := by kernel_rfl
theorem c_plain : Try.prog.stoodInHeld 44 = false := by kernel_rfl
theorem c_same (x0 : ByteArray) (x1 : Int) (x2 x3 : Bool) (W : World) : (Op.equalIn 10000 44 (.agg #[.string x0, .int .i64 x1, .bool x2, .bool x3]) (.agg #[.string x0, .int .i64 x1, .bool x2, .bool x3])).run Try.prog W = .ok true W := by
  rw [run_equalIn_agg W 9999 44 _ _ c_struct c_plain]
  go_simp
theorem head_eq {S S' : Nat → Prop} {w : World} {x : Ex} {r r' : XR} (h : Ex.At S w x r) (h' : Ex.At S' w x r') : r'.h = r.h := by
  cases x with
  | mk hd ks => exact (at_head h').1.trans (at_head h).1.symm
theorem len_eq {α β : Type} {K : Kd α β} {S S' : Nat → Prop} {w : World} {ys : List β} {s s' : Slc} (h : KsAt K S w ys s) (h' : KsAt K S' w ys s') : s'.n = s.n := h'.1.trans h.1.symm
set_option maxHeartbeats 16000000 in
set_option maxRecDepth 100000 in
theorem samestmt_any (x : Stm) (r r' : SR) (S S' : Nat → Prop) (w : World) (hx : StmAt S w x r) (hx' : StmAt S' w x r') : Calls Try.prog 11 #[SR.val r, SR.val r'] w (Tru w) := by
  have HQ : Hid (∀ e w', e = .returned (.bool true) ∧ Gr w w' → Tru w e w') := hid (fun e w' h => h)
  generalize hQ : Tru w = Q at *
  clear hQ
  obtain ⟨zkind, ztable, zname, zcolumn, zunique, ⟨colso, colsn, colsc⟩, ⟨columnso, columnsn, columnsc⟩, ⟨rowso, rowsn, rowsc⟩, ⟨setso, setsn, setsc⟩, zexplain, zdistinct, ⟨itemso, itemsn, itemsc⟩, ⟨refso, refsn, refsc⟩, ⟨wherh, whero, whern, wherc⟩, ⟨havingh, havingo, havingn, havingc⟩, ⟨groupo, groupn, groupc⟩, ⟨ordero, ordern, orderc⟩, zlimit, zoffset⟩ := r
  obtain ⟨zkind', ztable', zname', zcolumn', zunique', ⟨colso', colsn', colsc'⟩, ⟨columnso', columnsn', columnsc'⟩, ⟨rowso', rowsn', rowsc'⟩, ⟨setso', setsn', setsc'⟩, zexplain', zdistinct', ⟨itemso', itemsn', itemsc'⟩, ⟨refso', refsn', refsc'⟩, ⟨wherh', whero', whern', wherc'⟩, ⟨havingh', havingo', havingn', havingc'⟩, ⟨groupo', groupn', groupc'⟩, ⟨ordero', ordern', orderc'⟩, zlimit', zoffset'⟩ := r'
  obtain rfl : zkind = zkind' := (hx'.kind.trans hx.kind.symm).symm
  obtain rfl : ztable = ztable' := (hx'.table.trans hx.table.symm).symm
  obtain rfl : zname = zname' := (hx'.name.trans hx.name.symm).symm
  obtain rfl : zcolumn = zcolumn' := (hx'.column.trans hx.column.symm).symm
  obtain rfl : zunique = zunique' := (hx'.unique.trans hx.unique.symm).symm
  obtain rfl : zexplain = zexplain' := (hx'.explain.trans hx.explain.symm).symm
  obtain rfl : zdistinct = zdistinct' := (hx'.distinct.trans hx.distinct.symm).symm
  obtain rfl : zlimit = zlimit' := (hx'.limit.trans hx.limit.symm).symm
  obtain rfl : zoffset = zoffset' := (hx'.offset.trans hx.offset.symm).symm
  obtain rfl : colsn = colsn' := (len_eq hx.cols hx'.cols).symm
  obtain rfl : columnsn = columnsn' := (len_eq hx.columns hx'.columns).symm
  obtain rfl : rowsn = rowsn' := (len_eq hx.rows hx'.rows).symm
  obtain rfl : setsn = setsn' := (len_eq hx.sets hx'.sets).symm
  obtain rfl : itemsn = itemsn' := (len_eq hx.items hx'.items).symm
  obtain rfl : refsn = refsn' := (len_eq hx.refs hx'.refs).symm
  obtain rfl : groupn = groupn' := (len_eq hx.group hx'.group).symm
  obtain rfl : ordern = ordern' := (len_eq hx.order hx'.order).symm
  obtain rfl : wherh = wherh' := (head_eq hx.wher hx'.wher).symm
  obtain rfl : havingh = havingh' := (head_eq hx.having hx'.having).symm
  obtain ⟨r, hr⟩ : ∃ r, (⟨zkind, ztable, zname, zcolumn, zunique, ⟨colso, colsn, colsc⟩, ⟨columnso, columnsn, columnsc⟩, ⟨rowso, rowsn, rowsc⟩, ⟨setso, setsn, setsc⟩, zexplain, zdistinct, ⟨itemso, itemsn, itemsc⟩, ⟨refso, refsn, refsc⟩, ⟨wherh, whero, whern, wherc⟩, ⟨havingh, havingo, havingn, havingc⟩, ⟨groupo, groupn, groupc⟩, ⟨ordero, ordern, orderc⟩, zlimit, zoffset⟩ : SR) = r := ⟨_, rfl⟩
  obtain ⟨r', hr'⟩ : ∃ r', (⟨zkind, ztable, zname, zcolumn, zunique, ⟨colso', colsn, colsc'⟩, ⟨columnso', columnsn, columnsc'⟩, ⟨rowso', rowsn, rowsc'⟩, ⟨setso', setsn, setsc'⟩, zexplain, zdistinct, ⟨itemso', itemsn, itemsc'⟩, ⟨refso', refsn, refsc'⟩, ⟨wherh, whero', whern', wherc'⟩, ⟨havingh, havingo', havingn', havingc'⟩, ⟨groupo', groupn, groupc'⟩, ⟨ordero', ordern, orderc'⟩, zlimit, zoffset⟩ : SR) = r' := ⟨_, rfl⟩
  obtain ⟨w0, hw0⟩ : ∃ w0, (w.alloc (.cells (SR.cs r).toArray 35)).alloc (.cells (SR.cs r').toArray 35) = w0 := ⟨_, rfl⟩
  have hA : Gr w w0 := by rw [← hw0]; exact ((Gr.refl w).alloc _).alloc _
  have HC : Hid (Bxs w0 w.heap.size r r') := hid ⟨by rw [← hw0, ((Gr.refl _).alloc _).block _ (by simp)]; exact alloc_at _ _, by rw [← hw0]; exact alloc_at' _ _ _ (World.size_alloc _ _).symm⟩
  have HB : Hid (∀ W, Gr w0 W → (∀ i, W.cell? ⟨w.heap.size, i, none⟩ = (#[.int .i64 zkind, .string ztable, .string zname, .string zcolumn, .bool zunique, .slice colso colsn colsc, .slice columnso columnsn columnsc, .slice rowso rowsn rowsc, .slice setso setsn setsc, .bool zexplain, .bool zdistinct, .slice itemso itemsn itemsc, .slice refso refsn refsc, .int .i64 wherh.op, .int .i64 wherh.v.t, .int .i64 wherh.v.n, .string wherh.v.s, .bool wherh.v.b, .string wherh.tab, .string wherh.name, .int .i64 wherh.t, .int .i64 wherh.c, .bool wherh.nt, .bool wherh.st, .slice whero whern wherc, .int .i64 havingh.op, .int .i64 havingh.v.t, .int .i64 havingh.v.n, .string havingh.v.s, .bool havingh.v.b, .string havingh.tab, .string havingh.name, .int .i64 havingh.t, .int .i64 havingh.c, .bool havingh.nt, .bool havingh.st, .slice havingo havingn havingc, .slice groupo groupn groupc, .slice ordero ordern orderc, .int .i64 zlimit, .int .i64 zoffset] : Array Value)[i]?) ∧ (∀ i, W.cell? ⟨w.heap.size + 1, i, none⟩ = (#[.int .i64 zkind, .string ztable, .string zname, .string zcolumn, .bool zunique, .slice colso' colsn colsc', .slice columnso' columnsn columnsc', .slice rowso' rowsn rowsc', .slice setso' setsn setsc', .bool zexplain, .bool zdistinct, .slice itemso' itemsn itemsc', .slice refso' refsn refsc', .int .i64 wherh.op, .int .i64 wherh.v.t, .int .i64 wherh.v.n, .string wherh.v.s, .bool wherh.v.b, .string wherh.tab, .string wherh.name, .int .i64 wherh.t, .int .i64 wherh.c, .bool wherh.nt, .bool wherh.st, .slice whero' whern' wherc', .int .i64 havingh.op, .int .i64 havingh.v.t, .int .i64 havingh.v.n, .string havingh.v.s, .bool havingh.v.b, .string havingh.tab, .string havingh.name, .int .i64 havingh.t, .int .i64 havingh.c, .bool havingh.nt, .bool havingh.st, .slice havingo' havingn' havingc', .slice groupo' groupn groupc', .slice ordero' ordern orderc', .int .i64 zlimit, .int .i64 zoffset] : Array Value)[i]?)) := hid (fun W h => by
    have hb1 := (h.block _ (Array.getElem?_eq_some_iff.1 HC.out.a).1).trans HC.out.a
    have hb2 := (h.block _ (Array.getElem?_eq_some_iff.1 HC.out.b).1).trans HC.out.b
    refine ⟨fun i => ?_, fun i => ?_⟩
    · rw [Rg.blk_cells hb1, ← hr]; rfl
    · rw [Rg.blk_cells hb2, ← hr']; rfl)
  have HX : Hid (∀ W, Gr w0 W → StmAt S W x (⟨zkind, ztable, zname, zcolumn, zunique, ⟨colso, colsn, colsc⟩, ⟨columnso, columnsn, columnsc⟩, ⟨rowso, rowsn, rowsc⟩, ⟨setso, setsn, setsc⟩, zexplain, zdistinct, ⟨itemso, itemsn, itemsc⟩, ⟨refso, refsn, refsc⟩, ⟨wherh, whero, whern, wherc⟩, ⟨havingh, havingo, havingn, havingc⟩, ⟨groupo, groupn, groupc⟩, ⟨ordero, ordern, orderc⟩, zlimit, zoffset⟩ : SR)) := hid (fun W h => hx.of (hA.trans h).size (fun b _ hb => (hA.trans h).block b hb))
  have HX' : Hid (∀ W, Gr w0 W → StmAt S' W x (⟨zkind, ztable, zname, zcolumn, zunique, ⟨colso', colsn, colsc'⟩, ⟨columnso', columnsn, columnsc'⟩, ⟨rowso', rowsn, rowsc'⟩, ⟨setso', setsn, setsc'⟩, zexplain, zdistinct, ⟨itemso', itemsn, itemsc'⟩, ⟨refso', refsn, refsc'⟩, ⟨wherh, whero', whern', wherc'⟩, ⟨havingh, havingo', havingn', havingc'⟩, ⟨groupo', groupn, groupc'⟩, ⟨ordero', ordern, orderc'⟩, zlimit, zoffset⟩ : SR)) := hid (fun W h => hx'.of (hA.trans h).size (fun b _ hb => (hA.trans h).block b hb))
  have HQ0 : Hid (∀ e w', e = .returned (.bool true) ∧ Gr w0 w' → Q e w') := hid (fun e w' h => HQ.out e w' ⟨h.1, hA.trans h.2⟩)
  have HCH : Hid (∀ W, Gr w0 W → Calls Try.prog 23 #[SR.val r, SR.val r'] W (Tru W)) := hid (fun W h => by rw [← hr, ← hr']; exact lists_any x _ _ S S' W (HX.out W h) (HX'.out W h))
  have HW := hid hw0
  have HR := hid hr
  have HR' := hid hr'
  rw [hr, hr']
  clear hx hx' HQ hA hw0 hr hr'
  unfold SR.val
  go_enter Try.func11, Try.ntmps11
  go_upto_region 1 with fail
  change Code.wp _ _ _ _ ((w.alloc (.cells (SR.cs r).toArray 35)).alloc (.cells (SR.cs r').toArray 35))
  rw [HW.out]
  clear HW
  obtain ⟨cA, cB⟩ := HB.out w0 (Gr.refl _)
  go_wp2_with fail
  have HXi := HX.out _ (Gr.refl w0)
  have HXi' := HX'.out _ (Gr.refl w0)
  refine (texts_any x.columns S S' _ _ _ HXi.columns HXi'.columns).mono ?_
  rintro e w1 ⟨rfl, hg1'⟩
  have hg1 : Gr w0 w1 := ((Gr.refl w0)).trans hg1'
  clear HXi HXi' hg1' cA cB
  obtain ⟨cA, cB⟩ := HB.out w1 hg1
  go_wp2_with fail
  have HXi := HX.out _ hg1
  have HXi' := HX'.out _ hg1
  refine (sameall_any HXi.sets HXi'.sets).mono ?_
  rintro e w2 ⟨rfl, hg2'⟩
  have hg2 : Gr w0 w2 := (hg1).trans hg2'
  clear HXi HXi' hg2' cA cB
  obtain ⟨cA, cB⟩ := HB.out w2 hg2
  go_wp2_with fail
  have HXi := HX.out _ hg2
  have HXi' := HX'.out _ hg2
  refine (sameall_any HXi.group HXi'.group).mono ?_
  rintro e w3 ⟨rfl, hg3'⟩
  have hg3 : Gr w0 w3 := (hg2).trans hg3'
  clear HXi HXi' hg3' cA cB
  obtain ⟨cA, cB⟩ := HB.out w3 hg3
  go_wp2_with fail
  have HXi := HX.out _ hg3
  have HXi' := HX'.out _ hg3
  refine (same_any _ _ (Nat.le_refl _) _ _ S S' _ HXi.wher HXi'.wher).mono ?_
  rintro e w4 ⟨rfl, hg4'⟩
  have hg4 : Gr w0 w4 := (hg3).trans hg4'
  clear HXi HXi' hg4' cA cB
  obtain ⟨cA, cB⟩ := HB.out w4 hg4
  go_wp2_with fail
  have HXi := HX.out _ hg4
  have HXi' := HX'.out _ hg4
  refine (same_any _ _ (Nat.le_refl _) _ _ S S' _ HXi.having HXi'.having).mono ?_
  rintro e w5 ⟨rfl, hg5'⟩
  have hg5 : Gr w0 w5 := (hg4).trans hg5'
  clear HXi HXi' hg5' cA cB
  obtain ⟨cA, cB⟩ := HB.out w5 hg5
  go_wp2_with fail
  have HG5 := hid hg5
  clear hg1 hg2 hg3 hg4 hg5 cA cB
  go_loopw [5] (fun s9 wr => ∃ k : Nat, s9 = .int .i64 (k : Int) ∧ k ≤ colsn ∧ Gr w0 wr) (fun s9 _ => colsn - (intOf s9).toNat)
  · exact ⟨0, rfl, Nat.zero_le _, HG5.out⟩
  · obtain ⟨k, rfl, hk, hg⟩ := hrel
    have hbd : colsn ≤ 2000000 := (HX.out _ (Gr.refl _)).cols.2.1.2
    obtain ⟨cA0, cB0⟩ := HB.out wr hg
    have cA : wr.cell? ⟨w.heap.size, 5, none⟩ = some (.slice colso colsn colsc) := cA0 5
    have cB : wr.cell? ⟨w.heap.size + 1, 5, none⟩ = some (.slice colso' colsn colsc') := cB0 5
    clear cA0 cB0
    by_cases hkn : k < colsn
    · have t0 : decide ((k : Int) < (colsn : Int)) = true := lt_dec _ _ hkn
      have g1 : (k : Int) < (colsn : Int) := lt_cast _ _ hkn
      have hwk : wrap64 ((k : Int) + 1) = (k : Int) + 1 := wrap_next _ _ hkn (by omega)
      have hks : k < x.cols.length := by rw [← (HX.out _ (Gr.refl _)).cols.1]; exact hkn
      obtain ⟨b, off, rk, hoa, _, hbl, _, hat, hrk⟩ := ks_getK (HX.out wr hg).cols k hks
      obtain ⟨b', off', rk', hoa', _, hbl', _, hat', hrk'⟩ := ks_getK (HX'.out wr hg).cols k hks
      have hoa : colso = some ⟨b, off, none⟩ := hoa
      have hoa' : colso' = some ⟨b', off', none⟩ := hoa'
      have e1 : rk' = rk := (show rk' = x.cols[k]'hks from hat').trans (show rk = x.cols[k]'hks from hat).symm
      subst e1
      obtain ⟨y1, y2, y3, y4⟩ := rk'
      rw [hoa] at cA
      rw [hoa'] at cB
      have HLA : Hid (∀ i u, (cF ⟨y1, y2, y3, y4⟩)[i]? = some u → wr.cell? ⟨b, off + k * 4 + i, none⟩ = some u) := hid hrk
      have HLB : Hid (∀ i u, (cF ⟨y1, y2, y3, y4⟩)[i]? = some u → wr.cell? ⟨b', off' + k * 4 + i, none⟩ = some u) := hid hrk'
      have EC := fun W => c_same y1 y2 y3 y4 W
      have HE : Hid (∀ W, Gr wr W → (∃ k' : Nat, Value.int .i64 ((k : Int) + 1) = .int .i64 (k' : Int) ∧ k' ≤ colsn ∧ Gr w0 W) ∧ colsn - (intOf (.int .i64 ((k : Int) + 1))).toNat < colsn - (intOf (.int .i64 (k : Int))).toNat) := hid (fun W h => ⟨⟨k + 1, next_int _, hkn, hg.trans h⟩, meas_step _ _ hkn⟩)
      have HWK := hid hwk
      clear hrk hrk' hat hat' hg hk hkn hks hbl hbl' hoa hoa'
      clear hoa hoa'
      go_wp2_with fail
      refine Rg.region_chain 10 [] [] (fun _ _ W => Gr wr W) [some (.pointer (some ⟨w.heap.size, 5, none⟩)), some (.slice (some ⟨b, off, none⟩) colsn colsc), some (.int .i64 (k : Int)), some (.pointer (some ⟨b, off + k * 4, none⟩)), some (.agg #[.string y1, .int .i64 y2, .bool y3, .bool y4]), some (.pointer (some ⟨w.heap.size + 1, 5, none⟩)), some (.slice (some ⟨b', off', none⟩) colsn colsc'), some (.int .i64 (k : Int)), some (.pointer (some ⟨b', off' + k * 4, none⟩)), some (.agg #[.string y1, .int .i64 y2, .bool y3, .bool y4])]
        (fun _ => ((Gr.refl _).drew)) (by kernel_rfl) (by kernel_rfl) (by kernel_rfl) (by kernel_rfl) (fun _ _ d _ _ h => by cases d <;> exact h) ?_
      intro OPS HOPS v
      clear HOPS
      simp only [List.take_succ_cons, List.take_zero, Rg.wpC, Rg.wpS, Option.getD_some, Option.getD_none, Act.put, List.setIfInBounds_toArray, List.set_cons_zero, List.set_cons_succ, show List.contains [] 0 = false from rfl, show List.contains [] 1 = false from rfl, show List.contains [] 2 = false from rfl, show List.contains [] 3 = false from rfl, show List.contains [] 4 = false from rfl, show List.contains [] 5 = false from rfl, show List.contains [] 6 = false from rfl, show List.contains [] 7 = false from rfl, show List.contains [] 8 = false from rfl, show List.contains [] 9 = false from rfl, Bool.false_eq_true, if_false, if_true, Nat.reduceAdd]
      refine ⟨?_, ?_, ?_, ?_, ?_, ?_, ?_, ?_, ?_, ?_, ?_⟩
      iterate 4
        · refine sc_still (by rfl) (by rfl) (fun s' W _ hS => ?_)
          have hg : Gr wr W := hS
          have d1 := hg.keep cA
          clear hS hg cA cB EC
          go_simp
      · refine sc_still (by rfl) (by rfl) (fun s' W _ hS => ?_)
        have hg : Gr wr W := hS
        exact still_load rfl b (off + k * 4) rfl (cF ⟨y1, y2, y3, y4⟩) (fun i u hu => hg.keep (HLA.out i u hu)) _ Try.underlying44 rfl (by kernel_rfl)
      iterate 4
        · refine sc_still (by rfl) (by rfl) (fun s' W _ hS => ?_)
          have hg : Gr wr W := hS
          have d1 := hg.keep cB
          clear hS hg cA cB EC
          go_simp
      · refine sc_still (by rfl) (by rfl) (fun s' W _ hS => ?_)
        have hg : Gr wr W := hS
        exact still_load rfl b' (off' + k * 4) rfl (cF ⟨y1, y2, y3, y4⟩) (fun i u hu => hg.keep (HLB.out i u hu)) _ Try.underlying44 rfl (by kernel_rfl)
      intro W hS
      simp only [List.drop_succ_cons, List.drop_zero]
      have HF := hid (HE.out W hS)
      clear hS HE cA cB HLA HLB
      go_wp2_with fail
      first | exact HF.out | (rw [HWK.out]; exact HF.out)
    · have t0 : decide ((k : Int) < (colsn : Int)) = false := nlt_dec _ _ hkn
      have HG6 := hid hg
      obtain ⟨cA0, cB0⟩ := HB.out wr hg
      have cR : wr.cell? ⟨w.heap.size, 7, none⟩ = some (.slice rowso rowsn rowsc) := cA0 7
      clear cA0 cB0 hg cB hk hbd HG5
      go_wp2_with fail
      clear t0 cA hkn cR
      go_loopw [6] (fun s9 wr => ∃ k : Nat, s9 = .int .i64 (k : Int) ∧ k ≤ rowsn ∧ Gr w0 wr) (fun s9 _ => rowsn - (intOf s9).toNat)
      · exact ⟨0, rfl, Nat.zero_le _, HG6.out⟩
      · clear HG6
        obtain ⟨k, rfl, hk, hg⟩ := hrel
        have hbd : rowsn ≤ 2000000 := (HX.out _ (Gr.refl _)).rows.2.1.2
        obtain ⟨cA0, cB0⟩ := HB.out wr hg
        have cA : wr.cell? ⟨w.heap.size, 7, none⟩ = some (.slice rowso rowsn rowsc) := cA0 7
        have cB : wr.cell? ⟨w.heap.size + 1, 7, none⟩ = some (.slice rowso' rowsn rowsc') := cB0 7
        clear cA0 cB0
        by_cases hkn : k < rowsn
        · have t0 : decide ((k : Int) < (rowsn : Int)) = true := lt_dec _ _ hkn
          have g1 : (k : Int) < (rowsn : Int) := lt_cast _ _ hkn
          have hwk : wrap64 ((k : Int) + 1) = (k : Int) + 1 := wrap_next _ _ hkn (by omega)
          have hks : k < x.rows.length := by rw [← (HX.out _ (Gr.refl _)).rows.1]; exact hkn
          obtain ⟨b, off, rk, hoa, _, hbl, _, hat, hrk⟩ := ks_getK (HX.out wr hg).rows k hks
          obtain ⟨b', off', rk', hoa', _, hbl', _, hat', hrk'⟩ := ks_getK (HX'.out wr hg).rows k hks
          have hoa : rowso = some ⟨b, off, none⟩ := hoa
          have hoa' : rowso' = some ⟨b', off', none⟩ := hoa'
          rw [hoa] at cA
          rw [hoa'] at cB
          have d1 : wr.cell? ⟨b, off + k, none⟩ = some (.slice rk.oa rk.n rk.cap) := by
            have h := hrk 0 (Slc.val rk) rfl
            have e : off + k * kRow.n + 0 = off + k := by show off + k * 1 + 0 = _; omega
            rw [e] at h; exact h
          have d2 : wr.cell? ⟨b', off' + k, none⟩ = some (.slice rk'.oa rk'.n rk'.cap) := by
            have h := hrk' 0 (Slc.val rk') rfl
            have e : off' + k * kRow.n + 0 = off' + k := by show off' + k * 1 + 0 = _; omega
            rw [e] at h; exact h
          have hx1 : KsAt kX S wr (x.rows[k]'hks) rk := hat
          have hx2 : KsAt kX S' wr (x.rows[k]'hks) rk' := hat'
          have HS : Hid (∀ W, Gr wr W → Calls Try.prog 21 #[.slice rk.oa rk.n rk.cap, .slice rk'.oa rk'.n rk'.cap] W (Tru W)) := hid (fun W h => sameall_any (hx1.of kX_ok h.size (fun b _ hl => h.block b hl)) (hx2.of kX_ok h.size (fun b _ hl => h.block b hl)))
          have HE : Hid (∀ W, Gr wr W → (∃ k' : Nat, Value.int .i64 ((k : Int) + 1) = .int .i64 (k' : Int) ∧ k' ≤ rowsn ∧ Gr w0 W) ∧ rowsn - (intOf (.int .i64 ((k : Int) + 1))).toNat < rowsn - (intOf (.int .i64 (k : Int))).toNat) := hid (fun W h => ⟨⟨k + 1, next_int _, hkn, hg.trans h⟩, meas_step _ _ hkn⟩)
          have HWK := hid hwk
          clear hrk hrk' hat hat' hg hk hkn hks hbl hbl' hoa hoa' hx1 hx2
          clear hoa hoa'
          go_wp2_with fail
          refine Rg.region_chain 11 [10] [] (fun _ _ W => Gr wr W) [some (.pointer (some ⟨w.heap.size, 7, none⟩)), some (.slice (some ⟨b, off, none⟩) rowsn rowsc), some (.int .i64 (k : Int)), some (.pointer (some ⟨b, off + k, none⟩)), some (.slice rk.oa rk.n rk.cap), some (.pointer (some ⟨w.heap.size + 1, 7, none⟩)), some (.slice (some ⟨b', off', none⟩) rowsn rowsc'), some (.int .i64 (k : Int)), some (.pointer (some ⟨b', off' + k, none⟩)), some (.slice rk'.oa rk'.n rk'.cap), some (.bool true)]
            (fun _ => ((Gr.refl _).drew)) (by kernel_rfl) (by kernel_rfl) (by kernel_rfl) (by kernel_rfl) (fun _ _ d _ _ h => by cases d <;> exact h) ?_
          intro OPS HOPS v
          clear HOPS
          simp only [List.take_succ_cons, List.take_zero, Rg.wpC, Rg.wpS, Option.getD_some, Option.getD_none, Act.put, List.setIfInBounds_toArray, List.set_cons_zero, List.set_cons_succ, show List.contains [10] 0 = false from rfl, show List.contains [10] 1 = false from rfl, show List.contains [10] 2 = false from rfl, show List.contains [10] 3 = false from rfl, show List.contains [10] 4 = false from rfl, show List.contains [10] 5 = false from rfl, show List.contains [10] 6 = false from rfl, show List.contains [10] 7 = false from rfl, show List.contains [10] 8 = false from rfl, show List.contains [10] 9 = false from rfl, show List.contains [10] 10 = true from rfl, Bool.false_eq_true, if_false, if_true, Nat.reduceAdd]
          refine ⟨?_, ?_, ?_, ?_, ?_, ?_, ?_, ?_, ?_, ?_, ?_, ?_⟩
          iterate 10
            · refine sc_still (by rfl) (by rfl) (fun s' W _ hS => ?_)
              have hg : Gr wr W := hS
              have p1 := hg.keep cA
              have p2 := hg.keep cB
              have p3 := hg.keep d1
              have p4 := hg.keep d2
              clear hS hg cA cB d1 d2
              go_simp
          · refine sc_call (by rfl) (by rfl) (fun W hS => ?_)
            have HG : Hid (Gr wr W) := hid hS
            clear hS cA cB d1 d2
            go_simp
            refine (HS.out W HG.out).mono ?_
            rintro e w' ⟨rfl, hg'⟩
            exact ⟨_, rfl, rfl, HG.out.trans hg'⟩
          intro W hS
          simp only [List.drop_succ_cons, List.drop_zero]
          have HF := hid (HE.out W hS)
          clear hS HE HS cA cB d1 d2
          go_wp2_with fail
          first | exact HF.out | (rw [HWK.out]; exact HF.out)
        · have t0 : decide ((k : Int) < (rowsn : Int)) = false := nlt_dec _ _ hkn
          have HG7 := hid hg
          have hb1 := hid ((hg.block _ (Array.getElem?_eq_some_iff.1 HC.out.a).1).trans HC.out.a)
          have hb2 := hid ((hg.block _ (Array.getElem?_eq_some_iff.1 HC.out.b).1).trans HC.out.b)
          have HCW := hid (HCH.out wr hg)
          clear cB hbd hk hg HX HX' HB HC HCH
          go_wp2_with (first | (guard_target =~ wpList _ _ _ (Oper.mk _ (Op.load 35 _) _ _ _ _ :: _) _ _; refine wpList_load_row rfl 35 _ rfl w.heap.size rfl 35 (SR.cs r).toArray (0, 0) _ hb1.out Try.underlying35 rfl (by kernel_rfl) ?_) | (guard_target =~ wpList _ _ _ (Oper.mk _ (Op.load 35 _) _ _ _ _ :: _) _ _; refine wpList_load_row rfl 35 _ rfl (w.heap.size + 1) rfl 35 (SR.cs r').toArray (0, 0) _ hb2.out Try.underlying35 rfl (by kernel_rfl) ?_))
          unfold SR.val at HCW
          refine HCW.out.mono ?_
          rintro e w9 ⟨rfl, hg9⟩
          have HFQ := hid (HQ0.out _ _ ⟨rfl, HG7.out.trans hg9⟩)
          clear hg9 HG7 HCW HQ0 hb1 hb2 t0 cA hkn
          go_wp2
          first | exact HFQ.out | (go_ret; exact HFQ.out) | (go_ret3; exact HFQ.out)
end Go.Proofs.Ytaogpifcfmjcbaa
end
section
namespace Go.Proofs.Ytaogpifcfmjcbaa
open Go.RowKit
set_option linter.unusedSimpArgs false
set_option linter.unusedVariables false
attribute [local go_sem] Rg.leads_value Rg.leads_skip Rg.leads_enter Rg.brings_value Rg.brings_skip Rg.brings_enter Rg.bringsG_value Rg.bringsG_enter Rg.once_normal Rg.once_exit Rg.once_ret Rg.once_panic Rg.once_goto Rg.bringsS_value Rg.bringsS_skip Rg.bringsS_enter Rg.still_value Rg.still_skip Rg.still_enter
theorem conv1 (c : UInt8) (W : World) (g : Nat) (h : W.cell? ⟨g, 0, none⟩ = some (.int .u8 (c.toNat : Int))) : (convert 49 9 (.slice (some ⟨g, 0, none⟩) 1 1)).run Try.prog W = .ok (.string ⟨#[c]⟩) W := by
  have h1 := run_convert_bytes_arg (P := Try.prog) W 49 5 Try.underlying49 Try.underlying5 g 0 1 1 [(c.toNat : Int)] rfl (fun i hi => by
    have : i = 0 := by simpa using hi
    subst this
    exact h) 9 Try.underlying9
  rw [h1]
  have : strOfNums [(c.toNat : Int)] = ⟨#[c]⟩ := by simp [strOfNums]
  rw [this]
theorem wpList_wanted {P : Program} {ops : Array Oper} {rest : List Oper} {o : Oper} {a : Act} {w : World} {Q : Exit → Act → World → Prop} (hw : Region.wanted o (yielded ops a.tmps) = true)
    (h : ∀ K : Act → World → Prop, (∀ a w, wpList P ops Q rest a w → K a w) → o.wp P a w K Q) : wpList P ops Q (o :: rest) a w :=
  wpList_step fun K hK => by rw [if_pos hw]; exact h K hK
theorem load_row_g {P : Program} {ops : Array Oper} {rest : List Oper} {o : Oper} {a : Act} {w : World} {Q : Exit → Act → World → Prop} (hw : Region.wanted o (yielded ops a.tmps) = true) (ty : TypeId) (x : Operand) (ho : o.op = .load ty x)
    (g : Nat) (hx : a.eval x = .pointer (some ⟨g, 0, none⟩)) (t : TypeId) (cs : Array Value) (fr : Nat × Nat) (d : TypeDesc) (hg : w.heap[g]? = some (.cells cs t fr))
    (hu : P.underlying ty = some d) (hd : (match d with | .struct _ | .array _ _ => true | _ => false) = true) (hi : (P.info? ty).map (·.size) = some cs.size)
    (h : wpList P ops Q rest (a.put o.dst (.agg cs)) w) : wpList P ops Q (o :: rest) a w :=
  wpList_wanted hw fun _ hK => wp_load_row ty x ho g hx t cs fr d hg hu hd hi (hK _ _ h)
theorem flip_append (a b : List UInt8) : Rl.flip (a ++ b) = Rl.flip a ++ Rl.flip b := by
  induction a with
  | nil => rfl
  | cons c a ih => simp only [List.cons_append, Rl.flip, ih, List.append_assoc]
theorem take_snoc (l : List UInt8) (k : Nat) (h : k < l.length) : l.take (k + 1) = l.take k ++ [l[k]] := by
  rw [List.take_add_one, List.getElem?_eq_getElem h]
  rfl
set_option maxHeartbeats 16000000 in
set_option maxRecDepth 100000 in
theorem case_dirty (s : ByteArray) (hncl : ¬ Rl.clean s.data.toList) (hs : s.size ≤ 140737488355328) (w : World) (m : Int) (hm : w.cell? ⟨0, 0, none⟩ = some (.int .i64 m)) : Calls Try.prog 6 #[.string s] w (Yes w) := by
  have HY : Hid (∀ e w', e = .returned (.bool true) ∧ Gr w w' → Yes w e w') := hid (fun e w' h => h)
  generalize Yes w = Q at *
  have HM := hid hm
  have HA := hid (awake_any w m hm)
  clear hm
  go_enter Try.func6, Try.ntmps6
  go_wp2_with fail
  go_loopw [3] (fun s3 wr => wr = w ∧ ∃ k : Nat, s3 = .int .i64 (k : Int) ∧ k ≤ s.size ∧ ∀ j (h : j < s.size), j < k → (s[j]'h).toNat ≠ 39 ∧ (s[j]'h).toNat ≠ 45 ∧ (s[j]'h).toNat ≠ 59) (fun s3 _ => s.size - (intOf s3).toNat)
  · exact ⟨rfl, 0, rfl, Nat.zero_le _, fun j h h0 => absurd h0 (Nat.not_lt_zero _)⟩
  · obtain ⟨hwr, k, rfl, hk, hall⟩ := hrel
    subst hwr
    by_cases hkn : k < s.size
    · have t0 : decide ((k : Int) < (s.size : Int)) = true := lt_dec _ _ hkn
      have hwk : wrap64 ((k : Int) + 1) = (k : Int) + 1 := by unfold wrap64; omega
      have hms := hid (meas_step _ k hkn)
      have hni := hid (next_int k)
      have HALL := hid hall
      clear hall hk
      by_cases h39 : (s[k]'hkn).toNat = 39
      · have t1 : (((s[k]'hkn).toNat : Int) == 39) = true := by rw [h39]; rfl
        clear hms hni HALL hwk HM h39
        go_wp2_with fail
        refine HA.out.mono ?_
        rintro e w1 ⟨rfl, hg⟩
        have HQ := hid (HY.out _ _ ⟨rfl, hg⟩)
        clear hg HA HY
        go_wp2
        first | exact HQ.out | (go_ret; exact HQ.out) | (go_ret3; exact HQ.out)
      by_cases h45 : (s[k]'hkn).toNat = 45
      · have t1 : (((s[k]'hkn).toNat : Int) == 39) = false := by rw [h45]; rfl
        have t2 : (((s[k]'hkn).toNat : Int) == 45) = true := by rw [h45]; rfl
        clear hms hni HALL hwk HM h45 h39
        go_wp2_with fail
        refine HA.out.mono ?_
        rintro e w1 ⟨rfl, hg⟩
        have HQ := hid (HY.out _ _ ⟨rfl, hg⟩)
        clear hg HA HY
        go_wp2
        first | exact HQ.out | (go_ret; exact HQ.out) | (go_ret3; exact HQ.out)
      by_cases h59 : (s[k]'hkn).toNat = 59
      · have t1 : (((s[k]'hkn).toNat : Int) == 39) = false := by rw [h59]; rfl
        have t2 : (((s[k]'hkn).toNat : Int) == 45) = false := by rw [h59]; rfl
        have t3 : (((s[k]'hkn).toNat : Int) == 59) = true := by rw [h59]; rfl
        clear hms hni HALL hwk HM h59 h45 h39
        go_wp2_with fail
        refine HA.out.mono ?_
        rintro e w1 ⟨rfl, hg⟩
        have HQ := hid (HY.out _ _ ⟨rfl, hg⟩)
        clear hg HA HY
        go_wp2
        first | exact HQ.out | (go_ret; exact HQ.out) | (go_ret3; exact HQ.out)
      have t1 : (((s[k]'hkn).toNat : Int) == 39) = false := by simp; omega
      have t2 : (((s[k]'hkn).toNat : Int) == 45) = false := by simp; omega
      have t3 : (((s[k]'hkn).toNat : Int) == 59) = false := by simp; omega
      have HN : Hid (∀ j (h : j < s.size), j < k + 1 → (s[j]'h).toNat ≠ 39 ∧ (s[j]'h).toNat ≠ 45 ∧ (s[j]'h).toNat ≠ 59) := hid (fun j h hj => by
        by_cases e : j = k
        · subst e; exact ⟨h39, h45, h59⟩
        · exact HALL.out j h (by omega))
      clear h39 h45 h59
      go_wp2_with fail
      exact ⟨⟨trivial, k + 1, hni.out, hkn, HN.out⟩, hms.out⟩
    · have t0 : decide ((k : Int) < (s.size : Int)) = false := nlt_dec _ _ hkn
      obtain rfl : k = s.size := by omega
      have hsl : s.data.toList.length = s.size := by rw [Array.length_toList]; rfl
      have HCL : Hid (Rl.clean s.data.toList) := hid (fun c hc => by
        obtain ⟨j, hj, rfl⟩ := List.getElem_of_mem hc
        have := hall j (by omega) (by omega)
        rw [Array.getElem_toList]
        exact this)
      have HSL := hid hsl
      clear hall hsl hk
      exact absurd HCL.out hncl
set_option maxHeartbeats 16000000 in
set_option maxRecDepth 100000 in
theorem case_long (s : ByteArray) (hcl : Rl.clean s.data.toList) (hlong : 1000 < s.size) (hs : s.size ≤ 140737488355328) (w : World) (m : Int) (hm : w.cell? ⟨0, 0, none⟩ = some (.int .i64 m)) : Calls Try.prog 6 #[.string s] w (Yes w) := by
  have hcln : ∀ j (h : j < s.size), (s[j]'h).toNat ≠ 39 ∧ (s[j]'h).toNat ≠ 45 ∧ (s[j]'h).toNat ≠ 59 := fun j h => hcl _ (by show s.data[j] ∈ s.data.toList; simp)
  have HCLN := hid hcln
  clear hcln
  have HY : Hid (∀ e w', e = .returned (.bool true) ∧ Gr w w' → Yes w e w') := hid (fun e w' h => h)
  generalize Yes w = Q at *
  have HM := hid hm
  have HA := hid (awake_any w m hm)
  clear hm
  go_enter Try.func6, Try.ntmps6
  go_wp2_with fail
  go_loopw [3] (fun s3 wr => wr = w ∧ ∃ k : Nat, s3 = .int .i64 (k : Int) ∧ k ≤ s.size ∧ ∀ j (h : j < s.size), j < k → (s[j]'h).toNat ≠ 39 ∧ (s[j]'h).toNat ≠ 45 ∧ (s[j]'h).toNat ≠ 59) (fun s3 _ => s.size - (intOf s3).toNat)
  · exact ⟨rfl, 0, rfl, Nat.zero_le _, fun j h h0 => absurd h0 (Nat.not_lt_zero _)⟩
  · obtain ⟨hwr, k, rfl, hk, hall⟩ := hrel
    subst hwr
    by_cases hkn : k < s.size
    · have t0 : decide ((k : Int) < (s.size : Int)) = true := lt_dec _ _ hkn
      have hwk : wrap64 ((k : Int) + 1) = (k : Int) + 1 := by unfold wrap64; omega
      have hms := hid (meas_step _ k hkn)
      have hni := hid (next_int k)
      have HALL := hid hall
      clear hall hk
      by_cases h39 : (s[k]'hkn).toNat = 39
      · exact absurd h39 (HCLN.out k hkn).1
      by_cases h45 : (s[k]'hkn).toNat = 45
      · exact absurd h45 (HCLN.out k hkn).2.1
      by_cases h59 : (s[k]'hkn).toNat = 59
      · exact absurd h59 (HCLN.out k hkn).2.2
      have t1 : (((s[k]'hkn).toNat : Int) == 39) = false := by simp; omega
      have t2 : (((s[k]'hkn).toNat : Int) == 45) = false := by simp; omega
      have t3 : (((s[k]'hkn).toNat : Int) == 59) = false := by simp; omega
      have HN : Hid (∀ j (h : j < s.size), j < k + 1 → (s[j]'h).toNat ≠ 39 ∧ (s[j]'h).toNat ≠ 45 ∧ (s[j]'h).toNat ≠ 59) := hid (fun j h hj => by
        by_cases e : j = k
        · subst e; exact ⟨h39, h45, h59⟩
        · exact HALL.out j h (by omega))
      clear h39 h45 h59
      go_wp2_with fail
      exact ⟨⟨trivial, k + 1, hni.out, hkn, HN.out⟩, hms.out⟩
    · have t0 : decide ((k : Int) < (s.size : Int)) = false := nlt_dec _ _ hkn
      obtain rfl : k = s.size := by omega
      have hsl : s.data.toList.length = s.size := by rw [Array.length_toList]; rfl
      have HCL : Hid (Rl.clean s.data.toList) := hid (fun c hc => by
        obtain ⟨j, hj, rfl⟩ := List.getElem_of_mem hc
        have := hall j (by omega) (by omega)
        rw [Array.getElem_toList]
        exact this)
      have HSL := hid hsl
      clear hall hsl hk
      have t1 : decide (1000 < (s.size : Int)) = true := by rw [decide_eq_true_iff]; omega
      clear HCL HSL HM
      go_wp2_with fail
      refine HA.out.mono ?_
      rintro e w1 ⟨rfl, hg⟩
      have HQ := hid (HY.out _ _ ⟨rfl, hg⟩)
      clear hg HA HY
      go_wp2
      first | exact HQ.out | (go_ret; exact HQ.out) | (go_ret3; exact HQ.out)
set_option maxHeartbeats 16000000 in
set_option maxRecDepth 100000 in
theorem case_ok (s : ByteArray) (hcl : Rl.clean s.data.toList) (hshort : s.size ≤ 1000) (l0 : List Lx.Tok) (d0 : Nat) (hok : (stmT s).2 = .ok l0 d0) (hs : s.size ≤ 140737488355328) (w : World) (m : Int) (hm : w.cell? ⟨0, 0, none⟩ = some (.int .i64 m)) : Calls Try.prog 6 #[.string s] w (Yes w) := by
  have hcln : ∀ j (h : j < s.size), (s[j]'h).toNat ≠ 39 ∧ (s[j]'h).toNat ≠ 45 ∧ (s[j]'h).toNat ≠ 59 := fun j h => hcl _ (by show s.data[j] ∈ s.data.toList; simp)
  have HCLN := hid hcln
  clear hcln
  have HY : Hid (∀ e w', e = .returned (.bool true) ∧ Gr w w' → Yes w e w') := hid (fun e w' h => h)
  generalize Yes w = Q at *
  have HM := hid hm
  have HA := hid (awake_any w m hm)
  clear hm
  go_enter Try.func6, Try.ntmps6
  go_wp2_with fail
  go_loopw [3] (fun s3 wr => wr = w ∧ ∃ k : Nat, s3 = .int .i64 (k : Int) ∧ k ≤ s.size ∧ ∀ j (h : j < s.size), j < k → (s[j]'h).toNat ≠ 39 ∧ (s[j]'h).toNat ≠ 45 ∧ (s[j]'h).toNat ≠ 59) (fun s3 _ => s.size - (intOf s3).toNat)
  · exact ⟨rfl, 0, rfl, Nat.zero_le _, fun j h h0 => absurd h0 (Nat.not_lt_zero _)⟩
  · obtain ⟨hwr, k, rfl, hk, hall⟩ := hrel
    subst hwr
    by_cases hkn : k < s.size
    · have t0 : decide ((k : Int) < (s.size : Int)) = true := lt_dec _ _ hkn
      have hwk : wrap64 ((k : Int) + 1) = (k : Int) + 1 := by unfold wrap64; omega
      have hms := hid (meas_step _ k hkn)
      have hni := hid (next_int k)
      have HALL := hid hall
      clear hall hk
      by_cases h39 : (s[k]'hkn).toNat = 39
      · exact absurd h39 (HCLN.out k hkn).1
      by_cases h45 : (s[k]'hkn).toNat = 45
      · exact absurd h45 (HCLN.out k hkn).2.1
      by_cases h59 : (s[k]'hkn).toNat = 59
      · exact absurd h59 (HCLN.out k hkn).2.2
      have t1 : (((s[k]'hkn).toNat : Int) == 39) = false := by simp; omega
      have t2 : (((s[k]'hkn).toNat : Int) == 45) = false := by simp; omega
      have t3 : (((s[k]'hkn).toNat : Int) == 59) = false := by simp; omega
      have HN : Hid (∀ j (h : j < s.size), j < k + 1 → (s[j]'h).toNat ≠ 39 ∧ (s[j]'h).toNat ≠ 45 ∧ (s[j]'h).toNat ≠ 59) := hid (fun j h hj => by
        by_cases e : j = k
        · subst e; exact ⟨h39, h45, h59⟩
        · exact HALL.out j h (by omega))
      clear h39 h45 h59
      go_wp2_with fail
      exact ⟨⟨trivial, k + 1, hni.out, hkn, HN.out⟩, hms.out⟩
    · have t0 : decide ((k : Int) < (s.size : Int)) = false := nlt_dec _ _ hkn
      obtain rfl : k = s.size := by omega
      have hsl : s.data.toList.length = s.size := by rw [Array.length_toList]; rfl
      have HCL : Hid (Rl.clean s.data.toList) := hid (fun c hc => by
        obtain ⟨j, hj, rfl⟩ := List.getElem_of_mem hc
        have := hall j (by omega) (by omega)
        rw [Array.getElem_toList]
        exact this)
      have HSL := hid hsl
      clear hall hsl hk
      by_cases h1 : 1000 < s.size
      · omega
      · have t1 : decide (1000 < (s.size : Int)) = false := by rw [decide_eq_false_iff_not]; omega
        have hz : s.size ≤ 1000 := by omega
        go_wp2_with fail
        obtain ⟨w9, hw9⟩ : ∃ w9, w9 = wr := ⟨_, rfl⟩
        subst hw9
        clear t0 hkn t1 h1
        go_loopw [4, 5] (fun s4 s5 wq => ∃ (k : Nat) (u : ByteArray), s4 = .string u ∧ s5 = .int .i64 (k : Int) ∧ k ≤ s.size ∧ u.data.toList = Rl.flip (s.data.toList.take k) ∧ Gr w9 wq) (fun s4 s5 _ => s.size - (intOf s5).toNat)
        · exact ⟨0, ⟨#[]⟩, rfl, rfl, Nat.zero_le _, rfl, Gr.refl _⟩
        · obtain ⟨k, u, rfl, rfl, hk, hu, hg⟩ := hrel
          have hfl := Rl.flip_len (s.data.toList.take k)
          have hus : u.size ≤ 2000 := by
            have e1 : u.size = u.data.toList.length := by rw [Array.length_toList]; rfl
            have e2 : (s.data.toList.take k).length ≤ k := by rw [List.length_take]; omega
            rw [e1, hu]
            omega
          by_cases hkn : k < s.size
          · have t0 : decide ((k : Int) < (s.size : Int)) = true := lt_dec _ _ hkn
            have hwk : wrap64 ((k : Int) + 1) = (k : Int) + 1 := by unfold wrap64; omega
            have HWK := hid hwk
            obtain ⟨c, hc⟩ : ∃ c, (s[k]'hkn) = c := ⟨_, rfl⟩
            have hck : s.data.toList.take (k + 1) = s.data.toList.take k ++ [c] := by
              rw [take_snoc _ k (by rw [HSL.out]; exact hkn)]
              rw [← hc, Array.getElem_toList]
              rfl
            have HE : Hid (∀ W (v : ByteArray), Gr wr W → v.data.toList = u.data.toList ++ Rl.flip [c] → (∃ (k' : Nat) (u' : ByteArray), Value.string v = .string u' ∧ Value.int .i64 ((k : Int) + 1) = .int .i64 (k' : Int) ∧ k' ≤ s.size ∧ u'.data.toList = Rl.flip (s.data.toList.take k') ∧ Gr w9 W) ∧ s.size - (intOf (.int .i64 ((k : Int) + 1))).toNat < s.size - (intOf (.int .i64 (k : Int))).toNat) := hid (fun W v h hv => ⟨⟨k + 1, v, rfl, next_int k, hkn, by rw [hv, hu, hck, flip_append], hg.trans h⟩, meas_step _ _ hkn⟩)
            have b1 : ¬ (9223372036854775807 < u.size + 1) := by omega
            have b2 : ¬ (9223372036854775807 < u.size + 1 + 1) := by omega
            have cv : (convert 49 9 (.slice (some ⟨wr.heap.size, 0, none⟩) 1 1)).run Try.prog (wr.alloc (.cells #[.int .u8 ((Rl.fc c).toNat : Int)] 5)) = .ok (.string ⟨#[Rl.fc c]⟩) (wr.alloc (.cells #[.int .u8 ((Rl.fc c).toNat : Int)] 5)) := conv1 (Rl.fc c) _ _ (by rw [Rg.blk_cells (alloc_at _ _)]; rfl)
            have hgA := hid ((Gr.refl wr).alloc (.cells #[.int .u8 ((Rl.fc c).toNat : Int)] 5))
            clear hk hu hg hck hfl hus
            have HC := hid hc
            by_cases h1 : 97 ≤ c.toNat ∧ c.toNat ≤ 122
            · have t1 : decide (97 ≤ ((s[k]'hkn).toNat : Int)) = true := by rw [decide_eq_true_iff, hc]; omega
              have t2 : decide (((s[k]'hkn).toNat : Int) ≤ 122) = true := by rw [decide_eq_true_iff, hc]; omega
              have hf : (Rl.fc c).toNat = c.toNat - 32 := by
                have : Rl.fc c = c - 32 := by unfold Rl.fc; rw [if_pos (by simp; exact h1)]
                rw [this]
                rw [UInt8.toNat_sub_of_le _ _ (by show (32 : UInt8).toNat ≤ c.toNat; show 32 ≤ _; omega)]
                rfl
              have hz : IntKind.u8.wrap (((s[k]'hkn).toNat : Int) - 32) = ((Rl.fc c).toNat : Int) := by rw [hc, hf]; simp [IntKind.wrap, IntKind.bits, IntKind.signed]; omega
              have h32 : c.toNat ≠ 32 := by omega
              have hlast := hid (HE.out _ (u ++ ⟨#[Rl.fc c]⟩) hgA.out (by simp only [ByteArray.data_append, Array.toList_append, Rl.flip, if_neg h32]; rfl))
              clear h1 hf h32 HE hc
              go_wp2_with fail
              first | exact hlast.out | (rw [HWK.out]; exact hlast.out)
            · have n1 : decide (97 ≤ ((s[k]'hkn).toNat : Int)) = decide (97 ≤ c.toNat) := by rw [hc]; rw [decide_eq_decide]; omega
              have n2 : decide (((s[k]'hkn).toNat : Int) ≤ 122) = decide (c.toNat ≤ 122) := by rw [hc]; rw [decide_eq_decide]; omega
              have hno : ¬ (decide (97 ≤ c.toNat) && decide (c.toNat ≤ 122)) = true := by simp; omega
              by_cases h2 : 65 ≤ c.toNat ∧ c.toNat ≤ 90
              · have t1 : decide (97 ≤ ((s[k]'hkn).toNat : Int)) = false := by rw [decide_eq_false_iff_not, hc]; omega
                have t3 : decide (65 ≤ ((s[k]'hkn).toNat : Int)) = true := by rw [decide_eq_true_iff, hc]; omega
                have t4 : decide (((s[k]'hkn).toNat : Int) ≤ 90) = true := by rw [decide_eq_true_iff, hc]; omega
                have hf : (Rl.fc c).toNat = c.toNat + 32 := by
                  have : Rl.fc c = c + 32 := by unfold Rl.fc; rw [if_neg hno, if_pos (by simp; exact h2)]
                  rw [this, UInt8.toNat_add]
                  show (c.toNat + 32) % 256 = _
                  omega
                have hz : IntKind.u8.wrap (((s[k]'hkn).toNat : Int) + 32) = ((Rl.fc c).toNat : Int) := by rw [hc, hf]; simp [IntKind.wrap, IntKind.bits, IntKind.signed]; omega
                have h32 : c.toNat ≠ 32 := by omega
                have hlast := hid (HE.out _ (u ++ ⟨#[Rl.fc c]⟩) hgA.out (by simp only [ByteArray.data_append, Array.toList_append, Rl.flip, if_neg h32]; rfl))
                clear h1 h2 hf h32 HE hc n1 n2 hno
                go_wp2_with fail
                first | exact hlast.out | (rw [HWK.out]; exact hlast.out)
              · have hfe : Rl.fc c = c := by unfold Rl.fc; rw [if_neg hno, if_neg (by simp; omega)]
                have cv2 : (convert 49 9 (.slice (some ⟨wr.heap.size, 0, none⟩) 1 1)).run Try.prog (wr.alloc (.cells #[.int .u8 ((s[k]'hkn).toNat : Int)] 5)) = .ok (.string ⟨#[c]⟩) (wr.alloc (.cells #[.int .u8 ((s[k]'hkn).toNat : Int)] 5)) := by rw [hc]; rw [hfe] at cv; exact cv
                have hgB := hid ((Gr.refl wr).alloc (.cells #[.int .u8 ((s[k]'hkn).toNat : Int)] 5))
                clear cv hgA
                have key : ∀ a b : Prop, True := fun _ _ => trivial
                by_cases h32 : c.toNat = 32
                · have t1 : decide (97 ≤ ((s[k]'hkn).toNat : Int)) = false := by rw [decide_eq_false_iff_not, hc]; omega
                  have t3 : decide (65 ≤ ((s[k]'hkn).toNat : Int)) = false := by rw [decide_eq_false_iff_not, hc]; omega
                  have t5 : (((s[k]'hkn).toNat : Int) == 32) = true := by rw [hc, h32]; rfl
                  have hlast := hid (HE.out _ (u ++ ⟨#[10]⟩ ++ ⟨#[c]⟩) hgB.out (by simp only [ByteArray.data_append, Array.toList_append, Rl.flip, if_pos h32, hfe, List.append_assoc]; rfl))
                  clear h1 h2 hfe h32 HE hc n1 n2 hno key
                  go_wp2_with fail
                  first | exact hlast.out | (rw [HWK.out]; exact hlast.out)
                · have t5 : (((s[k]'hkn).toNat : Int) == 32) = false := by rw [hc]; simp; omega
                  have hlast := hid (HE.out _ (u ++ ⟨#[c]⟩) hgB.out (by simp only [ByteArray.data_append, Array.toList_append, Rl.flip, if_neg h32, hfe]; rfl))
                  by_cases h97 : 97 ≤ c.toNat
                  · have t1 : decide (97 ≤ ((s[k]'hkn).toNat : Int)) = true := by rw [decide_eq_true_iff, hc]; omega
                    have t2 : decide (((s[k]'hkn).toNat : Int) ≤ 122) = false := by rw [decide_eq_false_iff_not, hc]; omega
                    have t3 : decide (65 ≤ ((s[k]'hkn).toNat : Int)) = true := by rw [decide_eq_true_iff, hc]; omega
                    have t4 : decide (((s[k]'hkn).toNat : Int) ≤ 90) = false := by rw [decide_eq_false_iff_not, hc]; omega
                    clear h1 h2 hfe h32 HE hc n1 n2 hno key h97
                    go_wp2_with fail
                    first | exact hlast.out | (rw [HWK.out]; exact hlast.out)
                  · have t1 : decide (97 ≤ ((s[k]'hkn).toNat : Int)) = false := by rw [decide_eq_false_iff_not, hc]; omega
                    by_cases h65 : 65 ≤ c.toNat
                    · have t3 : decide (65 ≤ ((s[k]'hkn).toNat : Int)) = true := by rw [decide_eq_true_iff, hc]; omega
                      have t4 : decide (((s[k]'hkn).toNat : Int) ≤ 90) = false := by rw [decide_eq_false_iff_not, hc]; omega
                      clear h1 h2 hfe h32 HE hc n1 n2 hno key h97 h65
                      go_wp2_with fail
                      first | exact hlast.out | (rw [HWK.out]; exact hlast.out)
                    · have t3 : decide (65 ≤ ((s[k]'hkn).toNat : Int)) = false := by rw [decide_eq_false_iff_not, hc]; omega
                      clear h1 h2 hfe h32 HE hc n1 n2 hno key h97 h65
                      go_wp2_with fail
                      first | exact hlast.out | (rw [HWK.out]; exact hlast.out)
          · have t0 : decide ((k : Int) < (s.size : Int)) = false := nlt_dec _ _ hkn
            obtain rfl : k = s.size := by omega
            have hu2 : u.data.toList = Rl.flip s.data.toList := by rw [hu, List.take_of_length_le (by rw [HSL.out]; exact Nat.le_refl _)]
            have LAW := hid (Rl.case_law s u HCL.out hz hu2)
            have S1 := hid (pstm_any s wr (by unfold maxLen; omega) m ((hg).keep HM.out))
            have S2 : Hid (∀ W, Gr wr W → Calls Try.prog 8 #[.string (⟨#[32]⟩ ++ u ++ ⟨#[32, 59, 32]⟩)] W (StmtP (⟨#[32]⟩ ++ u ++ ⟨#[32, 59, 32]⟩) W)) := hid (fun W h => pstm_any _ W (by unfold maxLen; rw [ByteArray.size_append, ByteArray.size_append]; show 1 + _ + 3 ≤ _; omega) m ((hg.trans h).keep HM.out))
            have HAW := hid (fun W (h : Gr wr W) => awake_any W m ((hg.trans h).keep HM.out))
            have HYW : Hid (∀ e w', e = .returned (.bool true) ∧ Gr wr w' → Q e w') := hid (fun e w' h => HY.out e w' ⟨h.1, hg.trans h.2⟩)
            have b1 : ¬ (9223372036854775807 < 1 + u.size) := by omega
            have b2 : ¬ (9223372036854775807 < 1 + u.size + 3) := by omega
            clear hu hu2 hk hfl hus hg HY HA HCL HSL HM hz
            rcases LAW.out with ⟨x, l, d, l', d', e1, e2⟩ | ⟨ee, a, a', e1, e2⟩
            · go_wp2_with fail
              refine S1.out.mono ?_
              rintro e w1 he
              obtain ⟨hg1, r1, rfl, hat1⟩ := stmtP_ok he e1
              clear he e1 S1
              have HAL : Hid ((w1.alloc (.cells zeroS.toArray 35)).heap[w1.heap.size]? = some (.cells zeroS.toArray 35 (0, 0))) := hid (alloc_at _ _)
              have HGw1 := hid hg1
              clear hg1
              unfold SR.val
              go_wp2_with (guard_target =~ wpList _ _ _ (Oper.mk _ (Op.store 35 _ _) _ _ _ _ :: _) _ _; refine st_row (ty := 35) rfl rfl w1.heap.size (SR.cs r1).toArray rfl rfl 35 _ HAL.out (by kernel_rfl) rfl (by kernel_rfl) ?_; intro W1 hW1 gW1 zW1)
              have HG1 : Hid (Gr wr W1) := hid (gr_box HGw1.out rfl gW1)
              have HB1 := hid hW1
              have HX1 : Hid (StmAt (Nw wr) W1 x r1) := hid (hat1.of (gr_box1 gW1).size (fun b _ hb => (gr_box1 gW1).block b hb))
              clear HAL hW1 gW1 zW1 HGw1 hat1
              refine (S2.out W1 HG1.out).mono ?_
              rintro e w2 he
              obtain ⟨hg2, r2, rfl, hat2⟩ := stmtP_ok he e2
              clear he e2 S2
              have HAL : Hid ((w2.alloc (.cells zeroS.toArray 35)).heap[w2.heap.size]? = some (.cells zeroS.toArray 35 (0, 0))) := hid (alloc_at _ _)
              have HFF : Hid (∀ W2, W2.heap[w2.heap.size]? = some (.cells (SR.cs r2).toArray 35 (0, 0)) → Go1 w2.heap.size (w2.alloc (.cells zeroS.toArray 35)) W2 → Gr wr W2 ∧ W2.heap[w1.heap.size]? = some (.cells (SR.cs r1).toArray 35 (0, 0)) ∧ Calls Try.prog 11 #[SR.val r1, SR.val r2] W2 (Tru W2)) := hid (fun W2 h2 hg9 => by
                have hb := (gr_box1 hg9)
                have hT := hg2.trans hb
                refine ⟨HG1.out.trans hT, (hT.block _ (Array.getElem?_eq_some_iff.1 HB1.out).1).trans HB1.out, ?_⟩
                · exact samestmt_any x _ _ (Nw wr) (Nw W1) W2 (HX1.out.of hT.size (fun b _ hb => hT.block b hb)) (hat2.of hb.size (fun b _ hl => hb.block b hl)))
              unfold SR.val
              clear hg2 hat2 HX1 HB1
              go_wp2_with (first | (guard_target =~ wpList _ _ _ (Oper.mk _ (Op.store 35 _ _) _ _ _ _ :: _) _ _; refine st_row (ty := 35) rfl rfl w2.heap.size (SR.cs r2).toArray rfl rfl 35 _ HAL.out (by kernel_rfl) rfl (by kernel_rfl) ?_; intro W2 hW2 gW2 zW2; obtain ⟨hgr2, hA1, hcall⟩ := HFF.out W2 hW2 gW2; have HG2 := hid hgr2; have HCA := hid hcall; have cA := hid hA1; have cB := hid hW2; clear HFF hW2 gW2 zW2 hgr2 hcall hA1 HAL) | (guard_target =~ wpList _ _ _ (Oper.mk _ (Op.load 35 _) _ _ _ _ :: _) _ _; refine load_row_g (by rfl) 35 _ rfl w1.heap.size rfl 35 (SR.cs r1).toArray (0, 0) _ cA.out Try.underlying35 rfl (by kernel_rfl) ?_) | (guard_target =~ wpList _ _ _ (Oper.mk _ (Op.load 35 _) _ _ _ _ :: _) _ _; refine load_row_g (by rfl) 35 _ rfl w2.heap.size rfl 35 (SR.cs r2).toArray (0, 0) _ cB.out Try.underlying35 rfl (by kernel_rfl) ?_))
              unfold SR.val at HCA
              refine HCA.out.mono ?_
              rintro e w3 ⟨rfl, hg3⟩
              have HG3 := hid (HG2.out.trans hg3)
              clear hg3 HCA HG2 cA cB
              go_wp2_with fail
              refine (HAW.out w3 HG3.out).mono ?_
              rintro e w4 ⟨rfl, hg4⟩
              have HQ := hid (HYW.out _ _ ⟨rfl, HG3.out.trans hg4⟩)
              clear hg4 HAW HG3 HYW
              go_wp2
              first | exact HQ.out | (go_ret; exact HQ.out) | (go_ret3; exact HQ.out)
            · exact absurd e1 (by rw [hok]; intro h; cases h)
set_option maxHeartbeats 16000000 in
set_option maxRecDepth 100000 in
theorem case_bad (s : ByteArray) (hcl : Rl.clean s.data.toList) (hshort : s.size ≤ 1000) (x0 : Int) (a0 : Nat) (hbad : (stmT s).2 = .bad x0 a0) (hs : s.size ≤ 140737488355328) (w : World) (m : Int) (hm : w.cell? ⟨0, 0, none⟩ = some (.int .i64 m)) : Calls Try.prog 6 #[.string s] w (Yes w) := by
  have hcln : ∀ j (h : j < s.size), (s[j]'h).toNat ≠ 39 ∧ (s[j]'h).toNat ≠ 45 ∧ (s[j]'h).toNat ≠ 59 := fun j h => hcl _ (by show s.data[j] ∈ s.data.toList; simp)
  have HCLN := hid hcln
  clear hcln
  have HY : Hid (∀ e w', e = .returned (.bool true) ∧ Gr w w' → Yes w e w') := hid (fun e w' h => h)
  generalize Yes w = Q at *
  have HM := hid hm
  have HA := hid (awake_any w m hm)
  clear hm
  go_enter Try.func6, Try.ntmps6
  go_wp2_with fail
  go_loopw [3] (fun s3 wr => wr = w ∧ ∃ k : Nat, s3 = .int .i64 (k : Int) ∧ k ≤ s.size ∧ ∀ j (h : j < s.size), j < k → (s[j]'h).toNat ≠ 39 ∧ (s[j]'h).toNat ≠ 45 ∧ (s[j]'h).toNat ≠ 59) (fun s3 _ => s.size - (intOf s3).toNat)
  · exact ⟨rfl, 0, rfl, Nat.zero_le _, fun j h h0 => absurd h0 (Nat.not_lt_zero _)⟩
  · obtain ⟨hwr, k, rfl, hk, hall⟩ := hrel
    subst hwr
    by_cases hkn : k < s.size
    · have t0 : decide ((k : Int) < (s.size : Int)) = true := lt_dec _ _ hkn
      have hwk : wrap64 ((k : Int) + 1) = (k : Int) + 1 := by unfold wrap64; omega
      have hms := hid (meas_step _ k hkn)
      have hni := hid (next_int k)
      have HALL := hid hall
      clear hall hk
      by_cases h39 : (s[k]'hkn).toNat = 39
      · exact absurd h39 (HCLN.out k hkn).1
      by_cases h45 : (s[k]'hkn).toNat = 45
      · exact absurd h45 (HCLN.out k hkn).2.1
      by_cases h59 : (s[k]'hkn).toNat = 59
      · exact absurd h59 (HCLN.out k hkn).2.2
      have t1 : (((s[k]'hkn).toNat : Int) == 39) = false := by simp; omega
      have t2 : (((s[k]'hkn).toNat : Int) == 45) = false := by simp; omega
      have t3 : (((s[k]'hkn).toNat : Int) == 59) = false := by simp; omega
      have HN : Hid (∀ j (h : j < s.size), j < k + 1 → (s[j]'h).toNat ≠ 39 ∧ (s[j]'h).toNat ≠ 45 ∧ (s[j]'h).toNat ≠ 59) := hid (fun j h hj => by
        by_cases e : j = k
        · subst e; exact ⟨h39, h45, h59⟩
        · exact HALL.out j h (by omega))
      clear h39 h45 h59
      go_wp2_with fail
      exact ⟨⟨trivial, k + 1, hni.out, hkn, HN.out⟩, hms.out⟩
    · have t0 : decide ((k : Int) < (s.size : Int)) = false := nlt_dec _ _ hkn
      obtain rfl : k = s.size := by omega
      have hsl : s.data.toList.length = s.size := by rw [Array.length_toList]; rfl
      have HCL : Hid (Rl.clean s.data.toList) := hid (fun c hc => by
        obtain ⟨j, hj, rfl⟩ := List.getElem_of_mem hc
        have := hall j (by omega) (by omega)
        rw [Array.getElem_toList]
        exact this)
      have HSL := hid hsl
      clear hall hsl hk
      by_cases h1 : 1000 < s.size
      · omega
      · have t1 : decide (1000 < (s.size : Int)) = false := by rw [decide_eq_false_iff_not]; omega
        have hz : s.size ≤ 1000 := by omega
        go_wp2_with fail
        obtain ⟨w9, hw9⟩ : ∃ w9, w9 = wr := ⟨_, rfl⟩
        subst hw9
        clear t0 hkn t1 h1
        go_loopw [4, 5] (fun s4 s5 wq => ∃ (k : Nat) (u : ByteArray), s4 = .string u ∧ s5 = .int .i64 (k : Int) ∧ k ≤ s.size ∧ u.data.toList = Rl.flip (s.data.toList.take k) ∧ Gr w9 wq) (fun s4 s5 _ => s.size - (intOf s5).toNat)
        · exact ⟨0, ⟨#[]⟩, rfl, rfl, Nat.zero_le _, rfl, Gr.refl _⟩
        · obtain ⟨k, u, rfl, rfl, hk, hu, hg⟩ := hrel
          have hfl := Rl.flip_len (s.data.toList.take k)
          have hus : u.size ≤ 2000 := by
            have e1 : u.size = u.data.toList.length := by rw [Array.length_toList]; rfl
            have e2 : (s.data.toList.take k).length ≤ k := by rw [List.length_take]; omega
            rw [e1, hu]
            omega
          by_cases hkn : k < s.size
          · have t0 : decide ((k : Int) < (s.size : Int)) = true := lt_dec _ _ hkn
            have hwk : wrap64 ((k : Int) + 1) = (k : Int) + 1 := by unfold wrap64; omega
            have HWK := hid hwk
            obtain ⟨c, hc⟩ : ∃ c, (s[k]'hkn) = c := ⟨_, rfl⟩
            have hck : s.data.toList.take (k + 1) = s.data.toList.take k ++ [c] := by
              rw [take_snoc _ k (by rw [HSL.out]; exact hkn)]
              rw [← hc, Array.getElem_toList]
              rfl
            have HE : Hid (∀ W (v : ByteArray), Gr wr W → v.data.toList = u.data.toList ++ Rl.flip [c] → (∃ (k' : Nat) (u' : ByteArray), Value.string v = .string u' ∧ Value.int .i64 ((k : Int) + 1) = .int .i64 (k' : Int) ∧ k' ≤ s.size ∧ u'.data.toList = Rl.flip (s.data.toList.take k') ∧ Gr w9 W) ∧ s.size - (intOf (.int .i64 ((k : Int) + 1))).toNat < s.size - (intOf (.int .i64 (k : Int))).toNat) := hid (fun W v h hv => ⟨⟨k + 1, v, rfl, next_int k, hkn, by rw [hv, hu, hck, flip_append], hg.trans h⟩, meas_step _ _ hkn⟩)
            have b1 : ¬ (9223372036854775807 < u.size + 1) := by omega
            have b2 : ¬ (9223372036854775807 < u.size + 1 + 1) := by omega
            have cv : (convert 49 9 (.slice (some ⟨wr.heap.size, 0, none⟩) 1 1)).run Try.prog (wr.alloc (.cells #[.int .u8 ((Rl.fc c).toNat : Int)] 5)) = .ok (.string ⟨#[Rl.fc c]⟩) (wr.alloc (.cells #[.int .u8 ((Rl.fc c).toNat : Int)] 5)) := conv1 (Rl.fc c) _ _ (by rw [Rg.blk_cells (alloc_at _ _)]; rfl)
            have hgA := hid ((Gr.refl wr).alloc (.cells #[.int .u8 ((Rl.fc c).toNat : Int)] 5))
            clear hk hu hg hck hfl hus
            have HC := hid hc
            by_cases h1 : 97 ≤ c.toNat ∧ c.toNat ≤ 122
            · have t1 : decide (97 ≤ ((s[k]'hkn).toNat : Int)) = true := by rw [decide_eq_true_iff, hc]; omega
              have t2 : decide (((s[k]'hkn).toNat : Int) ≤ 122) = true := by rw [decide_eq_true_iff, hc]; omega
              have hf : (Rl.fc c).toNat = c.toNat - 32 := by
                have : Rl.fc c = c - 32 := by unfold Rl.fc; rw [if_pos (by simp; exact h1)]
                rw [this]
                rw [UInt8.toNat_sub_of_le _ _ (by show (32 : UInt8).toNat ≤ c.toNat; show 32 ≤ _; omega)]
                rfl
              have hz : IntKind.u8.wrap (((s[k]'hkn).toNat : Int) - 32) = ((Rl.fc c).toNat : Int) := by rw [hc, hf]; simp [IntKind.wrap, IntKind.bits, IntKind.signed]; omega
              have h32 : c.toNat ≠ 32 := by omega
              have hlast := hid (HE.out _ (u ++ ⟨#[Rl.fc c]⟩) hgA.out (by simp only [ByteArray.data_append, Array.toList_append, Rl.flip, if_neg h32]; rfl))
              clear h1 hf h32 HE hc
              go_wp2_with fail
              first | exact hlast.out | (rw [HWK.out]; exact hlast.out)
            · have n1 : decide (97 ≤ ((s[k]'hkn).toNat : Int)) = decide (97 ≤ c.toNat) := by rw [hc]; rw [decide_eq_decide]; omega
              have n2 : decide (((s[k]'hkn).toNat : Int) ≤ 122) = decide (c.toNat ≤ 122) := by rw [hc]; rw [decide_eq_decide]; omega
              have hno : ¬ (decide (97 ≤ c.toNat) && decide (c.toNat ≤ 122)) = true := by simp; omega
              by_cases h2 : 65 ≤ c.toNat ∧ c.toNat ≤ 90
              · have t1 : decide (97 ≤ ((s[k]'hkn).toNat : Int)) = false := by rw [decide_eq_false_iff_not, hc]; omega
                have t3 : decide (65 ≤ ((s[k]'hkn).toNat : Int)) = true := by rw [decide_eq_true_iff, hc]; omega
                have t4 : decide (((s[k]'hkn).toNat : Int) ≤ 90) = true := by rw [decide_eq_true_iff, hc]; omega
                have hf : (Rl.fc c).toNat = c.toNat + 32 := by
                  have : Rl.fc c = c + 32 := by unfold Rl.fc; rw [if_neg hno, if_pos (by simp; exact h2)]
                  rw [this, UInt8.toNat_add]
                  show (c.toNat + 32) % 256 = _
                  omega
                have hz : IntKind.u8.wrap (((s[k]'hkn).toNat : Int) + 32) = ((Rl.fc c).toNat : Int) := by rw [hc, hf]; simp [IntKind.wrap, IntKind.bits, IntKind.signed]; omega
                have h32 : c.toNat ≠ 32 := by omega
                have hlast := hid (HE.out _ (u ++ ⟨#[Rl.fc c]⟩) hgA.out (by simp only [ByteArray.data_append, Array.toList_append, Rl.flip, if_neg h32]; rfl))
                clear h1 h2 hf h32 HE hc n1 n2 hno
                go_wp2_with fail
                first | exact hlast.out | (rw [HWK.out]; exact hlast.out)
              · have hfe : Rl.fc c = c := by unfold Rl.fc; rw [if_neg hno, if_neg (by simp; omega)]
                have cv2 : (convert 49 9 (.slice (some ⟨wr.heap.size, 0, none⟩) 1 1)).run Try.prog (wr.alloc (.cells #[.int .u8 ((s[k]'hkn).toNat : Int)] 5)) = .ok (.string ⟨#[c]⟩) (wr.alloc (.cells #[.int .u8 ((s[k]'hkn).toNat : Int)] 5)) := by rw [hc]; rw [hfe] at cv; exact cv
                have hgB := hid ((Gr.refl wr).alloc (.cells #[.int .u8 ((s[k]'hkn).toNat : Int)] 5))
                clear cv hgA
                have key : ∀ a b : Prop, True := fun _ _ => trivial
                by_cases h32 : c.toNat = 32
                · have t1 : decide (97 ≤ ((s[k]'hkn).toNat : Int)) = false := by rw [decide_eq_false_iff_not, hc]; omega
                  have t3 : decide (65 ≤ ((s[k]'hkn).toNat : Int)) = false := by rw [decide_eq_false_iff_not, hc]; omega
                  have t5 : (((s[k]'hkn).toNat : Int) == 32) = true := by rw [hc, h32]; rfl
                  have hlast := hid (HE.out _ (u ++ ⟨#[10]⟩ ++ ⟨#[c]⟩) hgB.out (by simp only [ByteArray.data_append, Array.toList_append, Rl.flip, if_pos h32, hfe, List.append_assoc]; rfl))
                  clear h1 h2 hfe h32 HE hc n1 n2 hno key
                  go_wp2_with fail
                  first | exact hlast.out | (rw [HWK.out]; exact hlast.out)
                · have t5 : (((s[k]'hkn).toNat : Int) == 32) = false := by rw [hc]; simp; omega
                  have hlast := hid (HE.out _ (u ++ ⟨#[c]⟩) hgB.out (by simp only [ByteArray.data_append, Array.toList_append, Rl.flip, if_neg h32, hfe]; rfl))
                  by_cases h97 : 97 ≤ c.toNat
                  · have t1 : decide (97 ≤ ((s[k]'hkn).toNat : Int)) = true := by rw [decide_eq_true_iff, hc]; omega
                    have t2 : decide (((s[k]'hkn).toNat : Int) ≤ 122) = false := by rw [decide_eq_false_iff_not, hc]; omega
                    have t3 : decide (65 ≤ ((s[k]'hkn).toNat : Int)) = true := by rw [decide_eq_true_iff, hc]; omega
                    have t4 : decide (((s[k]'hkn).toNat : Int) ≤ 90) = false := by rw [decide_eq_false_iff_not, hc]; omega
                    clear h1 h2 hfe h32 HE hc n1 n2 hno key h97
                    go_wp2_with fail
                    first | exact hlast.out | (rw [HWK.out]; exact hlast.out)
                  · have t1 : decide (97 ≤ ((s[k]'hkn).toNat : Int)) = false := by rw [decide_eq_false_iff_not, hc]; omega
                    by_cases h65 : 65 ≤ c.toNat
                    · have t3 : decide (65 ≤ ((s[k]'hkn).toNat : Int)) = true := by rw [decide_eq_true_iff, hc]; omega
                      have t4 : decide (((s[k]'hkn).toNat : Int) ≤ 90) = false := by rw [decide_eq_false_iff_not, hc]; omega
                      clear h1 h2 hfe h32 HE hc n1 n2 hno key h97 h65
                      go_wp2_with fail
                      first | exact hlast.out | (rw [HWK.out]; exact hlast.out)
                    · have t3 : decide (65 ≤ ((s[k]'hkn).toNat : Int)) = false := by rw [decide_eq_false_iff_not, hc]; omega
                      clear h1 h2 hfe h32 HE hc n1 n2 hno key h97 h65
                      go_wp2_with fail
                      first | exact hlast.out | (rw [HWK.out]; exact hlast.out)
          · have t0 : decide ((k : Int) < (s.size : Int)) = false := nlt_dec _ _ hkn
            obtain rfl : k = s.size := by omega
            have hu2 : u.data.toList = Rl.flip s.data.toList := by rw [hu, List.take_of_length_le (by rw [HSL.out]; exact Nat.le_refl _)]
            have LAW := hid (Rl.case_law s u HCL.out hz hu2)
            have S1 := hid (pstm_any s wr (by unfold maxLen; omega) m ((hg).keep HM.out))
            have S2 : Hid (∀ W, Gr wr W → Calls Try.prog 8 #[.string (⟨#[32]⟩ ++ u ++ ⟨#[32, 59, 32]⟩)] W (StmtP (⟨#[32]⟩ ++ u ++ ⟨#[32, 59, 32]⟩) W)) := hid (fun W h => pstm_any _ W (by unfold maxLen; rw [ByteArray.size_append, ByteArray.size_append]; show 1 + _ + 3 ≤ _; omega) m ((hg.trans h).keep HM.out))
            have HAW := hid (fun W (h : Gr wr W) => awake_any W m ((hg.trans h).keep HM.out))
            have HYW : Hid (∀ e w', e = .returned (.bool true) ∧ Gr wr w' → Q e w') := hid (fun e w' h => HY.out e w' ⟨h.1, hg.trans h.2⟩)
            have b1 : ¬ (9223372036854775807 < 1 + u.size) := by omega
            have b2 : ¬ (9223372036854775807 < 1 + u.size + 3) := by omega
            clear hu hu2 hk hfl hus hg HY HA HCL HSL HM hz
            rcases LAW.out with ⟨x, l, d, l', d', e1, e2⟩ | ⟨ee, a, a', e1, e2⟩
            · exact absurd hbad (by rw [e1]; intro h; cases h)
            · go_wp2_with fail
              refine S1.out.mono ?_
              rintro e w1 he
              obtain ⟨hg1, hne, rfl⟩ := stmtP_bad he e1
              clear he e1 S1
              have HAL : Hid ((w1.alloc (.cells zeroS.toArray 35)).heap[w1.heap.size]? = some (.cells zeroS.toArray 35 (0, 0))) := hid (alloc_at _ _)
              have HGw1 := hid hg1
              clear hg1
              unfold noS
              go_wp2_with (guard_target =~ wpList _ _ _ (Oper.mk _ (Op.store 35 _ _) _ _ _ _ :: _) _ _; refine st_row (ty := 35) rfl rfl w1.heap.size (SR.cs {}).toArray rfl rfl 35 _ HAL.out (by kernel_rfl) rfl (by kernel_rfl) ?_; intro W1 hW1 gW1 zW1)
              have HG1 : Hid (Gr wr W1) := hid (gr_box HGw1.out rfl gW1)
              have HB1 := hid hW1
              have HX1 : Hid (StmAt (Nw wr) W1 {} {}) := hid (StmAt.zero)
              clear HAL hW1 gW1 zW1 HGw1
              refine (S2.out W1 HG1.out).mono ?_
              rintro e w2 he
              obtain ⟨hg2, _, rfl⟩ := stmtP_bad he e2
              clear he e2 S2
              have HAL : Hid ((w2.alloc (.cells zeroS.toArray 35)).heap[w2.heap.size]? = some (.cells zeroS.toArray 35 (0, 0))) := hid (alloc_at _ _)
              have HFF : Hid (∀ W2, W2.heap[w2.heap.size]? = some (.cells (SR.cs {}).toArray 35 (0, 0)) → Go1 w2.heap.size (w2.alloc (.cells zeroS.toArray 35)) W2 → Gr wr W2 ∧ W2.heap[w1.heap.size]? = some (.cells (SR.cs {}).toArray 35 (0, 0)) ∧ Calls Try.prog 11 #[SR.val {}, SR.val {}] W2 (Tru W2)) := hid (fun W2 h2 hg9 => by
                have hb := (gr_box1 hg9)
                have hT := hg2.trans hb
                refine ⟨HG1.out.trans hT, (hT.block _ (Array.getElem?_eq_some_iff.1 HB1.out).1).trans HB1.out, ?_⟩
                · exact samestmt_any {} _ _ (Nw wr) (Nw wr) W2 StmAt.zero StmAt.zero)
              unfold noS
              clear hg2 HX1 HB1
              go_wp2_with (first | (guard_target =~ wpList _ _ _ (Oper.mk _ (Op.store 35 _ _) _ _ _ _ :: _) _ _; refine st_row (ty := 35) rfl rfl w2.heap.size (SR.cs {}).toArray rfl rfl 35 _ HAL.out (by kernel_rfl) rfl (by kernel_rfl) ?_; intro W2 hW2 gW2 zW2; obtain ⟨hgr2, hA1, hcall⟩ := HFF.out W2 hW2 gW2; have HG2 := hid hgr2; have HCA := hid hcall; have cA := hid hA1; have cB := hid hW2; clear HFF hW2 gW2 zW2 hgr2 hcall hA1 HAL) | (guard_target =~ wpList _ _ _ (Oper.mk _ (Op.load 35 _) _ _ _ _ :: _) _ _; refine load_row_g (by rfl) 35 _ rfl w1.heap.size rfl 35 (SR.cs {}).toArray (0, 0) _ cA.out Try.underlying35 rfl (by kernel_rfl) ?_) | (guard_target =~ wpList _ _ _ (Oper.mk _ (Op.load 35 _) _ _ _ _ :: _) _ _; refine load_row_g (by rfl) 35 _ rfl w2.heap.size rfl 35 (SR.cs {}).toArray (0, 0) _ cB.out Try.underlying35 rfl (by kernel_rfl) ?_))
              unfold SR.val at HCA
              refine HCA.out.mono ?_
              rintro e w3 ⟨rfl, hg3⟩
              have HG3 := hid (HG2.out.trans hg3)
              clear hg3 HCA HG2 cA cB
              go_wp2_with fail
              refine (HAW.out w3 HG3.out).mono ?_
              rintro e w4 ⟨rfl, hg4⟩
              have HQ := hid (HYW.out _ _ ⟨rfl, HG3.out.trans hg4⟩)
              clear hg4 HAW HG3 HYW
              go_wp2
              first | exact HQ.out | (go_ret; exact HQ.out) | (go_ret3; exact HQ.out)
theorem case_walk (s : ByteArray) (hs : s.size ≤ 140737488355328) (w : World) (m : Int) (hm : w.cell? ⟨0, 0, none⟩ = some (.int .i64 m)) : Calls Try.prog 6 #[.string s] w (Yes w) := by
  by_cases hcl : Rl.clean s.data.toList
  · by_cases hz : 1000 < s.size
    · exact case_long s hcl hz hs w m hm
    · cases hq : (stmT s).2 with
      | ok l d => exact case_ok s hcl (by omega) l d hq hs w m hm
      | bad x a => exact case_bad s hcl (by omega) x a hq hs w m hm
  · exact case_dirty s hcl hs w m hm
end Go.Proofs.Ytaogpifcfmjcbaa
end

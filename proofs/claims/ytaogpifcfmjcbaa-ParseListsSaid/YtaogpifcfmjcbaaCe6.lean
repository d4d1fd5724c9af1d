/- Texts of this claim, put together: walks of functions and plain laws, of no condition. -/
import Derived.Test.YtaogpifcfmjcbaaCe5
import Derived.ChangeSame
import Derived.ProofKit
import Derived.OpenShut
section
namespace Go.Proofs.Ytaogpifcfmjcbaa
open Go.RowKit
set_option linter.unusedSimpArgs false
set_option linter.unusedVariables false
attribute [local go_sem] Rg.leads_value Rg.leads_skip Rg.leads_enter Rg.brings_value Rg.brings_skip Rg.brings_enter Rg.bringsG_value Rg.bringsG_enter Rg.once_normal Rg.once_exit Rg.once_ret Rg.once_panic Rg.once_goto Rg.bringsS_value Rg.bringsS_skip Rg.bringsS_enter Rg.still_value Rg.still_skip Rg.still_enter
def stmT (t : ByteArray) : Stm × Ps := let q := stmS (readS t); (q.1, (q.2.may 4 ⟨#[59]⟩).2.over)
def noS : Value := .agg zeroS.toArray
def StmtP (t : ByteArray) (w : World) (e : Ending) (w' : World) : Prop := Gr w w' ∧ match (stmT t).2 with
  | .ok _ _ => ∃ r, e = .returned (.tuple #[SR.val r, .int .i64 0, .int .i64 0]) ∧ StmAt (Nw w) w' (stmT t).1 r
  | .bad x a => x ≠ 0 ∧ e = .returned (.tuple #[noS, .int .i64 x, .int .i64 (a : Int)])
theorem may_good2 {k : Nat} {c : ByteArray} {s : Ps} (h : (s.may k c).2.good = true) : s.good = true := by
  cases s with
  | ok l d => rfl
  | bad x a => exact h
theorem over_ok {s : Ps} {l : List Lx.Tok} {d : Nat} (h : s.over = .ok l d) : s = .ok l d ∧ (Ps.ok l d).headK = 5 := by
  unfold Ps.over at h
  split at h
  · rename_i h1
    refine ⟨h, ?_⟩
    rw [h] at h1
    rcases h1 with h1 | h1
    · exact h1
    · cases h1
  · cases s with
    | ok l' d' => cases l' <;> cases h
    | bad e a => cases h
theorem over_bad {s : Ps} {x : Int} {a : Nat} (h : s.over = .bad x a) (hs : ∀ e b, s = .bad e b → e ≠ 0) : x ≠ 0 := by
  unfold Ps.over at h
  split at h
  · exact hs _ _ h
  · cases s with
    | ok l' d' => cases l' <;> (cases h; decide)
    | bad e b => cases h; exact hs _ _ rfl
set_option maxRecDepth 100000 in
theorem res_stm {w : World} {g : Nat} {tmps : Array Value} {u3 u4 : Value} {cs : List Value} (hp : tmps.getD 2 undef = .pointer (some ⟨g, 0, none⟩)) (h3 : tmps.getD 3 undef = u3) (h4 : tmps.getD 4 undef = u4) (hg : w.heap[g]? = some (.cells cs.toArray 35 (0, 0))) (hi : (Try.prog.info? 35).map (·.size) = some cs.toArray.size) :
    (results Try.f8 tmps).run Try.prog w = .ok (.tuple #[.agg cs.toArray, u3, u4]) w := by
  have hp' : tmps[2]?.getD undef = .pointer (some ⟨g, 0, none⟩) := by simpa using hp
  have h3' : tmps[3]?.getD undef = u3 := by simpa using h3
  have h4' : tmps[4]?.getD undef = u4 := by simpa using h4
  have h := run_loadVar_row (P := Try.prog) w g 35 35 cs.toArray (0, 0) _ hg Try.underlying35 rfl hi
  simp [results, Try.results8, hp', h3', h4', asAddr, h]
set_option maxHeartbeats 8000000 in
set_option maxRecDepth 100000 in
theorem pstm_bad (t : ByteArray) (w : World) (x : Int) (a : Nat) (hr : readS t = .bad x a) (HB : Calls Try.prog 13 #[.string t] (w.alloc (.cells zeroS.toArray 35)) (BeginP t (w.alloc (.cells zeroS.toArray 35)))) : Calls Try.prog 8 #[.string t] w (StmtP t w) := by
  have e2 : (stmT t).2 = .bad x a := by
    unfold stmT
    rw [hr]
    rfl
  have HX : x ≠ 0 → Hid (∀ w', Gr w w' → StmtP t w (.returned (.tuple #[noS, .int .i64 x, .int .i64 (a : Int)])) w') := fun hx => hid (fun w' h => ⟨h, by rw [e2]; exact ⟨hx, rfl⟩⟩)
  generalize StmtP t w = Q at *
  unfold BeginP at HB
  rw [hr] at HB
  clear e2 hr
  have HA0 : Hid (Gr w (w.alloc (.cells zeroS.toArray 35))) := hid ((Gr.refl w).alloc _)
  have HZ0 : Hid ((w.alloc (.cells zeroS.toArray 35)).heap[w.heap.size]? = some (.cells zeroS.toArray 35 (0, 0))) := hid (alloc_at _ _)
  go_enter Try.func8, Try.ntmps8
  go_wp2_with fail
  refine HB.mono ?_
  rintro e w1 ⟨hg, hx, rfl⟩
  have H0 := hid ((hg.block _ (Array.getElem?_eq_some_iff.1 HZ0.out).1).trans HZ0.out)
  have q1 : (x != 0) = true := by simpa using hx
  have HF : Hid (∀ W9, Go1 w.heap.size w1 W9 → Q (.returned (.tuple #[noS, .int .i64 x, .int .i64 (a : Int)])) W9) := hid (fun W9 h9 => (HX hx).out W9 ((HA0.out.trans hg).grown h9 (fun g e => by cases e; exact Nat.le_refl _)))
  clear hg HX HB
  go_wp2_with (guard_target =~ wpList _ _ _ (Oper.mk _ (Op.store 35 _ _) _ _ _ _ :: _) _ _; refine st_row (ty := 35) rfl rfl w.heap.size (zeroS).toArray rfl rfl 35 _ H0.out (by kernel_rfl) rfl (by kernel_rfl) ?_; intro W9 hW9 gW9 zW9)
  (try change bodyPost _ _ _ _ _ _)
  refine bodyPost_ret (v := .tuple #[noS, .int .i64 x, .int .i64 (a : Int)]) (res_stm rfl rfl rfl hW9 (by kernel_rfl)) rfl (HF.out W9 gW9)
set_option maxHeartbeats 8000000 in
set_option maxRecDepth 100000 in
theorem pstm_good (t : ByteArray) (w : World) (l0 : List Lx.Tok) (hr : readS t = .ok l0 0) (hl0 : l0.length ≤ 4097) (l : List Lx.Tok) (d : Nat) (hq : ((stmS (readS t)).2.may 4 ⟨#[59]⟩).2 = .ok l d) (h5 : (Ps.ok l d).headK = 5)
    (HB : Calls Try.prog 13 #[.string t] (w.alloc (.cells zeroS.toArray 35)) (BeginP t (w.alloc (.cells zeroS.toArray 35)))) : Calls Try.prog 8 #[.string t] w (StmtP t w) := by
  have e2 : stmT t = ((stmS (readS t)).1, .ok l d) := by
    unfold stmT
    simp only
    rw [hq]
    unfold Ps.over
    rw [if_pos (.inl h5)]
  have HX : Hid (∀ w' r, Gr w w' → StmAt (Nw w) w' (stmS (readS t)).1 r → StmtP t w (.returned (.tuple #[SR.val r, .int .i64 0, .int .i64 0])) w') := hid (fun w' r h hx => ⟨h, by rw [e2]; exact ⟨r, rfl, hx⟩⟩)
  generalize StmtP t w = Q at *
  rw [hr] at hq HX
  have hsz : (Ps.ok l0 0).size ≤ 900000 := by show l0.length ≤ _; omega
  have HST := hid (fun p w' (h : PS p w' (.ok l0 0)) => statement_any p _ w' h hsz)
  unfold BeginP at HB
  rw [hr] at HB
  clear e2 hr hsz hl0
  generalize stmS (.ok l0 0) = R at *
  have hRg : R.2.good = true := may_good2 (by rw [hq]; rfl)
  have HA0 : Hid (Gr w (w.alloc (.cells zeroS.toArray 35))) := hid ((Gr.refl w).alloc _)
  have HZ0 : Hid ((w.alloc (.cells zeroS.toArray 35)).heap[w.heap.size]? = some (.cells zeroS.toArray 35 (0, 0))) := hid (alloc_at _ _)
  go_enter Try.func8, Try.ntmps8
  go_wp2_with fail
  refine HB.mono ?_
  rintro e w1 ⟨hg, _, _, _, p, hpw, rfl, hps⟩
  clear HB
  have hlt0 := (Array.getElem?_eq_some_iff.1 HZ0.out).1
  have hpw0 : w.heap.size < p := by omega
  have hH1 : w1.heap[w.heap.size]? = some (.cells zeroS.toArray 35 (0, 0)) := (hg.block _ hlt0).trans HZ0.out
  have hG1 : Gr w w1 := HA0.out.trans hg
  have hz1 := hps.lt
  clear HA0 HZ0 hlt0 hpw
  have HPS := hid hps
  have HG1 := hid hG1
  have HH1 := hid hH1
  clear hps hg hG1 hH1
  go_wp2_with fail
  refine (HST.out p w1 HPS.out).mono ?_
  rintro e w2 ⟨u, rfl, r, y, rfl, hy, hps2, hgo2, hgd⟩
  have hz2 := hgo2.size
  have hp2 := hps2.lt
  have hG2 : Gr w w2 := Go1.up HG1.out hgo2 (by omega)
  have hH2 : w2.heap[w.heap.size]? = some (.cells zeroS.toArray 35 (0, 0)) := (hgo2.get (by omega) (by omega)).trans HH1.out
  have hA := (Gr.refl w2).alloc (.cells zeroS.toArray 35)
  have HAL : Hid ((w2.alloc (.cells zeroS.toArray 35)).heap[w2.heap.size]? = some (.cells zeroS.toArray 35 (0, 0))) := hid (alloc_at _ _)
  have HP3 : Hid (∀ W3, Go1 w2.heap.size (w2.alloc (.cells zeroS.toArray 35)) W3 → PS p W3 R.2) := hid (fun W3 h3 => (hps2.keep hA).go h3 hp2)
  have HG3 : Hid (∀ W3, Go1 w2.heap.size (w2.alloc (.cells zeroS.toArray 35)) W3 → Gr w W3 ∧ W3.heap[w.heap.size]? = some (.cells zeroS.toArray 35 (0, 0)) ∧ StmAt (fun b => w1.heap.size ≤ b ∧ b < w2.heap.size) W3 y r) := hid (fun W3 h3 => by
    refine ⟨(hG2.trans hA).grown h3 (fun g e => by cases e; have := hG2.size; omega), ?_, ?_⟩
    · rw [h3.get (by simp; omega) (by omega), hA.block _ (by omega)]; exact hH2
    · have h1 := (hy.mono (S' := fun b => w1.heap.size ≤ b ∧ b < w2.heap.size) (fun b hl hs => ⟨hs, hl⟩)).of hA.size (fun b _ hl => hA.block b hl)
      exact h1.of h3.size (fun b hb hl => h3.get hl (by have := hb.2; omega)))
  have HGD := hid hgd
  clear hy hps2 hgo2 hgd hG2 hH2 hA HPS HG1 HH1 HST
  unfold SR.val
  go_wp2_with (guard_target =~ wpList _ _ _ (Oper.mk _ (Op.store 35 _ _) _ _ _ _ :: _) _ _; refine st_row (ty := 35) rfl rfl w2.heap.size (SR.cs r).toArray rfl rfl 35 _ HAL.out (by kernel_rfl) rfl (by kernel_rfl) ?_; intro W3 hW3 gW3 zW3)
  obtain ⟨hG3, hH3, hy3⟩ := HG3.out W3 gW3
  have hps3 := HP3.out W3 gW3
  clear HG3 HP3 gW3 HAL
  have HY := hid hy3
  have HBX := hid hW3
  have HG3 := hid hG3
  have HH3 := hid hH3
  clear hy3 hW3 hG3 hH3
  refine (sign_any' p ⟨#[59]⟩ R.2 W3 hps3).mono ?_
  rintro e w4 ⟨rfl, hps4, hgo4⟩
  clear hps3
  have hz4 := hgo4.size
  have hGr4 : Gr w w4 := Go1.up HG3.out hgo4 (by omega)
  have hB4 : w4.heap[w2.heap.size]? = some (.cells (SR.cs r).toArray 35 (0, 0)) := (hgo4.get (by have := (Array.getElem?_eq_some_iff.1 HBX.out).1; exact this) (by omega)).trans HBX.out
  have hH4 : w4.heap[w.heap.size]? = some (.cells zeroS.toArray 35 (0, 0)) := (hgo4.get (Array.getElem?_eq_some_iff.1 HH3.out).1 (by omega)).trans HH3.out
  have hY4 : StmAt (fun b => w1.heap.size ≤ b ∧ b < w2.heap.size) w4 y r := HY.out.of hgo4.size (fun b hb hl => hgo4.get hl (by have := hb.1; omega))
  clear HG3 HBX HH3 HY hgo4
  rw [hq] at hps4
  have hyy : y = R.1 := HGD.out hRg
  subst hyy
  obtain ⟨b, off, n, c, tk, hn1, hnc, hbl, p0, p2, p3, b0, htk⟩ := tok_head hps4.2
  have htk5 : tk = 5 := by
    cases l with
    | nil => exact hps4.2.nil.elim
    | cons t0 r0 => rw [← htk t0 r0 rfl]; exact h5
  have q5 : ((tk : Int) != 5) = false := by rw [htk5]; rfl
  have g2 : (0 : Int) < (n : Int) := by omega
  have HCL := hid (clip_stm R.1 r (fun b => w1.heap.size ≤ b ∧ b < w2.heap.size) w4 hY4)
  have HB4 := hid hB4
  have H04 : Hid (∀ W, Cl (fun b => w1.heap.size ≤ b ∧ b < w2.heap.size) w4 W → W.heap[w.heap.size]? = some (.cells zeroS.toArray 35 (0, 0))) := hid (fun W h => (h.block _ (Array.getElem?_eq_some_iff.1 hH4).1 (fun hh => by have := hh.1; omega)).trans hH4)
  have FI : Hid (∀ W W9, Cl (fun b => w1.heap.size ≤ b ∧ b < w2.heap.size) w4 W → Go1 w.heap.size W W9 → Q (.returned (.tuple #[SR.val r.c3, .int .i64 0, .int .i64 0])) W9) := hid (fun W W9 h4 h9 => by
    have g4 : Gr w W := h4.gr hGr4 (fun b hb => by have := hb.1; omega)
    refine HX.out W9 _ (g4.grown h9 (fun g e => by cases e; exact Nat.le_refl _)) ?_
    have h1 := hY4.cl h4 (SR.c3_like hY4)
    exact (h1.of h9.size (fun b hb hl => h9.get hl (by have := hb.1; omega))).mono (fun b _ hb => by have := hb.1; show w.heap.size ≤ b; omega))
  clear hps4 hGr4 hB4 hH4 hY4 HX HGD htk htk5 h5 hq hRg
  go_wp2_with (guard_target =~ wpList _ _ _ (Oper.mk _ (Op.load 35 _) _ _ _ _ :: _) _ _; refine wpList_load_row rfl 35 _ rfl w2.heap.size rfl 35 (SR.cs r).toArray (0, 0) _ HB4.out Try.underlying35 rfl (by kernel_rfl) ?_)
  refine HCL.out.mono ?_
  rintro e w5 ⟨rfl, h45⟩
  have H0 := hid (H04.out w5 h45)
  have HF := hid (fun W9 h9 => FI.out w5 W9 h45 h9)
  clear h45 FI H04 HCL HB4 p0 p2 p3 b0
  unfold SR.val
  go_wp2_with (guard_target =~ wpList _ _ _ (Oper.mk _ (Op.store 35 _ _) _ _ _ _ :: _) _ _; refine st_row (ty := 35) rfl rfl w.heap.size (SR.cs r.c3).toArray rfl rfl 35 _ H0.out (by kernel_rfl) rfl (by kernel_rfl) ?_; intro W9 hW9 gW9 zW9)
  (try change bodyPost _ _ _ _ _ _)
  refine bodyPost_ret (v := .tuple #[SR.val r.c3, .int .i64 0, .int .i64 0]) (res_stm rfl rfl rfl hW9 (by kernel_rfl)) rfl (HF.out W9 gW9)
def ErT (R0 : Nat) (w5 : World) (s : Nat) (v : Nat → Value) (W : World) : Prop := if s = 0 then Gr w5 W else Go1 R0 w5 W ∧ W.heap[R0]? = some (.cells zeroS.toArray 35 (0, 0))
theorem ErT.s0 {R0 : Nat} {w5 W : World} {v : Nat → Value} (h : Gr w5 W) : ErT R0 w5 0 v W := by unfold ErT; rw [if_pos rfl]; exact h
theorem ErT.g0 {R0 : Nat} {w5 W : World} {v : Nat → Value} (h : ErT R0 w5 0 v W) : Gr w5 W := by unfold ErT at h; rw [if_pos rfl] at h; exact h
theorem ErT.s1 {R0 : Nat} {w5 W : World} {v : Nat → Value} (h : Go1 R0 w5 W) (hz : W.heap[R0]? = some (.cells zeroS.toArray 35 (0, 0))) : ErT R0 w5 1 v W := by unfold ErT; rw [if_neg (by decide)]; exact ⟨h, hz⟩
theorem ErT.g1 {R0 : Nat} {w5 W : World} {v : Nat → Value} (h : ErT R0 w5 1 v W) : Go1 R0 w5 W ∧ W.heap[R0]? = some (.cells zeroS.toArray 35 (0, 0)) := by unfold ErT at h; rw [if_neg (by decide)] at h; exact h
theorem ErT.go {R0 s : Nat} {w5 W : World} {v : Nat → Value} (h : ErT R0 w5 s v W) : Go1 R0 w5 W := by
  unfold ErT at h
  split at h
  · exact .of h
  · exact h.1
theorem putL_append : ∀ (vs us : List Value) (zs : List Value), us.length = vs.length → ∀ pre : List Value, putL (pre ++ us ++ zs) pre.length vs = pre ++ vs ++ zs
  | [], us, zs, h, pre => by
    have : us = [] := List.eq_nil_of_length_eq_zero h
    subst this
    rfl
  | v :: vs, [], zs, h, pre => by simp at h
  | v :: vs, u :: us, zs, h, pre => by
    have h1 := putL_append vs us zs (by simpa using h) (pre ++ [v])
    unfold putL
    have e : (pre ++ u :: us ++ zs).set pre.length v = pre ++ [v] ++ us ++ zs := by simp
    rw [e]
    simpa using h1
theorem putL_self (vs : List Value) (o : Nat) (us : List Value) (h : us.length = vs.length) (ho : o = 0 := by rfl) : putL us o vs = vs := by
  subst ho
  have := putL_append vs us [] h []
  simpa using this
set_option maxHeartbeats 8000000 in
set_option maxRecDepth 100000 in
theorem pstm_err (t : ByteArray) (w : World) (l0 : List Lx.Tok) (hr : readS t = .ok l0 0) (hl0 : l0.length ≤ 4097) (x : Int) (a : Nat) (hq : (stmT t).2 = .bad x a)
    (HB : Calls Try.prog 13 #[.string t] (w.alloc (.cells zeroS.toArray 35)) (BeginP t (w.alloc (.cells zeroS.toArray 35)))) : Calls Try.prog 8 #[.string t] w (StmtP t w) := by
  have HX0 : Hid (x ≠ 0 → ∀ w', Gr w w' → StmtP t w (.returned (.tuple #[noS, .int .i64 x, .int .i64 (a : Int)])) w') := hid (fun hx0 w' h => ⟨h, by rw [hq]; exact ⟨hx0, rfl⟩⟩)
  generalize StmtP t w = Q at *
  have hq2 : ((stmS (.ok l0 0)).2.may 4 ⟨#[59]⟩).2.over = .bad x a := by rw [← hr]; exact hq
  have hsz : (Ps.ok l0 0).size ≤ 900000 := by show l0.length ≤ _; omega
  have HST := hid (fun p w' (h : PS p w' (.ok l0 0)) => statement_any p _ w' h hsz)
  unfold BeginP at HB
  rw [hr] at HB
  clear hr hq hsz hl0
  generalize stmS (.ok l0 0) = R at *
  have HA0 : Hid (Gr w (w.alloc (.cells zeroS.toArray 35))) := hid ((Gr.refl w).alloc _)
  have HZ0 : Hid ((w.alloc (.cells zeroS.toArray 35)).heap[w.heap.size]? = some (.cells zeroS.toArray 35 (0, 0))) := hid (alloc_at _ _)
  go_enter Try.func8, Try.ntmps8
  go_wp2_with fail
  refine HB.mono ?_
  rintro e w1 ⟨hg, _, _, _, p, hpw, rfl, hps⟩
  clear HB
  have hlt0 := (Array.getElem?_eq_some_iff.1 HZ0.out).1
  have hpw0 : w.heap.size < p := by omega
  have hH1 : w1.heap[w.heap.size]? = some (.cells zeroS.toArray 35 (0, 0)) := (hg.block _ hlt0).trans HZ0.out
  have hG1 : Gr w w1 := HA0.out.trans hg
  have hz1 := hps.lt
  clear HA0 HZ0 hlt0 hpw
  have HPS := hid hps
  have HG1 := hid hG1
  have HH1 := hid hH1
  clear hps hg hG1 hH1
  go_wp2_with fail
  refine (HST.out p w1 HPS.out).mono ?_
  rintro e w2 ⟨u, rfl, r, y, rfl, hy, hps2, hgo2, hgd⟩
  have hz2 := hgo2.size
  have hp2 := hps2.lt
  have hG2 : Gr w w2 := Go1.up HG1.out hgo2 (by omega)
  have hH2 : w2.heap[w.heap.size]? = some (.cells zeroS.toArray 35 (0, 0)) := (hgo2.get (by omega) (by omega)).trans HH1.out
  have hA := (Gr.refl w2).alloc (.cells zeroS.toArray 35)
  have HAL : Hid ((w2.alloc (.cells zeroS.toArray 35)).heap[w2.heap.size]? = some (.cells zeroS.toArray 35 (0, 0))) := hid (alloc_at _ _)
  have HP3 : Hid (∀ W3, Go1 w2.heap.size (w2.alloc (.cells zeroS.toArray 35)) W3 → PS p W3 R.2) := hid (fun W3 h3 => (hps2.keep hA).go h3 hp2)
  have HG3 : Hid (∀ W3, Go1 w2.heap.size (w2.alloc (.cells zeroS.toArray 35)) W3 → Gr w W3 ∧ W3.heap[w.heap.size]? = some (.cells zeroS.toArray 35 (0, 0)) ∧ StmAt (fun b => w1.heap.size ≤ b ∧ b < w2.heap.size) W3 y r) := hid (fun W3 h3 => by
    refine ⟨(hG2.trans hA).grown h3 (fun g e => by cases e; have := hG2.size; omega), ?_, ?_⟩
    · rw [h3.get (by simp; omega) (by omega), hA.block _ (by omega)]; exact hH2
    · have h1 := (hy.mono (S' := fun b => w1.heap.size ≤ b ∧ b < w2.heap.size) (fun b hl hs => ⟨hs, hl⟩)).of hA.size (fun b _ hl => hA.block b hl)
      exact h1.of h3.size (fun b hb hl => h3.get hl (by have := hb.2; omega)))
  have HGD := hid hgd
  clear hy hps2 hgo2 hgd hG2 hH2 hA HPS HG1 HH1 HST
  unfold SR.val
  go_wp2_with (guard_target =~ wpList _ _ _ (Oper.mk _ (Op.store 35 _ _) _ _ _ _ :: _) _ _; refine st_row (ty := 35) rfl rfl w2.heap.size (SR.cs r).toArray rfl rfl 35 _ HAL.out (by kernel_rfl) rfl (by kernel_rfl) ?_; intro W3 hW3 gW3 zW3)
  obtain ⟨hG3, hH3, hy3⟩ := HG3.out W3 gW3
  have hps3 := HP3.out W3 gW3
  clear HG3 HP3 gW3 HAL
  have HY := hid hy3
  have HBX := hid hW3
  have HG3 := hid hG3
  have HH3 := hid hH3
  clear hy3 hW3 hG3 hH3
  refine (sign_any' p ⟨#[59]⟩ R.2 W3 hps3).mono ?_
  rintro e w4 ⟨rfl, hps4, hgo4⟩
  clear hps3
  have hz4 := hgo4.size
  have hGr4 : Gr w w4 := Go1.up HG3.out hgo4 (by omega)
  have hB4 : w4.heap[w2.heap.size]? = some (.cells (SR.cs r).toArray 35 (0, 0)) := (hgo4.get (by have := (Array.getElem?_eq_some_iff.1 HBX.out).1; exact this) (by omega)).trans HBX.out
  have hH4 : w4.heap[w.heap.size]? = some (.cells zeroS.toArray 35 (0, 0)) := (hgo4.get (Array.getElem?_eq_some_iff.1 HH3.out).1 (by omega)).trans HH3.out
  have hY4 : StmAt (fun b => w1.heap.size ≤ b ∧ b < w2.heap.size) w4 y r := HY.out.of hgo4.size (fun b hb hl => hgo4.get hl (by have := hb.1; omega))
  clear HG3 HBX HH3 HY hgo4
  generalize (R.2.may 4 ⟨#[59]⟩).2 = q at *
  have hx0 : x ≠ 0 := over_bad hq2 (fun e b h => by rw [h] at hps4; exact hps4.1)
  have q1 : (x != 0) = true := by simpa using hx0
  have HX := hid (HX0.out hx0)
  clear HX0 HGD hY4 hB4
  obtain ⟨l, d, e0, a0, hpr⟩ : ∃ l d e a, PR p w4 l d e a := by
    cases h : q with
    | ok l d => rw [h] at hps4; exact ⟨l, _, _, _, hps4.2⟩
    | bad e a => rw [h] at hps4; obtain ⟨_, l, d, h3⟩ := hps4; exact ⟨l, d, _, _, h3⟩
  obtain ⟨b, off, n, c, tk, hn1, hnc, hbl, p0, p2, p3, b0, htk⟩ := tok_head hpr
  have g2 : (0 : Int) < (n : Int) := by omega
  by_cases hk : tk = 5
  · skip
    have q5 : ((tk : Int) != 5) = false := by rw [hk]; rfl
    have hbad : q = .bad x a := by
      rw [← hq2]
      unfold Ps.over
      cases h : q with
      | bad e a => rw [if_pos (.inr rfl)]
      | ok l' d' =>
        rw [if_pos]
        refine .inl ?_
        rw [h] at hps4
        cases l' with
        | nil => exact hps4.2.nil.elim
        | cons t0 r0 =>
          obtain ⟨b9, off9, n9, c9, tk9, _, _, _, p9, _, _, b90, htk9⟩ := tok_head hps4.2
          rw [p0] at p9
          cases p9
          rw [b0] at b90
          have : tk9 = tk := by have := Option.some.inj b90; cases this; rfl
          show t0.tk.kind = 5
          rw [htk9 t0 r0 rfl, this, hk]
    rw [hbad] at hps4
    obtain ⟨_, l', d', hpr'⟩ := hps4
    obtain ⟨b', off', n', c', tk', hn1', hnc', hbl', p0', p2', p3', b0', htk'⟩ := tok_head hpr'
    have H05 := hid hH4
    have HG5 := hid hGr4
    clear hpr hpr' htk htk' p2 p3 hH4 hGr4 p0' b0' hbad hq2
    go_wp2_with fail
    have HP2 := hid p2'
    have HP3 := hid p3'
    clear p2' p3' p0 b0
    obtain ⟨w5, hw5⟩ : ∃ w5, w4 = w5 := ⟨_, rfl⟩
    subst hw5
    have hpl : p < w4.heap.size := lt_of_cell HP2.out
    refine Rg.region_chain 11 [9] [] (ErT w.heap.size w4) [some (.agg zeroS.toArray), some (.pointer (some ⟨p, 0, none⟩)), some (.pointer (some ⟨p, 0, none⟩)), some (.pointer (some ⟨p, 2, none⟩)), some (.int .i64 x), some (.pointer (some ⟨p, 0, none⟩)), some (.pointer (some ⟨p, 0, none⟩)), some (.pointer (some ⟨p, 3, none⟩)), some (.int .i64 (a : Int)), some undef, some (.int .i64 x)]
      (fun v => ErT.s0 ((Gr.refl _).drew)) (by kernel_rfl) (by kernel_rfl) (by kernel_rfl) (by kernel_rfl) (fun _ _ d _ _ h => by cases d <;> exact h) ?_
    intro OPS HOPS v
    clear HOPS
    simp only [List.take_succ_cons, List.take_zero, Rg.wpC, Rg.wpS, Option.getD_some, Option.getD_none, Act.put, List.setIfInBounds_toArray, List.set_cons_zero, List.set_cons_succ, show List.contains [9] 0 = false from rfl, show List.contains [9] 1 = false from rfl, show List.contains [9] 2 = false from rfl, show List.contains [9] 3 = false from rfl, show List.contains [9] 4 = false from rfl, show List.contains [9] 5 = false from rfl, show List.contains [9] 6 = false from rfl, show List.contains [9] 7 = false from rfl, show List.contains [9] 8 = false from rfl, show List.contains [9] 9 = true from rfl, show List.contains [9] 10 = false from rfl, Bool.false_eq_true, if_false, if_true, Nat.reduceAdd]
    have cP : ∀ s v W, ErT w.heap.size w4 s v W → W.cell? ⟨p, 2, none⟩ = some (.int .i64 x) ∧ W.cell? ⟨p, 3, none⟩ = some (.int .i64 (a : Int)) := fun s v W h => by
      have hg := h.go
      exact ⟨by rw [hg.cell hpl (by omega)]; exact HP2.out, by rw [hg.cell hpl (by omega)]; exact HP3.out⟩
    refine ⟨?_, ?_, ?_, ?_, ?_, ?_, ?_, ?_, ?_, ?_, ?_, ?_⟩
    · refine sc_still (by rfl) (by rfl) (fun s' W _ hS => ?_)
      clear cP hS
      go_simp
      exact rfl
    iterate 8
      · refine sc_still (by rfl) (by rfl) (fun s' W _ hS => ?_)
        obtain ⟨cp2, cp3⟩ := cP _ _ _ hS
        clear cP hS
        go_simp
    · refine sc_call (by rfl) (by rfl) (fun W hS => ?_)
      have hg := hS.g0
      have hz : W.heap[w.heap.size]? = some (.cells zeroS.toArray 35 (0, 0)) := (hg.block _ (Array.getElem?_eq_some_iff.1 H05.out).1).trans H05.out
      refine brings_store rfl w.heap.size 0 zeroS.toArray rfl rfl (fun j hj => ⟨?_, Rg.blk_free hz _⟩) (by kernel_rfl) (by kernel_rfl) ⟨rfl, ErT.s1 ((Go1.of hg).trans (setCells_go _ _ _)) ?_⟩
      · rw [Nat.zero_add, Rg.blk_cells hz, Array.getElem?_eq_getElem hj]; rfl
      · have h1 := setCells_heap zeroS 0 zeroS W hz
        rw [putL_self zeroS 0 zeroS rfl] at h1
        exact h1
    · refine sc_still (by rfl) (by rfl) (fun s' W _ hS => ?_)
      clear cP hS
      go_simp
    intro W9 hS
    obtain ⟨h5, hW9⟩ := hS.g1
    simp only [List.drop_succ_cons, List.drop_zero]
    have HF := hid (HX.out W9 (HG5.out.grown h5 (fun g e => by cases e; exact Nat.le_refl _)))
    clear hS h5 cP
    go_wp2
    (try change bodyPost _ _ _ _ _ _)
    refine bodyPost_ret (v := .tuple #[noS, .int .i64 x, .int .i64 (a : Int)]) (res_stm rfl rfl rfl hW9 (by kernel_rfl)) rfl HF.out
  · have q5 : ((tk : Int) != 5) = true := by simp; omega
    have hover : q.fail 180 = .bad x a := by
      rw [← hq2]
      unfold Ps.over
      cases h : q with
      | bad e a => rw [if_pos (.inr rfl)]; rfl
      | ok l' d' =>
        rw [if_neg]
        rintro (h5 | h5)
        · rw [h] at hps4
          cases l' with
          | nil => exact hps4.2.nil
          | cons t0 r0 =>
            obtain ⟨b9, off9, n9, c9, tk9, _, _, _, p9, _, _, b90, htk9⟩ := tok_head hps4.2
            rw [p0] at p9
            cases p9
            rw [b0] at b90
            have e9 : tk9 = tk := by have := Option.some.inj b90; cases this; rfl
            have h5' : t0.tk.kind = 5 := h5
            rw [htk9 t0 r0 rfl, e9] at h5'
            exact hk h5'
        · cases h5
    have HPS4 := hid hps4
    have HH4 := hid hH4
    have HGr4 := hid hGr4
    clear hpr htk p2 p3 hH4 hGr4 hq2 hps4
    go_wp2_with fail
    refine (wrong_any p q _ HPS4.out).mono ?_
    rintro e w5 ⟨rfl, hps5, hg5⟩
    rw [hover] at hps5
    obtain ⟨_, l', d', hpr'⟩ := hps5
    obtain ⟨b', off', n', c', tk', hn1', hnc', hbl', p0', p2', p3', b0', htk'⟩ := tok_head hpr'
    have H05 : Hid (w5.heap[w.heap.size]? = some (.cells zeroS.toArray 35 (0, 0))) := hid ((hg5.get (Array.getElem?_eq_some_iff.1 HH4.out).1 (by omega)).trans HH4.out)
    have HG5 : Hid (Gr w w5) := hid (Go1.up HGr4.out hg5 (by omega))
    clear hpr' htk' p0 b0 hg5 HH4 HGr4 HPS4 hover
    go_wp2_with fail
    have HP2 := hid p2'
    have HP3 := hid p3'
    clear p2' p3' p0' b0'
    have hpl : p < w5.heap.size := lt_of_cell HP2.out
    refine Rg.region_chain 11 [9] [] (ErT w.heap.size w5) [some (.agg zeroS.toArray), some (.pointer (some ⟨p, 0, none⟩)), some (.pointer (some ⟨p, 0, none⟩)), some (.pointer (some ⟨p, 2, none⟩)), some (.int .i64 x), some (.pointer (some ⟨p, 0, none⟩)), some (.pointer (some ⟨p, 0, none⟩)), some (.pointer (some ⟨p, 3, none⟩)), some (.int .i64 (a : Int)), some undef, some (.int .i64 x)]
      (fun v => ErT.s0 ((Gr.refl _).drew)) (by kernel_rfl) (by kernel_rfl) (by kernel_rfl) (by kernel_rfl) (fun _ _ d _ _ h => by cases d <;> exact h) ?_
    intro OPS HOPS v
    clear HOPS
    simp only [List.take_succ_cons, List.take_zero, Rg.wpC, Rg.wpS, Option.getD_some, Option.getD_none, Act.put, List.setIfInBounds_toArray, List.set_cons_zero, List.set_cons_succ, show List.contains [9] 0 = false from rfl, show List.contains [9] 1 = false from rfl, show List.contains [9] 2 = false from rfl, show List.contains [9] 3 = false from rfl, show List.contains [9] 4 = false from rfl, show List.contains [9] 5 = false from rfl, show List.contains [9] 6 = false from rfl, show List.contains [9] 7 = false from rfl, show List.contains [9] 8 = false from rfl, show List.contains [9] 9 = true from rfl, show List.contains [9] 10 = false from rfl, Bool.false_eq_true, if_false, if_true, Nat.reduceAdd]
    have cP : ∀ s v W, ErT w.heap.size w5 s v W → W.cell? ⟨p, 2, none⟩ = some (.int .i64 x) ∧ W.cell? ⟨p, 3, none⟩ = some (.int .i64 (a : Int)) := fun s v W h => by
      have hg := h.go
      exact ⟨by rw [hg.cell hpl (by omega)]; exact HP2.out, by rw [hg.cell hpl (by omega)]; exact HP3.out⟩
    refine ⟨?_, ?_, ?_, ?_, ?_, ?_, ?_, ?_, ?_, ?_, ?_, ?_⟩
    · refine sc_still (by rfl) (by rfl) (fun s' W _ hS => ?_)
      clear cP hS
      go_simp
      exact rfl
    iterate 8
      · refine sc_still (by rfl) (by rfl) (fun s' W _ hS => ?_)
        obtain ⟨cp2, cp3⟩ := cP _ _ _ hS
        clear cP hS
        go_simp
    · refine sc_call (by rfl) (by rfl) (fun W hS => ?_)
      have hg := hS.g0
      have hz : W.heap[w.heap.size]? = some (.cells zeroS.toArray 35 (0, 0)) := (hg.block _ (Array.getElem?_eq_some_iff.1 H05.out).1).trans H05.out
      refine brings_store rfl w.heap.size 0 zeroS.toArray rfl rfl (fun j hj => ⟨?_, Rg.blk_free hz _⟩) (by kernel_rfl) (by kernel_rfl) ⟨rfl, ErT.s1 ((Go1.of hg).trans (setCells_go _ _ _)) ?_⟩
      · rw [Nat.zero_add, Rg.blk_cells hz, Array.getElem?_eq_getElem hj]; rfl
      · have h1 := setCells_heap zeroS 0 zeroS W hz
        rw [putL_self zeroS 0 zeroS rfl] at h1
        exact h1
    · refine sc_still (by rfl) (by rfl) (fun s' W _ hS => ?_)
      clear cP hS
      go_simp
    intro W9 hS
    obtain ⟨h5, hW9⟩ := hS.g1
    simp only [List.drop_succ_cons, List.drop_zero]
    have HF := hid (HX.out W9 (HG5.out.grown h5 (fun g e => by cases e; exact Nat.le_refl _)))
    clear hS h5 cP
    go_wp2
    (try change bodyPost _ _ _ _ _ _)
    refine bodyPost_ret (v := .tuple #[noS, .int .i64 x, .int .i64 (a : Int)]) (res_stm rfl rfl rfl hW9 (by kernel_rfl)) rfl HF.out
theorem pstm_any (t : ByteArray) (w : World) (hsz : t.size ≤ maxLen) (m : Int) (hm : w.cell? ⟨0, 0, none⟩ = some (.int .i64 m)) : Calls Try.prog 8 #[.string t] w (StmtP t w) := by
  have HB := begin_any t (w.alloc (.cells zeroS.toArray 35)) hsz m (((Gr.refl w).alloc _).keep hm)
  cases hr : readS t with
  | bad x a => exact pstm_bad t w x a hr HB
  | ok l0 d0 =>
    have hd : d0 = 0 ∧ l0.length ≤ 4097 := by
      unfold readS at hr
      split at hr
      · cases hr
      · split at hr
        · rename_i hl
          cases hr
          have := lexN_len _ _ _ _ _ hl
          refine ⟨rfl, ?_⟩
          simp at this
          omega
        · cases hr
    obtain ⟨rfl, hl0⟩ := hd
    cases hq : (stmT t).2 with
    | bad x a => exact pstm_err t w l0 hr hl0 x a hq HB
    | ok l d =>
      have h5 := over_ok (show ((stmS (readS t)).2.may 4 ⟨#[59]⟩).2.over = .ok l d from hq)
      exact pstm_good t w l0 hr hl0 l d h5.1 h5.2 HB
end Go.Proofs.Ytaogpifcfmjcbaa
end
section
namespace Go.Proofs.Ytaogpifcfmjcbaa
open Go.RowKit
set_option linter.unusedSimpArgs false
set_option linter.unusedVariables false
attribute [local go_sem] Rg.leads_value Rg.leads_skip Rg.leads_enter Rg.brings_value Rg.brings_skip Rg.brings_enter Rg.bringsG_value Rg.bringsG_enter Rg.once_normal Rg.once_exit Rg.once_ret Rg.once_panic Rg.once_goto Rg.bringsS_value Rg.bringsS_skip Rg.bringsS_enter Rg.still_value Rg.still_skip Rg.still_enter
def kinds : List ByteArray := [⟨#[]⟩, ⟨#[99, 114, 101, 97, 116, 101, 32, 116, 97, 98, 108, 101]⟩, ⟨#[100, 114, 111, 112, 32, 116, 97, 98, 108, 101]⟩, ⟨#[99, 114, 101, 97, 116, 101, 32, 105, 110, 100, 101, 120]⟩, ⟨#[100, 114, 111, 112, 32, 105, 110, 100, 101, 120]⟩, ⟨#[105, 110, 115, 101, 114, 116]⟩, ⟨#[117, 112, 100, 97, 116, 101]⟩, ⟨#[100, 101, 108, 101, 116, 101]⟩, ⟨#[115, 101, 108, 101, 99, 116]⟩, ⟨#[98, 101, 103, 105, 110]⟩, ⟨#[99, 111, 109, 109, 105, 116]⟩, ⟨#[114, 111, 108, 108, 98, 97, 99, 107]⟩, ⟨#[115, 97, 118, 101, 112, 111, 105, 110, 116]⟩, ⟨#[114, 111, 108, 108, 98, 97, 99, 107, 32, 116, 111]⟩, ⟨#[114, 101, 108, 101, 97, 115, 101]⟩]
def kindS (n : Int) : ByteArray := if n < 0 then ⟨#[]⟩ else (kinds[n.toNat]?).getD ⟨#[]⟩
def kcs : List Value := kinds.map Value.string
def kz : List Value := List.replicate 15 (.string ⟨#[]⟩)
set_option maxHeartbeats 4000000 in
set_option maxRecDepth 100000 in
theorem kind_any (n : Int) (w : World) : Calls Try.prog 12 #[.int .i64 n] w fun e w' => e = .returned (.string (kindS n)) ∧ Gr w w' := by
  have HK : Hid (∀ W, (.string (kindS n) : Value) = .string (kindS n) ∧ (Gr w W → Gr w W)) := hid (fun W => ⟨rfl, id⟩)
  have H0 : Hid ((w.alloc (.cells kz.toArray 67)).heap[w.heap.size]? = some (.cells kz.toArray 67 (0, 0))) := hid (alloc_at _ _)
  have HG : Hid (∀ W5, Go1 w.heap.size (w.alloc (.cells kz.toArray 67)) W5 → Gr w W5) := hid (fun W5 h5 => ((Gr.refl w).alloc _).grown h5 (fun g e => by cases e; exact Nat.le_refl _))
  rcases Int.lt_or_le n 0 with hn | hn
  · have t0 : decide (n < 0) = true := by simpa using hn
    have HS : Hid (kindS n = ⟨#[]⟩) := hid (by unfold kindS; rw [if_pos hn])
    go_enter Try.func12, Try.ntmps12
    go_wp2_with (guard_target =~ wpList _ _ _ (Oper.mk _ (Op.store 67 _ _) _ _ _ _ :: _) _ _; refine st_row (ty := 67) rfl rfl w.heap.size kcs.toArray rfl rfl 67 _ H0.out (by kernel_rfl) rfl (by kernel_rfl) ?_; intro W5 hW5 gW5 zW5; have hg := HG.out W5 gW5; clear gW5 zW5)
    (try change bodyPost _ _ _ _ _ _)
    refine bodyPost_ret (v := .string ⟨#[]⟩) (by simp [results, Try.results12, go_sem]) rfl ⟨by rw [HS.out], hg⟩
  · obtain ⟨k, rfl⟩ := Int.eq_ofNat_of_zero_le hn
    have t0 : decide ((k : Int) < 0) = false := by simp
    by_cases hk : k < 15
    · have t1 : decide (15 ≤ (k : Int)) = false := by rw [decide_eq_false_iff_not]; omega
      have g1 : (k : Int) < 15 := by omega
      obtain ⟨s, hs⟩ : ∃ s, kinds[k]? = some s := ⟨_, List.getElem?_eq_getElem (show k < kinds.length from hk)⟩
      have HS : Hid (kindS (k : Int) = s) := hid (by unfold kindS; rw [if_neg (by omega)]; show (kinds[k]?).getD _ = s; rw [hs]; rfl)
      have HC : Hid (∀ W : World, W.heap[w.heap.size]? = some (.cells kcs.toArray 67 (0, 0)) → W.cell? ⟨w.heap.size, k, none⟩ = some (.string s)) := hid (fun W h => by
        rw [Rg.blk_cells h]
        show kcs.toArray[k]? = _
        simp [kcs, hs])
      clear hs hn
      go_enter Try.func12, Try.ntmps12
      go_wp2_with (guard_target =~ wpList _ _ _ (Oper.mk _ (Op.store 67 _ _) _ _ _ _ :: _) _ _; refine st_row (ty := 67) rfl rfl w.heap.size kcs.toArray rfl rfl 67 _ H0.out (by kernel_rfl) rfl (by kernel_rfl) ?_; intro W5 hW5 gW5 zW5; have hg := HG.out W5 gW5; have hc := HC.out W5 hW5; clear gW5 zW5 hW5)
      (try change bodyPost _ _ _ _ _ _)
      refine bodyPost_ret (v := .string s) (by simp [results, Try.results12, go_sem]) rfl ⟨by rw [HS.out], hg⟩
    · have t1 : decide (15 ≤ (k : Int)) = true := by rw [decide_eq_true_iff]; omega
      have HS : Hid (kindS (k : Int) = ⟨#[]⟩) := hid (by
        unfold kindS
        rw [if_neg (by omega)]
        show (kinds[k]?).getD _ = _
        rw [List.getElem?_eq_none (by show 15 ≤ k; omega)]
        rfl)
      clear hn
      go_enter Try.func12, Try.ntmps12
      go_wp2_with (guard_target =~ wpList _ _ _ (Oper.mk _ (Op.store 67 _ _) _ _ _ _ :: _) _ _; refine st_row (ty := 67) rfl rfl w.heap.size kcs.toArray rfl rfl 67 _ H0.out (by kernel_rfl) rfl (by kernel_rfl) ?_; intro W5 hW5 gW5 zW5; have hg := HG.out W5 gW5; clear gW5 zW5)
      (try change bodyPost _ _ _ _ _ _)
      refine bodyPost_ret (v := .string ⟨#[]⟩) (by simp [results, Try.results12, go_sem]) rfl ⟨by rw [HS.out], hg⟩
theorem exprP_ok {t : ByteArray} {w w' : World} {e : Ending} (h : ExprP t w e w') {x : Ex} {l : List Lx.Tok} {d : Nat} (hx : exprT t = (x, .ok l d)) : Gr w w' ∧ ∃ r, e = .returned (.tuple #[XR.val r, .int .i64 0, .int .i64 0]) ∧ Ex.At (Nw w) w' x r := by
  obtain ⟨h1, h2⟩ := h
  rw [hx] at h2
  exact ⟨h1, h2⟩
theorem exprP_bad {t : ByteArray} {w w' : World} {e : Ending} (h : ExprP t w e w') {x : Int} {a : Nat} (hx : (exprT t).2 = .bad x a) : Gr w w' ∧ e = .returned (.tuple #[noX, .int .i64 x, .int .i64 (a : Int)]) := by
  obtain ⟨h1, h2⟩ := h
  rw [hx] at h2
  exact ⟨h1, h2.2⟩
theorem stmtP_ok {t : ByteArray} {w w' : World} {e : Ending} (h : StmtP t w e w') {x : Stm} {l : List Lx.Tok} {d : Nat} (hx : stmT t = (x, .ok l d)) : Gr w w' ∧ ∃ r, e = .returned (.tuple #[SR.val r, .int .i64 0, .int .i64 0]) ∧ StmAt (Nw w) w' x r := by
  obtain ⟨h1, h2⟩ := h
  rw [hx] at h2
  exact ⟨h1, h2⟩
theorem at_kid {S : Nat → Prop} {w : World} {h : Hd} {ks : List Ex} {r : XR} (hx : Ex.At S w (.mk h ks) r) : r.h = h ∧ r.n = ks.length ∧ r.n ≤ r.cap ∧ ∀ k (hk : k < ks.length), ∃ b off rk, r.oa = some ⟨b, off, none⟩ ∧ S b ∧ b < w.heap.size ∧ Ex.At S w ks[k] rk ∧ ∀ i u, (xF rk)[i]? = some u → w.cell? ⟨b, off + k * 12 + i, none⟩ = some u := by
  have hx0 := hx
  unfold Ex.At at hx
  obtain ⟨h1, h2, h3, rs, h4, h5, h6⟩ := hx
  refine ⟨h1, h2, h3.1, fun k hk => ?_⟩
  have hkr : k < rs.length := by rw [h4]; exact hk
  rcases h5 with h0 | ⟨b, off, hoa, hbl, hSb, hfr, hr⟩
  · rw [h0] at hkr; simp at hkr
  · exact ⟨b, off, rs[k], hoa, hSb, hbl, h6.get k hk hkr, hr k hkr⟩
def opOf : List Ex → Nat → Int
  | ks, k => ((ks[k]?).map (fun x => x.hd.op)).getD 0
theorem aw_1 : (match exprT ⟨#[97, 32, 43, 32, 50, 32, 42, 32, 98]⟩ with | (x, .ok _ _) => x.hd.op == 18 && x.ks.length == 2 && opOf x.ks 1 == 20 | _ => false) = true := by kernel_rfl
theorem aw_2 : (match stmT ⟨#[83, 69, 76, 69, 67, 84, 32, 42, 32, 70, 82, 79, 77, 32, 116, 32, 76, 73, 77, 73, 84, 32, 49]⟩ with | (x, .ok _ _) => x.kind == 8 && x.limit == 1 | _ => false) = true := by kernel_rfl
theorem aw_3 : (match (exprT ⟨#[97, 32, 61, 32, 98, 32, 61, 32, 99]⟩).2 with | .bad e a => e == 180 && a == 6 | _ => false) = true := by kernel_rfl
theorem aw1 : ∃ h x0 h1 k1 l d, exprT ⟨#[97, 32, 43, 32, 50, 32, 42, 32, 98]⟩ = (.mk h [x0, .mk h1 k1], .ok l d) ∧ h.op = 18 ∧ h1.op = 20 := by
  have h := aw_1
  revert h
  generalize exprT ⟨#[97, 32, 43, 32, 50, 32, 42, 32, 98]⟩ = q
  intro h
  obtain ⟨⟨hd, ks⟩, s⟩ := q
  cases s with
  | bad e a => cases h
  | ok l d =>
    simp only [Ex.hd, Ex.ks, Bool.and_eq_true, beq_iff_eq] at h
    obtain ⟨⟨h1, h2⟩, h3⟩ := h
    match ks, h2, h3 with
    | [x0, .mk h9 k9], _, h3 => exact ⟨hd, x0, h9, k9, l, d, rfl, h1, h3⟩
theorem aw2 : ∃ x l d, stmT ⟨#[83, 69, 76, 69, 67, 84, 32, 42, 32, 70, 82, 79, 77, 32, 116, 32, 76, 73, 77, 73, 84, 32, 49]⟩ = (x, .ok l d) ∧ x.kind = 8 ∧ x.limit = 1 := by
  have h := aw_2
  revert h
  generalize stmT ⟨#[83, 69, 76, 69, 67, 84, 32, 42, 32, 70, 82, 79, 77, 32, 116, 32, 76, 73, 77, 73, 84, 32, 49]⟩ = q
  intro h
  obtain ⟨x, s⟩ := q
  cases s with
  | bad e a => cases h
  | ok l d =>
    simp only [Bool.and_eq_true, beq_iff_eq] at h
    exact ⟨x, l, d, rfl, h.1, h.2⟩
theorem aw3 : (exprT ⟨#[97, 32, 61, 32, 98, 32, 61, 32, 99]⟩).2 = .bad 180 6 := by
  have h := aw_3
  revert h
  generalize (exprT ⟨#[97, 32, 61, 32, 98, 32, 61, 32, 99]⟩).2 = q
  intro h
  cases q with
  | ok l d => cases h
  | bad e a =>
    simp only [Bool.and_eq_true, beq_iff_eq] at h
    rw [h.1, h.2]
theorem gr_box {w w1 W : World} {g : Nat} (h : Gr w w1) (hg : g = w1.heap.size) {o : Obj} (h5 : Go1 g (w1.alloc o) W) : Gr w W := (h.alloc o).grown h5 (fun b e => by cases e; rw [hg]; exact h.size)
theorem gr_box1 {w1 W : World} {o : Obj} (h5 : Go1 w1.heap.size (w1.alloc o) W) : Gr w1 W := gr_box (Gr.refl w1) rfl h5
set_option maxHeartbeats 8000000 in
set_option maxRecDepth 100000 in
theorem awake_any (w : World) (m : Int) (hm : w.cell? ⟨0, 0, none⟩ = some (.int .i64 m)) : Calls Try.prog 7 #[] w fun e w' => e = .returned (.bool true) ∧ Gr w w' := by
  have H1 := hid (pexpr_any ⟨#[97, 32, 43, 32, 50, 32, 42, 32, 98]⟩ w (by decide) m hm)
  have H2 : Hid (∀ W, Gr w W → _) := hid (fun W h => pstm_any ⟨#[83, 69, 76, 69, 67, 84, 32, 42, 32, 70, 82, 79, 77, 32, 116, 32, 76, 73, 77, 73, 84, 32, 49]⟩ W (by decide) m (Gr.keep h hm))
  have H3 : Hid (∀ W, Gr w W → _) := hid (fun W h => pexpr_any ⟨#[97, 32, 61, 32, 98, 32, 61, 32, 99]⟩ W (by decide) m (Gr.keep h hm))
  clear hm
  go_enter Try.func7, Try.ntmps7
  go_wp2_with fail
  refine H1.out.mono ?_
  rintro e w1 he
  obtain ⟨hd, x0, h1, k1, l1, d1, e1, o1, o2⟩ := aw1
  obtain ⟨hg1, r, rfl, hat⟩ := exprP_ok he e1
  clear he e1 H1
  obtain ⟨rh, rn, rc, kid⟩ := at_kid hat
  obtain ⟨b, off, rk, hoa, hSb, hbl, hkat, hkc⟩ := kid 1 (show 1 < 2 by decide)
  have hop := (at_kid hkat).1
  have ck := hkc 0 _ rfl
  rw [hop, o2] at ck
  have HAL := hid (alloc_at w1 (.cells zeroX 32))
  have HC1 : Hid (∀ W, Gr w1 W → W.cell? ⟨b, off + 12, none⟩ = some (.int .i64 20)) := hid (fun W h => h.keep ck)
  have HX1 : Hid (∀ W : World, W.heap[w1.heap.size]? = some (.cells (xF r).toArray 32 (0, 0)) → W.cell? ⟨w1.heap.size, 0, none⟩ = some (.int .i64 18) ∧ W.cell? ⟨w1.heap.size, 11, none⟩ = some (.slice (some ⟨b, off, none⟩) 2 r.cap)) := hid (fun W h => by
    rw [Rg.blk_cells h, Rg.blk_cells h]
    refine ⟨?_, ?_⟩
    · show some (Value.int .i64 r.h.op) = _; rw [rh, o1]
    · show some (Value.slice r.oa r.n r.cap) = _; rw [hoa, rn]; rfl)
  have HG1 := hid hg1
  clear hg1 hat kid hkat hkc ck rh rn rc hop o1 o2 hoa hSb
  unfold XR.val
  go_wp2_with (guard_target =~ wpList _ _ _ (Oper.mk _ (Op.store 32 _ _) _ _ _ _ :: _) _ _; refine st_row (ty := 32) rfl rfl w1.heap.size (xF r).toArray rfl rfl 32 _ HAL.out (by kernel_rfl) rfl (by kernel_rfl) ?_; intro W1 hW1 gW1 zW1)
  have hgw1 : Gr w W1 := gr_box HG1.out rfl gW1
  obtain ⟨c0, c11⟩ := HX1.out W1 hW1
  have ck1 := HC1.out W1 (gr_box1 gW1)
  have HGW1 := hid hgw1
  have HCK1 := hid ck1
  have HC0 := hid c0
  have HC11 := hid c11
  have hlt1 : w1.heap.size < W1.heap.size := lt_of_cell c0
  clear HX1 HC1 HG1 gW1 hW1 zW1 hgw1 c0 c11 ck1 HAL
  refine (H2.out W1 HGW1.out).mono ?_
  rintro e w2 he
  obtain ⟨x2, l2, d2, e2, o1, o2⟩ := aw2
  obtain ⟨hg2, r2, rfl, hat2⟩ := stmtP_ok he e2
  have hk2 := hat2.kind
  have hm2 := hat2.limit
  rw [o1] at hk2
  rw [o2] at hm2
  clear he e2 H2 o1 o2 hat2
  have HAL : Hid ((w2.alloc (.cells zeroS.toArray 35)).heap[w2.heap.size]? = some (.cells zeroS.toArray 35 (0, 0))) := hid (alloc_at _ _)
  have HX2 : Hid (∀ W : World, W.heap[w2.heap.size]? = some (.cells (SR.cs r2).toArray 35 (0, 0)) → W.cell? ⟨w2.heap.size, 0, none⟩ = some (.int .i64 8) ∧ W.cell? ⟨w2.heap.size, 39, none⟩ = some (.int .i64 1)) := hid (fun W h => by
    rw [Rg.blk_cells h, Rg.blk_cells h]
    refine ⟨?_, ?_⟩
    · show some (Value.int .i64 r2.kind) = _; rw [hk2]
    · show some (Value.int .i64 r2.limit) = _; rw [hm2])
  have HG2 := hid (HGW1.out.trans hg2)
  have HK2 : Hid (∀ W, Gr w2 W → W.cell? ⟨w1.heap.size, 0, none⟩ = some (.int .i64 18) ∧ W.cell? ⟨w1.heap.size, 11, none⟩ = some (.slice (some ⟨b, off, none⟩) 2 r.cap) ∧ W.cell? ⟨b, off + 12, none⟩ = some (.int .i64 20)) := hid (fun W h => ⟨(hg2.trans h).keep HC0.out, (hg2.trans h).keep HC11.out, (hg2.trans h).keep HCK1.out⟩)
  clear hg2 HC0 HC11 HCK1 HGW1 hk2 hm2 hlt1
  unfold SR.val
  go_wp2_with (guard_target =~ wpList _ _ _ (Oper.mk _ (Op.store 35 _ _) _ _ _ _ :: _) _ _; refine st_row (ty := 35) rfl rfl w2.heap.size (SR.cs r2).toArray rfl rfl 35 _ HAL.out (by kernel_rfl) rfl (by kernel_rfl) ?_; intro W2 hW2 gW2 zW2)
  have HGW2 := hid (gr_box HG2.out rfl gW2)
  have HX := hid (HX2.out W2 hW2)
  have HK := hid (fun W (h : Gr W2 W) => HK2.out W ((gr_box1 gW2).trans h))
  clear HX2 HK2 HG2 gW2 hW2 zW2 HAL
  refine (H3.out W2 HGW2.out).mono ?_
  rintro e w3 he
  obtain ⟨hg3, rfl⟩ := exprP_bad he aw3
  clear he H3
  have HAL := hid (alloc_at w3 (.cells zeroX 32))
  have HG3 := hid (HGW2.out.trans hg3)
  have HK3 := hid (fun W (h : Gr w3 W) => HK.out W (hg3.trans h))
  have HX3 : Hid (∀ W, Gr w3 W → W.cell? ⟨w2.heap.size, 0, none⟩ = some (.int .i64 8) ∧ W.cell? ⟨w2.heap.size, 39, none⟩ = some (.int .i64 1)) := hid (fun W h => ⟨(hg3.trans h).keep HX.out.1, (hg3.trans h).keep HX.out.2⟩)
  clear hg3 HK HX HGW2
  unfold noX
  go_wp2_with (guard_target =~ wpList _ _ _ (Oper.mk _ (Op.store 32 _ _) _ _ _ _ :: _) _ _; refine st_row (ty := 32) rfl rfl w3.heap.size zeroX rfl rfl 32 _ HAL.out (by kernel_rfl) rfl (by kernel_rfl) ?_; intro W3 hW3 gW3 zW3; obtain ⟨c0, c11, ck⟩ := HK3.out W3 (gr_box1 gW3); obtain ⟨s0, s39⟩ := HX3.out W3 (gr_box1 gW3); have HG := hid (gr_box HG3.out rfl gW3); clear HK3 HX3 HG3 gW3 hW3 zW3 HAL)
  refine (kind_any 8 W3).mono ?_
  rintro e w4 ⟨rfl, hg4⟩
  have HG4 := hid (HG.out.trans hg4)
  rw [show kindS 8 = ⟨#[115, 101, 108, 101, 99, 116]⟩ from by kernel_rfl]
  clear hg4 HG c0 c11 ck s0 s39
  go_wp2
  go_ret
  exact ⟨rfl, HG4.out⟩
end Go.Proofs.Ytaogpifcfmjcbaa
end
section
namespace Go.Proofs.Ytaogpifcfmjcbaa
open Go.RowKit Go.WideShapes Go.ChangeShapes
set_option linter.unusedVariables false
section
variable {H : Type} {enc : TypeId × Value → H} {P : Program} {f : Func} {s : ChangeSpec} {apart fresh handsOn again : Bool} {W W' : World} {args : Array Value} {v : Value} {ds gs : List (DataW H)} {before pa pv : List MemPlace}
theorem post_kept (hW : DataW.Whole enc P f.params.toList s.vars apart W args.toList ds gs before) (hb : Below W.heap.size W W') (hps : before = pa ++ pv)
    (hres : ∀ (b : Nat) (sp : Nat → Bool) (hd : Bool), DataW.TrodAll enc P W' b sp hd f.resultTypes.toList (v.resultList f.resultTypes.size) (s.fn H (ds ++ gs)).results [])
    (hargs : ∀ sp : Nat → Bool, (∀ p ∈ before, sp p.block = true) → DataW.TrodAll enc P W' 0 sp true f.params.toList args.toList (s.fn H (ds ++ gs)).args pa)
    (hvars : ∀ sp : Nat → Bool, (∀ p ∈ before, sp p.block = true) → DataW.TrodVars enc P W' sp s.vars (s.fn H (ds ++ gs)).vars pv)
    (hok : ∀ (j : Nat) (t : TypeId) (r : Value), f.resultTypes[j]? = some t → (v.resultList f.resultTypes.size)[j]? = some r → Value.okWide P W' .any 0 t r) :
    s.post enc P f apart fresh handsOn again W args v W' := by
  have below : ∀ p ∈ before, p.block < W.heap.size := fun p hp => hW.lt p hp
  have seen : ∀ p ∈ before, decide (p.block < W.heap.size) = true := fun p hp => decide_eq_true (below p hp)
  have whole := hW
  obtain ⟨_, _, _, _, _, frz, ndp⟩ := whole
  refine ⟨ds, gs, before, [], pa, pv, hW, hres _ _ _, hargs (fun b => decide (b < W.heap.size)) seen, hvars (fun b => decide (b < W.heap.size)) seen, ?_, fun _ => ⟨hok, _, _, ([] ++ pa) ++ pv, ⟨[] ++ pa, pv, trodAll_append (hargs _ (fun _ _ => rfl)) (hres _ _ _), hvars _ (fun _ _ => rfl), rfl, ?_, ?_⟩, ?_⟩⟩
  · refine World.keptBut_mono (fun p hp => ⟨hp, ?_⟩) (hb.frame (· ∈ before))
    rw [hps, List.mem_append] at hp
    exact Or.inr hp
  · intro b off hp
    have hin : MemPlace.cell b off ∈ before := by rw [hps]; simpa using hp
    rw [hb.frozen (below _ hin)]
    exact frz b off hin
  · intro ha
    have h := ndp ha
    rw [hps] at h
    simpa using h
  · intro p hp _
    rw [hps]
    simpa using hp
end
def Yes (w : World) (e : Ending) (w' : World) : Prop := e = .returned (.bool true) ∧ Below w.heap.size w w'
end Go.Proofs.Ytaogpifcfmjcbaa
end
section
namespace Go.Proofs.Ytaogpifcfmjcbaa
set_option linter.unusedVariables false
theorem and_seven (x : Int) : ∃ g : Nat, g < 8 ∧ bits .and .i64 x 7 = (g : Int) := by
  have h : (BitVec.ofInt 64 x &&& BitVec.ofInt 64 7).toNat = (BitVec.ofInt 64 x).toNat % 8 := by
    rw [BitVec.toNat_and]
    exact Nat.and_two_pow_sub_one_eq_mod _ 3
  refine ⟨(BitVec.ofInt 64 x).toNat % 8, Nat.mod_lt _ (by omega), ?_⟩
  show IntKind.i64.wrap ((BitVec.ofInt 64 x &&& BitVec.ofInt 64 7).toNat : Int) = _
  rw [h]
  have h4 : (BitVec.ofInt 64 x).toNat % 8 < 8 := Nat.mod_lt _ (by omega)
  generalize (BitVec.ofInt 64 x).toNat % 8 = m at h4 ⊢
  rw [IntKind.wrap_i64]; omega
def lsL (s : List UInt8) : Nat → List UInt8
  | 0 => s
  | n + 1 => lsL s n ++ [44, 32] ++ s
def lstB (s : ByteArray) : Nat → ByteArray
  | 0 => s
  | n + 1 => lstB s n ++ ⟨#[44, 32]⟩ ++ s
theorem lstB_data (s : ByteArray) : ∀ n, (lstB s n).data.toList = lsL s.data.toList n
  | 0 => rfl
  | n + 1 => by
    unfold lstB lsL
    rw [ByteArray.data_append, ByteArray.data_append, Array.toList_append, Array.toList_append, lstB_data s n]
theorem lstB_size (s : ByteArray) : ∀ n, (lstB s n).size = s.size + n * (s.size + 2)
  | 0 => by simp [lstB]
  | n + 1 => by
    unfold lstB
    rw [ByteArray.size_append, ByteArray.size_append, lstB_size s n, Nat.add_mul]
    show s.size + n * (s.size + 2) + 2 + s.size = _
    omega
theorem of_data {s : ByteArray} {l : List UInt8} (h : s.data.toList = l) : s = txt l := by
  apply ByteArray.ext
  show s.data = l.toArray
  rw [← h]
def tI (a b c : Nat) : ByteArray := ⟨#[73, 78, 83, 69, 82, 84, 32, 73, 78, 84, 79, 32, 116, 32, 40]⟩ ++ lstB ⟨#[120]⟩ a ++ ⟨#[41, 32, 86, 65, 76, 85, 69, 83, 32]⟩ ++ lstB (⟨#[40]⟩ ++ lstB ⟨#[49]⟩ b ++ ⟨#[41]⟩) c
def tS (a b : Nat) : ByteArray := ⟨#[83, 69, 76, 69, 67, 84, 32]⟩ ++ lstB ⟨#[49, 32, 65, 83, 32, 121]⟩ a ++ ⟨#[32, 70, 82, 79, 77, 32, 116, 32, 74, 79, 73, 78, 32, 117, 32, 79, 78, 32, 84, 82, 85, 69, 32, 79, 82, 68, 69, 82, 32, 66, 89, 32]⟩ ++ lstB ⟨#[49, 32, 68, 69, 83, 67]⟩ b
def tU (c : Nat) : ByteArray := ⟨#[85, 80, 68, 65, 84, 69, 32, 116, 32, 83, 69, 84, 32]⟩ ++ lstB ⟨#[120, 32, 61, 32, 50]⟩ c
def tC (a : Nat) : ByteArray := ⟨#[67, 82, 69, 65, 84, 69, 32, 84, 65, 66, 76, 69, 32, 116, 32, 40]⟩ ++ lstB ⟨#[120, 32, 73, 78, 84, 32, 78, 79, 84, 32, 78, 85, 76, 76]⟩ a ++ ⟨#[41]⟩
theorem tI_eq (a b c : Nat) : tI a b c = txt ([73, 78, 83, 69, 82, 84, 32, 73, 78, 84, 79, 32, 116, 32, 40] ++ lsL [120] a ++ [41, 32, 86, 65, 76, 85, 69, 83, 32] ++ lsL ([40] ++ lsL [49] b ++ [41]) c) := of_data (by simp only [tI, ByteArray.data_append, Array.toList_append, lstB_data])
theorem tS_eq (a b : Nat) : tS a b = txt ([83, 69, 76, 69, 67, 84, 32] ++ lsL [49, 32, 65, 83, 32, 121] a ++ [32, 70, 82, 79, 77, 32, 116, 32, 74, 79, 73, 78, 32, 117, 32, 79, 78, 32, 84, 82, 85, 69, 32, 79, 82, 68, 69, 82, 32, 66, 89, 32] ++ lsL [49, 32, 68, 69, 83, 67] b) := of_data (by simp only [tS, ByteArray.data_append, Array.toList_append, lstB_data])
theorem tU_eq (c : Nat) : tU c = txt ([85, 80, 68, 65, 84, 69, 32, 116, 32, 83, 69, 84, 32] ++ lsL [120, 32, 61, 32, 50] c) := of_data (by simp only [tU, ByteArray.data_append, Array.toList_append, lstB_data])
theorem tC_eq (a : Nat) : tC a = txt ([67, 82, 69, 65, 84, 69, 32, 84, 65, 66, 76, 69, 32, 116, 32, 40] ++ lsL [120, 32, 73, 78, 84, 32, 78, 79, 84, 32, 78, 85, 76, 76] a ++ [41]) := of_data (by simp only [tC, ByteArray.data_append, Array.toList_append, lstB_data])
def chI (a b c : Nat) (x : Stm) : Bool := x.columns.length == a + 1 && x.rows.length == c + 1 && ((x.rows[c]?).map List.length) == some (b + 1)
def chS (a b : Nat) (x : Stm) : Bool := x.items.length == a + 1 && x.order.length == b + 1 && ((x.order[0]?).map OrdS.desc) == some true && x.refs.length == 2
def chU (c : Nat) (x : Stm) : Bool := x.sets.length == c + 1 && x.columns.length == c + 1
def chC (a : Nat) (x : Stm) : Bool := x.cols.length == a + 1 && ((x.cols[a]?).map ColS.nn) == some true
def okS (f : Stm → Bool) (q : Stm × Ps) : Bool := match q with
  | (x, .ok _ _) => f x
  | _ => false
theorem okS_ex {f : Stm → Bool} {q : Stm × Ps} (h : okS f q = true) : ∃ x l d, q = (x, .ok l d) ∧ f x = true := by
  obtain ⟨x, s⟩ := q
  cases s with
  | ok l d => exact ⟨x, l, d, rfl, h⟩
  | bad e a => cases h
def kI (a b c : Nat) : Bool := okS (chI a b c) (stmT (txt ([73, 78, 83, 69, 82, 84, 32, 73, 78, 84, 79, 32, 116, 32, 40] ++ lsL [120] a ++ [41, 32, 86, 65, 76, 85, 69, 83, 32] ++ lsL ([40] ++ lsL [49] b ++ [41]) c)))
def kS (a b : Nat) : Bool := okS (chS a b) (stmT (txt ([83, 69, 76, 69, 67, 84, 32] ++ lsL [49, 32, 65, 83, 32, 121] a ++ [32, 70, 82, 79, 77, 32, 116, 32, 74, 79, 73, 78, 32, 117, 32, 79, 78, 32, 84, 82, 85, 69, 32, 79, 82, 68, 69, 82, 32, 66, 89, 32] ++ lsL [49, 32, 68, 69, 83, 67] b)))
def kU (c : Nat) : Bool := okS (chU c) (stmT (txt ([85, 80, 68, 65, 84, 69, 32, 116, 32, 83, 69, 84, 32] ++ lsL [120, 32, 61, 32, 50] c)))
def kC (a : Nat) : Bool := okS (chC a) (stmT (txt ([67, 82, 69, 65, 84, 69, 32, 84, 65, 66, 76, 69, 32, 116, 32, 40] ++ lsL [120, 32, 73, 78, 84, 32, 78, 79, 84, 32, 78, 85, 76, 76] a ++ [41])))
theorem all8 {f : Nat → Bool} (h : ((List.range 8).all f) = true) (n : Nat) (hn : n < 8) : f n = true := List.all_eq_true.1 h n (List.mem_range.2 hn)
theorem kU_all : ((List.range 8).all fun c => kU c) = true := by kernel_rfl
theorem kC_all : ((List.range 8).all fun a => kC a) = true := by kernel_rfl
theorem kS_0 : ((List.range 8).all fun b => kS 0 b) = true := by kernel_rfl
theorem kS_1 : ((List.range 8).all fun b => kS 1 b) = true := by kernel_rfl
theorem kS_2 : ((List.range 8).all fun b => kS 2 b) = true := by kernel_rfl
theorem kS_3 : ((List.range 8).all fun b => kS 3 b) = true := by kernel_rfl
theorem kS_4 : ((List.range 8).all fun b => kS 4 b) = true := by kernel_rfl
theorem kS_5 : ((List.range 8).all fun b => kS 5 b) = true := by kernel_rfl
theorem kS_6 : ((List.range 8).all fun b => kS 6 b) = true := by kernel_rfl
theorem kS_7 : ((List.range 8).all fun b => kS 7 b) = true := by kernel_rfl
theorem kI_0_0 : ((List.range 8).all fun b => kI 0 b 0) = true := by kernel_rfl
theorem kI_0_1 : ((List.range 8).all fun b => kI 0 b 1) = true := by kernel_rfl
theorem kI_0_2 : ((List.range 8).all fun b => kI 0 b 2) = true := by kernel_rfl
theorem kI_0_3 : ((List.range 8).all fun b => kI 0 b 3) = true := by kernel_rfl
theorem kI_0_4 : ((List.range 8).all fun b => kI 0 b 4) = true := by kernel_rfl
theorem kI_0_5 : ((List.range 8).all fun b => kI 0 b 5) = true := by kernel_rfl
theorem kI_0_6 : ((List.range 8).all fun b => kI 0 b 6) = true := by kernel_rfl
theorem kI_0_7 : ((List.range 8).all fun b => kI 0 b 7) = true := by kernel_rfl
theorem kI_1_0 : ((List.range 8).all fun b => kI 1 b 0) = true := by kernel_rfl
theorem kI_1_1 : ((List.range 8).all fun b => kI 1 b 1) = true := by kernel_rfl
theorem kI_1_2 : ((List.range 8).all fun b => kI 1 b 2) = true := by kernel_rfl
theorem kI_1_3 : ((List.range 8).all fun b => kI 1 b 3) = true := by kernel_rfl
theorem kI_1_4 : ((List.range 8).all fun b => kI 1 b 4) = true := by kernel_rfl
theorem kI_1_5 : ((List.range 8).all fun b => kI 1 b 5) = true := by kernel_rfl
theorem kI_1_6 : ((List.range 8).all fun b => kI 1 b 6) = true := by kernel_rfl
theorem kI_1_7 : ((List.range 8).all fun b => kI 1 b 7) = true := by kernel_rfl
theorem kI_2_0 : ((List.range 8).all fun b => kI 2 b 0) = true := by kernel_rfl
theorem kI_2_1 : ((List.range 8).all fun b => kI 2 b 1) = true := by kernel_rfl
theorem kI_2_2 : ((List.range 8).all fun b => kI 2 b 2) = true := by kernel_rfl
theorem kI_2_3 : ((List.range 8).all fun b => kI 2 b 3) = true := by kernel_rfl
theorem kI_2_4 : ((List.range 8).all fun b => kI 2 b 4) = true := by kernel_rfl
theorem kI_2_5 : ((List.range 8).all fun b => kI 2 b 5) = true := by kernel_rfl
theorem kI_2_6 : ((List.range 8).all fun b => kI 2 b 6) = true := by kernel_rfl
theorem kI_2_7 : ((List.range 8).all fun b => kI 2 b 7) = true := by kernel_rfl
theorem kI_3_0 : ((List.range 8).all fun b => kI 3 b 0) = true := by kernel_rfl
theorem kI_3_1 : ((List.range 8).all fun b => kI 3 b 1) = true := by kernel_rfl
theorem kI_3_2 : ((List.range 8).all fun b => kI 3 b 2) = true := by kernel_rfl
theorem kI_3_3 : ((List.range 8).all fun b => kI 3 b 3) = true := by kernel_rfl
theorem kI_3_4 : ((List.range 8).all fun b => kI 3 b 4) = true := by kernel_rfl
theorem kI_3_5 : ((List.range 8).all fun b => kI 3 b 5) = true := by kernel_rfl
theorem kI_3_6 : ((List.range 8).all fun b => kI 3 b 6) = true := by kernel_rfl
theorem kI_3_7 : ((List.range 8).all fun b => kI 3 b 7) = true := by kernel_rfl
theorem kI_4_0 : ((List.range 8).all fun b => kI 4 b 0) = true := by kernel_rfl
theorem kI_4_1 : ((List.range 8).all fun b => kI 4 b 1) = true := by kernel_rfl
theorem kI_4_2 : ((List.range 8).all fun b => kI 4 b 2) = true := by kernel_rfl
theorem kI_4_3 : ((List.range 8).all fun b => kI 4 b 3) = true := by kernel_rfl
theorem kI_4_4 : ((List.range 8).all fun b => kI 4 b 4) = true := by kernel_rfl
theorem kI_4_5 : ((List.range 8).all fun b => kI 4 b 5) = true := by kernel_rfl
theorem kI_4_6 : ((List.range 8).all fun b => kI 4 b 6) = true := by kernel_rfl
theorem kI_4_7 : ((List.range 8).all fun b => kI 4 b 7) = true := by kernel_rfl
theorem kI_5_0 : ((List.range 8).all fun b => kI 5 b 0) = true := by kernel_rfl
theorem kI_5_1 : ((List.range 8).all fun b => kI 5 b 1) = true := by kernel_rfl
theorem kI_5_2 : ((List.range 8).all fun b => kI 5 b 2) = true := by kernel_rfl
theorem kI_5_3 : ((List.range 8).all fun b => kI 5 b 3) = true := by kernel_rfl
theorem kI_5_4 : ((List.range 8).all fun b => kI 5 b 4) = true := by kernel_rfl
theorem kI_5_5 : ((List.range 8).all fun b => kI 5 b 5) = true := by kernel_rfl
theorem kI_5_6 : ((List.range 8).all fun b => kI 5 b 6) = true := by kernel_rfl
theorem kI_5_7 : ((List.range 8).all fun b => kI 5 b 7) = true := by kernel_rfl
theorem kI_6_0 : ((List.range 8).all fun b => kI 6 b 0) = true := by kernel_rfl
theorem kI_6_1 : ((List.range 8).all fun b => kI 6 b 1) = true := by kernel_rfl
theorem kI_6_2 : ((List.range 8).all fun b => kI 6 b 2) = true := by kernel_rfl
theorem kI_6_3 : ((List.range 8).all fun b => kI 6 b 3) = true := by kernel_rfl
theorem kI_6_4 : ((List.range 8).all fun b => kI 6 b 4) = true := by kernel_rfl
theorem kI_6_5 : ((List.range 8).all fun b => kI 6 b 5) = true := by kernel_rfl
theorem kI_6_6 : ((List.range 8).all fun b => kI 6 b 6) = true := by kernel_rfl
theorem kI_6_7 : ((List.range 8).all fun b => kI 6 b 7) = true := by kernel_rfl
theorem kI_7_0 : ((List.range 8).all fun b => kI 7 b 0) = true := by kernel_rfl
theorem kI_7_1 : ((List.range 8).all fun b => kI 7 b 1) = true := by kernel_rfl
theorem kI_7_2 : ((List.range 8).all fun b => kI 7 b 2) = true := by kernel_rfl
theorem kI_7_3 : ((List.range 8).all fun b => kI 7 b 3) = true := by kernel_rfl
theorem kI_7_4 : ((List.range 8).all fun b => kI 7 b 4) = true := by kernel_rfl
theorem kI_7_5 : ((List.range 8).all fun b => kI 7 b 5) = true := by kernel_rfl
theorem kI_7_6 : ((List.range 8).all fun b => kI 7 b 6) = true := by kernel_rfl
theorem kI_7_7 : ((List.range 8).all fun b => kI 7 b 7) = true := by kernel_rfl
theorem kS_all (a b : Nat) (ha : a < 8) (hb : b < 8) : kS a b = true := by
  match a, ha with
  | 0, _ => exact all8 kS_0 b hb
  | 1, _ => exact all8 kS_1 b hb
  | 2, _ => exact all8 kS_2 b hb
  | 3, _ => exact all8 kS_3 b hb
  | 4, _ => exact all8 kS_4 b hb
  | 5, _ => exact all8 kS_5 b hb
  | 6, _ => exact all8 kS_6 b hb
  | 7, _ => exact all8 kS_7 b hb
theorem kI_all (a b c : Nat) (ha : a < 8) (hb : b < 8) (hc : c < 8) : kI a b c = true := by
  match a, ha, c, hc with
  | 0, _, 0, _ => exact all8 kI_0_0 b hb
  | 0, _, 1, _ => exact all8 kI_0_1 b hb
  | 0, _, 2, _ => exact all8 kI_0_2 b hb
  | 0, _, 3, _ => exact all8 kI_0_3 b hb
  | 0, _, 4, _ => exact all8 kI_0_4 b hb
  | 0, _, 5, _ => exact all8 kI_0_5 b hb
  | 0, _, 6, _ => exact all8 kI_0_6 b hb
  | 0, _, 7, _ => exact all8 kI_0_7 b hb
  | 1, _, 0, _ => exact all8 kI_1_0 b hb
  | 1, _, 1, _ => exact all8 kI_1_1 b hb
  | 1, _, 2, _ => exact all8 kI_1_2 b hb
  | 1, _, 3, _ => exact all8 kI_1_3 b hb
  | 1, _, 4, _ => exact all8 kI_1_4 b hb
  | 1, _, 5, _ => exact all8 kI_1_5 b hb
  | 1, _, 6, _ => exact all8 kI_1_6 b hb
  | 1, _, 7, _ => exact all8 kI_1_7 b hb
  | 2, _, 0, _ => exact all8 kI_2_0 b hb
  | 2, _, 1, _ => exact all8 kI_2_1 b hb
  | 2, _, 2, _ => exact all8 kI_2_2 b hb
  | 2, _, 3, _ => exact all8 kI_2_3 b hb
  | 2, _, 4, _ => exact all8 kI_2_4 b hb
  | 2, _, 5, _ => exact all8 kI_2_5 b hb
  | 2, _, 6, _ => exact all8 kI_2_6 b hb
  | 2, _, 7, _ => exact all8 kI_2_7 b hb
  | 3, _, 0, _ => exact all8 kI_3_0 b hb
  | 3, _, 1, _ => exact all8 kI_3_1 b hb
  | 3, _, 2, _ => exact all8 kI_3_2 b hb
  | 3, _, 3, _ => exact all8 kI_3_3 b hb
  | 3, _, 4, _ => exact all8 kI_3_4 b hb
  | 3, _, 5, _ => exact all8 kI_3_5 b hb
  | 3, _, 6, _ => exact all8 kI_3_6 b hb
  | 3, _, 7, _ => exact all8 kI_3_7 b hb
  | 4, _, 0, _ => exact all8 kI_4_0 b hb
  | 4, _, 1, _ => exact all8 kI_4_1 b hb
  | 4, _, 2, _ => exact all8 kI_4_2 b hb
  | 4, _, 3, _ => exact all8 kI_4_3 b hb
  | 4, _, 4, _ => exact all8 kI_4_4 b hb
  | 4, _, 5, _ => exact all8 kI_4_5 b hb
  | 4, _, 6, _ => exact all8 kI_4_6 b hb
  | 4, _, 7, _ => exact all8 kI_4_7 b hb
  | 5, _, 0, _ => exact all8 kI_5_0 b hb
  | 5, _, 1, _ => exact all8 kI_5_1 b hb
  | 5, _, 2, _ => exact all8 kI_5_2 b hb
  | 5, _, 3, _ => exact all8 kI_5_3 b hb
  | 5, _, 4, _ => exact all8 kI_5_4 b hb
  | 5, _, 5, _ => exact all8 kI_5_5 b hb
  | 5, _, 6, _ => exact all8 kI_5_6 b hb
  | 5, _, 7, _ => exact all8 kI_5_7 b hb
  | 6, _, 0, _ => exact all8 kI_6_0 b hb
  | 6, _, 1, _ => exact all8 kI_6_1 b hb
  | 6, _, 2, _ => exact all8 kI_6_2 b hb
  | 6, _, 3, _ => exact all8 kI_6_3 b hb
  | 6, _, 4, _ => exact all8 kI_6_4 b hb
  | 6, _, 5, _ => exact all8 kI_6_5 b hb
  | 6, _, 6, _ => exact all8 kI_6_6 b hb
  | 6, _, 7, _ => exact all8 kI_6_7 b hb
  | 7, _, 0, _ => exact all8 kI_7_0 b hb
  | 7, _, 1, _ => exact all8 kI_7_1 b hb
  | 7, _, 2, _ => exact all8 kI_7_2 b hb
  | 7, _, 3, _ => exact all8 kI_7_3 b hb
  | 7, _, 4, _ => exact all8 kI_7_4 b hb
  | 7, _, 5, _ => exact all8 kI_7_5 b hb
  | 7, _, 6, _ => exact all8 kI_7_6 b hb
  | 7, _, 7, _ => exact all8 kI_7_7 b hb
theorem law_I (a b c : Nat) (ha : a < 8) (hb : b < 8) (hc : c < 8) : ∃ x l d, stmT (tI a b c) = (x, .ok l d) ∧ chI a b c x = true := by rw [tI_eq]; exact okS_ex (kI_all a b c ha hb hc)
theorem law_S (a b : Nat) (ha : a < 8) (hb : b < 8) : ∃ x l d, stmT (tS a b) = (x, .ok l d) ∧ chS a b x = true := by rw [tS_eq]; exact okS_ex (kS_all a b ha hb)
theorem law_U (c : Nat) (hc : c < 8) : ∃ x l d, stmT (tU c) = (x, .ok l d) ∧ chU c x = true := by rw [tU_eq]; exact okS_ex (all8 kU_all c hc)
theorem law_C (a : Nat) (ha : a < 8) : ∃ x l d, stmT (tC a) = (x, .ok l d) ∧ chC a x = true := by rw [tC_eq]; exact okS_ex (all8 kC_all a ha)
end Go.Proofs.Ytaogpifcfmjcbaa
end
section
namespace Go.Proofs.Ytaogpifcfmjcbaa
open Go.RowKit
set_option linter.unusedSimpArgs false
set_option linter.unusedVariables false
attribute [local go_sem] Rg.leads_value Rg.leads_skip Rg.leads_enter Rg.brings_value Rg.brings_skip Rg.brings_enter Rg.bringsG_value Rg.bringsG_enter Rg.once_normal Rg.once_exit Rg.once_ret Rg.once_panic Rg.once_goto Rg.bringsS_value Rg.bringsS_skip Rg.bringsS_enter Rg.still_value Rg.still_skip Rg.still_enter
set_option maxHeartbeats 4000000 in
set_option maxRecDepth 100000 in
theorem lstc_any (s : ByteArray) (n N : Nat) (hN : n + 1 = N) (hn : n < 8) (hs : s.size ≤ 1000) (w : World) : Calls Try.prog 9 #[.string s, .int .i64 (N : Int)] w fun e w' => e = .returned (.string (lstB s n)) ∧ w' = w := by
  have HN := hid hN
  have hNl : N ≤ 8 := by omega
  clear hN
  go_enter Try.func9, Try.ntmps9
  go_wp2_with fail
  go_loopw [5, 6] (fun s5 s6 wr => wr = w ∧ ∃ i : Nat, s5 = .string (lstB s i) ∧ s6 = .int .i64 ((i + 1 : Nat) : Int) ∧ i ≤ n) (fun s5 s6 _ => N - (intOf s6).toNat)
  · exact ⟨rfl, 0, rfl, rfl, Nat.zero_le _⟩
  · obtain ⟨hwr, i, rfl, rfl, hi⟩ := hrel
    subst hwr
    have hsz := lstB_size s i
    have hmul : i * (s.size + 2) ≤ 8 * 1002 := Nat.mul_le_mul (by omega) (by omega)
    by_cases hin : i < n
    · obtain ⟨j, hj⟩ : ∃ j, i + 1 = j := ⟨_, rfl⟩
      have hjN : j < N := by have := HN.out; omega
      have t3 : decide ((j : Int) < (N : Int)) = true := lt_dec _ _ hjN
      have hwi : wrap64 ((j : Int) + 1) = (j : Int) + 1 := wrap_next _ _ hjN (by omega)
      have hms := hid (meas_step N j hjN)
      have hni := hid (next_int j)
      have HW := hid hwi
      have HS : Hid (lstB s i ++ ⟨#[44, 32]⟩ ++ s = lstB s j) := hid (by rw [← hj]; rfl)
      have b1 : ¬ (9223372036854775807 < (lstB s i).size + 2) := by omega
      have b2 : ¬ (9223372036854775807 < (lstB s i).size + 2 + s.size) := by omega
      have hle : j ≤ n := by omega
      have HJ := hid hj
      rw [hj]
      generalize lstB s i = t at *
      clear hj hsz hmul hi hin
      go_wp2_with fail
      exact ⟨⟨trivial, j, congrArg Value.string HS.out, hni.out, hle⟩, hms.out⟩
    · obtain rfl : i = n := by omega
      have t3 : decide (((i + 1 : Nat) : Int) < (N : Int)) = false := nlt_dec _ _ (by have := HN.out; omega)
      have t4 : ¬ (i + 1 < N) := by have := HN.out; omega
      obtain ⟨j, hj⟩ : ∃ j, i + 1 = j := ⟨_, rfl⟩
      rw [hj] at t3 t4 ⊢
      clear hi hin hsz hmul hj
      obtain ⟨t, ht⟩ : ∃ t, lstB s i = t := ⟨_, rfl⟩
      have HT := hid ht
      rw [ht]
      clear ht
      go_wp2
      refine bodyPost_ret (v := .string t) (by simp [results, Try.results9, go_sem]) rfl ⟨by rw [HT.out], rfl⟩
theorem n_rows {S : Nat → Prop} {W : World} {x : Stm} {r : SR} (hx : StmAt S W x r) {c b : Nat} (hc : x.rows.length = c + 1) (hb : (x.rows[c]?).map List.length = some b) : ∃ g o cap oa2 cap2, r.rows = ⟨some ⟨g, o, none⟩, c + 1, cap⟩ ∧ W.cell? ⟨g, o + c, none⟩ = some (.slice oa2 b cap2) := by
  have hl : c < x.rows.length := by omega
  obtain ⟨g, o, rk, hoa, _, _, _, hat, hrk⟩ := ks_getK (K := kRow) hx.rows c hl
  have hn : r.rows.n = c + 1 := by rw [hx.rows.1, hc]
  have hb2 : rk.n = b := by
    have h1 : rk.n = (x.rows[c]'hl).length := (hat : KsAt kX S W _ rk).1
    rw [List.getElem?_eq_getElem hl] at hb
    rw [h1]
    simpa using hb
  have h := hrk 0 (Slc.val rk) rfl
  have e : o + c * kRow.n + 0 = o + c := by show o + c * 1 + 0 = _; omega
  rw [e] at h
  refine ⟨g, o, r.rows.cap, rk.oa, rk.cap, ?_, by rw [h, ← hb2]; rfl⟩
  rw [← hoa, ← hn]
theorem n_ord {S : Nat → Prop} {W : World} {x : Stm} {r : SR} (hx : StmAt S W x r) {c : Nat} (hc : x.order.length = c + 1) (hb : (x.order[0]?).map OrdS.desc = some true) : ∃ g o cap, r.order = ⟨some ⟨g, o, none⟩, c + 1, cap⟩ ∧ W.cell? ⟨g, o + 12, none⟩ = some (.bool true) := by
  have hl : 0 < x.order.length := by omega
  obtain ⟨g, o, rk, hoa, _, _, _, hat, hrk⟩ := ks_getK (K := kOrd) hx.order 0 hl
  have hn : r.order.n = c + 1 := by rw [hx.order.1, hc]
  have hd : rk.desc = true := by
    have h1 : rk.desc = (x.order[0]'hl).desc := hat.1
    rw [List.getElem?_eq_getElem hl] at hb
    rw [h1]
    simpa using hb
  have h := hrk 12 (.bool rk.desc) rfl
  have e : o + 0 * kOrd.n + 12 = o + 12 := by show o + 0 * 13 + 12 = _; omega
  rw [e, hd] at h
  refine ⟨g, o, r.order.cap, ?_, h⟩
  rw [← hoa, ← hn]
theorem n_col {S : Nat → Prop} {W : World} {x : Stm} {r : SR} (hx : StmAt S W x r) {c : Nat} (hc : x.cols.length = c + 1) (hb : (x.cols[c]?).map ColS.nn = some true) : ∃ g o cap, r.cols = ⟨some ⟨g, o, none⟩, c + 1, cap⟩ ∧ W.cell? ⟨g, o + c * 4 + 2, none⟩ = some (.bool true) := by
  have hl : c < x.cols.length := by omega
  obtain ⟨g, o, rk, hoa, _, _, _, hat, hrk⟩ := ks_getK (K := kCol) hx.cols c hl
  have hn : r.cols.n = c + 1 := by rw [hx.cols.1, hc]
  have hd : rk.nn = true := by
    have h1 : rk = x.cols[c]'hl := hat
    rw [List.getElem?_eq_getElem hl] at hb
    rw [h1]
    simpa using hb
  have h := hrk 2 (.bool rk.nn) rfl
  rw [hd] at h
  refine ⟨g, o, r.cols.cap, ?_, h⟩
  rw [← hoa, ← hn]
theorem n_len {α β : Type} {K : Kd α β} {S : Nat → Prop} {W : World} {ys : List β} {s : Slc} (h : KsAt K S W ys s) {c : Nat} (hc : ys.length = c) : s = ⟨s.oa, c, s.cap⟩ := by
  rw [← hc, ← h.1]
set_option maxHeartbeats 16000000 in
set_option maxRecDepth 100000 in
theorem lists_at8 (x y z : Int) (g h k a b c : Nat) (ha : g + 1 = a) (hb : h + 1 = b) (hc : k + 1 = c) (hg : g < 8) (hh : h < 8) (hk : k < 8) (ex : bits .and .i64 x 7 = (g : Int)) (ey : bits .and .i64 y 7 = (h : Int)) (ez : bits .and .i64 z 7 = (k : Int)) (w : World) (m : Int) (hm : w.cell? ⟨0, 0, none⟩ = some (.int .i64 m)) : Calls Try.prog 4 #[.int .i64 x, .int .i64 y, .int .i64 z] w (Yes w) := by
  have HY : Hid (∀ e w', e = .returned (.bool true) ∧ Gr w w' → Yes w e w') := hid (fun e w' h => h)
  generalize Yes w = Q at *
  have HM := hid hm
  have HA := hid ha
  have HB := hid hb
  have HC := hid hc
  have Hg := hid hg
  have Hh := hid hh
  have Hk := hid hk
  have wx : wrap64 ((g : Int) + 1) = (a : Int) := by rw [wrap_next 8 g hg (by decide), ← ha]; push_cast; rfl
  have wy : wrap64 ((h : Int) + 1) = (b : Int) := by rw [wrap_next 8 h hh (by decide), ← hb]; push_cast; rfl
  have wz : wrap64 ((k : Int) + 1) = (c : Int) := by rw [wrap_next 8 k hk (by decide), ← hc]; push_cast; rfl
  clear hm ha hb hc hg hh hk
  go_enter Try.func4, Try.ntmps4
  go_upto_region 3 with fail
  simp only [wx, wy, wz]
  clear ex ey ez wx wy wz
  have z1 := lstB_size ⟨#[120]⟩ g
  have z2 := lstB_size ⟨#[49]⟩ h
  have z4 := lstB_size (⟨#[40]⟩ ++ lstB ⟨#[49]⟩ h ++ ⟨#[41]⟩) k
  have zx : (lstB ⟨#[120]⟩ g).size ≤ 22 := by rw [z1]; show 1 + g * 3 ≤ 22; have := Hg.out; omega
  have zy : (lstB ⟨#[49]⟩ h).size ≤ 22 := by rw [z2]; show 1 + h * 3 ≤ 22; have := Hh.out; omega
  have zr : (⟨#[40]⟩ ++ lstB ⟨#[49]⟩ h ++ ⟨#[41]⟩).size ≤ 24 := by rw [ByteArray.size_append, ByteArray.size_append]; show 1 + _ + 1 ≤ 24; omega
  have zz : (lstB (⟨#[40]⟩ ++ lstB ⟨#[49]⟩ h ++ ⟨#[41]⟩) k).size ≤ 206 := by
    rw [z4]
    have h1 : k * ((⟨#[40]⟩ ++ lstB ⟨#[49]⟩ h ++ ⟨#[41]⟩).size + 2) ≤ 7 * 26 := Nat.mul_le_mul (by have := Hk.out; omega) (by omega)
    omega
  have HI : Hid (∀ W, W.cell? ⟨0, 0, none⟩ = some (.int .i64 m) → Calls Try.prog 8 #[.string (⟨#[73, 78, 83, 69, 82, 84, 32, 73, 78, 84, 79, 32, 116, 32, 40]⟩ ++ lstB ⟨#[120]⟩ g ++ ⟨#[41, 32, 86, 65, 76, 85, 69, 83, 32]⟩ ++ lstB (⟨#[40]⟩ ++ lstB ⟨#[49]⟩ h ++ ⟨#[41]⟩) k)] W (StmtP (tI g h k) W)) := hid (fun W hW => pstm_any (tI g h k) W (by
    unfold tI maxLen
    simp only [ByteArray.size_append]
    show 15 + _ + 9 + _ ≤ _
    omega) m hW)
  clear z1 z2 z4
  obtain ⟨L1, hL1⟩ : ∃ L, lstB ⟨#[120]⟩ g = L := ⟨_, rfl⟩
  obtain ⟨L2, hL2⟩ : ∃ L, lstB ⟨#[49]⟩ h = L := ⟨_, rfl⟩
  obtain ⟨L3, hL3⟩ : ∃ L, lstB (⟨#[40]⟩ ++ lstB ⟨#[49]⟩ h ++ ⟨#[41]⟩) k = L := ⟨_, rfl⟩
  rw [hL3] at HI zz
  rw [hL1] at HI zx
  rw [hL2] at zy zr
  have HL3 := hid hL3
  have HL2 := hid hL2
  have HL1 := hid hL1
  clear hL1 hL2 hL3
  obtain ⟨L4, hL4⟩ : ∃ L : ByteArray, (HAppend.hAppend (HAppend.hAppend (ByteArray.mk #[40]) L2) (ByteArray.mk #[41]) : ByteArray) = L := ⟨_, rfl⟩
  have HZR : Hid (L4.size ≤ 24) := hid (by rw [← hL4]; exact zr)
  have HL4 := hid hL4
  clear hL4
  have b1 : ¬ (9223372036854775807 < 15 + L1.size) := by omega
  have b2 : ¬ (9223372036854775807 < 15 + L1.size + 9) := by omega
  have b3 : ¬ (9223372036854775807 < 1 + L2.size) := by omega
  have b4 : ¬ (9223372036854775807 < 1 + L2.size + 1) := by omega
  have b5 : ¬ (9223372036854775807 < 15 + L1.size + 9 + L3.size) := by omega
  clear zx zy zr zz
  go_wp2_with fail
  refine (lstc_any ⟨#[120]⟩ g a HA.out Hg.out (by decide) _).mono ?_
  rintro e w' ⟨rfl, hw⟩
  rw [hw]
  clear hw w'
  rw [HL1.out]
  go_wp2_with fail
  refine (lstc_any ⟨#[49]⟩ h b HB.out Hh.out (by decide) _).mono ?_
  rintro e w' ⟨rfl, hw⟩
  rw [hw]
  clear hw w'
  rw [HL2.out]
  go_wp2_with fail
  rw [HL4.out]
  refine (lstc_any L4 k c HC.out Hk.out (Nat.le_trans HZR.out (by decide)) _).mono ?_
  rintro e w' ⟨rfl, hw⟩
  rw [hw]
  clear hw w'
  rw [show lstB L4 k = L3 from by rw [← HL3.out, ← HL4.out, ← HL2.out]]
  go_wp2_with fail
  refine (HI.out _ HM.out).mono ?_
  rintro e w1 he
  obtain ⟨x1, l1, d1, e1, ch1⟩ := law_I g h k Hg.out Hh.out Hk.out
  obtain ⟨hg1, r1, rfl, hat1⟩ := stmtP_ok he e1
  clear he e1 HI
  unfold chI at ch1
  simp only [Bool.and_eq_true, beq_iff_eq] at ch1
  obtain ⟨⟨k1, k2⟩, k3⟩ := ch1
  rw [HB.out] at k3
  rw [HA.out] at k1
  have n1 := n_len hat1.columns k1
  obtain ⟨b7, o7, cap7, oa9, cap9, n3, n4⟩ := n_rows hat1 k2 k3
  rw [HC.out] at n3
  clear k1 k2 k3
  have HAL1 : Hid ((w1.alloc (.cells zeroS.toArray 35)).heap[w1.heap.size]? = some (.cells zeroS.toArray 35 (0, 0))) := hid (alloc_at _ _)
  have HGw1 : Hid (Gr w w1) := hid (hg1)
  have HK1 : Hid (∀ W, W.heap[w1.heap.size]? = some (.cells (SR.cs r1).toArray 35 (0, 0)) → Gr w1 W → ∀ V, Gr W V → V.cell? ⟨w1.heap.size, 6, none⟩ = some (.slice r1.columns.oa a r1.columns.cap) ∧ V.cell? ⟨w1.heap.size, 7, none⟩ = some (.slice (some ⟨b7, o7, none⟩) c cap7) ∧ V.cell? ⟨b7, o7 + k, none⟩ = some (.slice oa9 b cap9)) := hid (fun W h hg V hv => by
    refine ⟨hv.keep ?_, hv.keep ?_, hv.keep (hg.keep n4)⟩
    · rw [Rg.blk_cells h]; show some r1.columns.val = _; rw [n1]; rfl
    · rw [Rg.blk_cells h]; show some r1.rows.val = _; rw [n3]; rfl
  )
  clear hat1 n1 n3 n4
  unfold SR.val
  have zy : (lstB ⟨#[49, 32, 65, 83, 32, 121]⟩ g).size ≤ 62 := by rw [lstB_size]; show 6 + g * 8 ≤ 62; have := Hg.out; omega
  have zd : (lstB ⟨#[49, 32, 68, 69, 83, 67]⟩ h).size ≤ 62 := by rw [lstB_size]; show 6 + h * 8 ≤ 62; have := Hh.out; omega
  have HS : Hid (∀ W, W.cell? ⟨0, 0, none⟩ = some (.int .i64 m) → Calls Try.prog 8 #[.string (⟨#[83, 69, 76, 69, 67, 84, 32]⟩ ++ lstB ⟨#[49, 32, 65, 83, 32, 121]⟩ g ++ ⟨#[32, 70, 82, 79, 77, 32, 116, 32, 74, 79, 73, 78, 32, 117, 32, 79, 78, 32, 84, 82, 85, 69, 32, 79, 82, 68, 69, 82, 32, 66, 89, 32]⟩ ++ lstB ⟨#[49, 32, 68, 69, 83, 67]⟩ h)] W (StmtP (tS g h) W)) := hid (fun W hW => pstm_any (tS g h) W (by
    unfold tS maxLen
    simp only [ByteArray.size_append]
    show 7 + _ + 32 + _ ≤ _
    omega) m hW)
  obtain ⟨M1, hM1⟩ : ∃ L, lstB ⟨#[49, 32, 65, 83, 32, 121]⟩ g = L := ⟨_, rfl⟩
  obtain ⟨M2, hM2⟩ : ∃ L, lstB ⟨#[49, 32, 68, 69, 83, 67]⟩ h = L := ⟨_, rfl⟩
  rw [hM1] at HS zy
  rw [hM2] at HS zd
  have HM1 := hid hM1
  have HM2 := hid hM2
  clear hM1 hM2
  have b1 : ¬ (9223372036854775807 < 7 + M1.size) := by omega
  have b2 : ¬ (9223372036854775807 < 7 + M1.size + 32) := by omega
  have b3 : ¬ (9223372036854775807 < 7 + M1.size + 32 + M2.size) := by omega
  clear zy zd
  go_wp2_with (guard_target =~ wpList _ _ _ (Oper.mk _ (Op.store 35 _ _) _ _ _ _ :: _) _ _; refine st_row (ty := 35) rfl rfl w1.heap.size (SR.cs r1).toArray rfl rfl 35 _ HAL1.out (by kernel_rfl) rfl (by kernel_rfl) ?_; intro W1 hW1 gW1 zW1)
  have HG1 : Hid (Gr w W1) := hid (gr_box HGw1.out rfl gW1)
  have HF1 := hid (HK1.out W1 hW1 (gr_box1 gW1))
  clear HK1 HGw1 HAL1 hW1 gW1 zW1
  refine (lstc_any ⟨#[49, 32, 65, 83, 32, 121]⟩ g a HA.out Hg.out (by decide) _).mono ?_
  rintro e w' ⟨rfl, hw⟩
  rw [hw]
  clear hw w'
  rw [HM1.out]
  go_wp2_with fail
  refine (lstc_any ⟨#[49, 32, 68, 69, 83, 67]⟩ h b HB.out Hh.out (by decide) _).mono ?_
  rintro e w' ⟨rfl, hw⟩
  rw [hw]
  clear hw w'
  rw [HM2.out]
  go_wp2_with fail
  refine (HS.out _ (HG1.out.keep HM.out)).mono ?_
  rintro e w2 he
  obtain ⟨x2, l2, d2, e2, ch2⟩ := law_S g h Hg.out Hh.out
  obtain ⟨hg2, r2, rfl, hat2⟩ := stmtP_ok he e2
  clear he e2 HS
  unfold chS at ch2
  simp only [Bool.and_eq_true, beq_iff_eq] at ch2
  obtain ⟨⟨⟨k1, k2⟩, k3⟩, k4⟩ := ch2
  rw [HA.out] at k1
  have n1 := n_len hat2.items k1
  have n4 := n_len hat2.refs k4
  obtain ⟨b16, o16, cap16, n3, n5⟩ := n_ord hat2 k2 k3
  rw [HB.out] at n3
  clear k1 k2 k3 k4
  have HAL2 : Hid ((w2.alloc (.cells zeroS.toArray 35)).heap[w2.heap.size]? = some (.cells zeroS.toArray 35 (0, 0))) := hid (alloc_at _ _)
  have HF1 := hid (fun V hv => HF1.out V (hg2.trans hv))
  have HGw2 : Hid (Gr w w2) := hid (HG1.out.trans (hg2))
  have HK2 : Hid (∀ W, W.heap[w2.heap.size]? = some (.cells (SR.cs r2).toArray 35 (0, 0)) → Gr w2 W → ∀ V, Gr W V → V.cell? ⟨w2.heap.size, 11, none⟩ = some (.slice r2.items.oa a r2.items.cap) ∧ V.cell? ⟨w2.heap.size, 38, none⟩ = some (.slice (some ⟨b16, o16, none⟩) b cap16) ∧ V.cell? ⟨w2.heap.size, 12, none⟩ = some (.slice r2.refs.oa 2 r2.refs.cap) ∧ V.cell? ⟨b16, o16 + 12, none⟩ = some (.bool true)) := hid (fun W h hg V hv => by
    refine ⟨hv.keep ?_, hv.keep ?_, hv.keep ?_, hv.keep (hg.keep n5)⟩
    · rw [Rg.blk_cells h]; show some r2.items.val = _; rw [n1]; rfl
    · rw [Rg.blk_cells h]; show some r2.order.val = _; rw [n3]; rfl
    · rw [Rg.blk_cells h]; show some r2.refs.val = _; rw [n4]; rfl
  )
  clear hat2 n1 n3 n4 n5
  unfold SR.val
  have zy : (lstB ⟨#[120, 32, 61, 32, 50]⟩ k).size ≤ 54 := by rw [lstB_size]; show 5 + k * 7 ≤ 54; have := Hk.out; omega
  have HU : Hid (∀ W, W.cell? ⟨0, 0, none⟩ = some (.int .i64 m) → Calls Try.prog 8 #[.string (⟨#[85, 80, 68, 65, 84, 69, 32, 116, 32, 83, 69, 84, 32]⟩ ++ lstB ⟨#[120, 32, 61, 32, 50]⟩ k)] W (StmtP (tU k) W)) := hid (fun W hW => pstm_any (tU k) W (by
    unfold tU maxLen
    simp only [ByteArray.size_append]
    show 13 + _ ≤ _
    omega) m hW)
  obtain ⟨N1, hN1⟩ : ∃ L, lstB ⟨#[120, 32, 61, 32, 50]⟩ k = L := ⟨_, rfl⟩
  rw [hN1] at HU zy
  have HN1 := hid hN1
  clear hN1 b1 b2 b3
  have b1 : ¬ (9223372036854775807 < 13 + N1.size) := by omega
  clear zy
  go_wp2_with (guard_target =~ wpList _ _ _ (Oper.mk _ (Op.store 35 _ _) _ _ _ _ :: _) _ _; refine st_row (ty := 35) rfl rfl w2.heap.size (SR.cs r2).toArray rfl rfl 35 _ HAL2.out (by kernel_rfl) rfl (by kernel_rfl) ?_; intro W2 hW2 gW2 zW2)
  have HG2 : Hid (Gr w W2) := hid (gr_box HGw2.out rfl gW2)
  have HF1 := hid (fun V hv => HF1.out V ((gr_box1 gW2).trans hv))
  have HF2 := hid (HK2.out W2 hW2 (gr_box1 gW2))
  clear HK2 HGw2 HAL2 hW2 gW2 zW2
  refine (lstc_any ⟨#[120, 32, 61, 32, 50]⟩ k c HC.out Hk.out (by decide) _).mono ?_
  rintro e w' ⟨rfl, hw⟩
  rw [hw]
  clear hw w'
  rw [HN1.out]
  go_wp2_with fail
  refine (HU.out _ (HG2.out.keep HM.out)).mono ?_
  rintro e w3 he
  obtain ⟨x3, l3, d3, e3, ch3⟩ := law_U k Hk.out
  obtain ⟨hg3, r3, rfl, hat3⟩ := stmtP_ok he e3
  clear he e3 HU
  unfold chU at ch3
  simp only [Bool.and_eq_true, beq_iff_eq] at ch3
  obtain ⟨k1, k2⟩ := ch3
  rw [HC.out] at k1 k2
  have n1 := n_len hat3.sets k1
  have n2 := n_len hat3.columns k2
  clear k1 k2
  have HAL3 : Hid ((w3.alloc (.cells zeroS.toArray 35)).heap[w3.heap.size]? = some (.cells zeroS.toArray 35 (0, 0))) := hid (alloc_at _ _)
  have HF1 := hid (fun V hv => HF1.out V (hg3.trans hv))
  have HF2 := hid (fun V hv => HF2.out V (hg3.trans hv))
  have HGw3 : Hid (Gr w w3) := hid (HG2.out.trans (hg3))
  have HK3 : Hid (∀ W, W.heap[w3.heap.size]? = some (.cells (SR.cs r3).toArray 35 (0, 0)) → Gr w3 W → ∀ V, Gr W V → V.cell? ⟨w3.heap.size, 8, none⟩ = some (.slice r3.sets.oa c r3.sets.cap) ∧ V.cell? ⟨w3.heap.size, 6, none⟩ = some (.slice r3.columns.oa c r3.columns.cap)) := hid (fun W h hg V hv => by
    refine ⟨hv.keep ?_, hv.keep ?_⟩
    · rw [Rg.blk_cells h]; show some r3.sets.val = _; rw [n1]; rfl
    · rw [Rg.blk_cells h]; show some r3.columns.val = _; rw [n2]; rfl
  )
  clear hat3 n1 n2
  unfold SR.val
  have zy : (lstB ⟨#[120, 32, 73, 78, 84, 32, 78, 79, 84, 32, 78, 85, 76, 76]⟩ g).size ≤ 126 := by rw [lstB_size]; show 14 + g * 16 ≤ 126; have := Hg.out; omega
  have HR : Hid (∀ W, W.cell? ⟨0, 0, none⟩ = some (.int .i64 m) → Calls Try.prog 8 #[.string (⟨#[67, 82, 69, 65, 84, 69, 32, 84, 65, 66, 76, 69, 32, 116, 32, 40]⟩ ++ lstB ⟨#[120, 32, 73, 78, 84, 32, 78, 79, 84, 32, 78, 85, 76, 76]⟩ g ++ ⟨#[41]⟩)] W (StmtP (tC g) W)) := hid (fun W hW => pstm_any (tC g) W (by
    unfold tC maxLen
    simp only [ByteArray.size_append]
    show 16 + _ + 1 ≤ _
    omega) m hW)
  obtain ⟨O1, hO1⟩ : ∃ L, lstB ⟨#[120, 32, 73, 78, 84, 32, 78, 79, 84, 32, 78, 85, 76, 76]⟩ g = L := ⟨_, rfl⟩
  rw [hO1] at HR zy
  have HO1 := hid hO1
  clear hO1 b1
  have b1 : ¬ (9223372036854775807 < 16 + O1.size) := by omega
  have b2 : ¬ (9223372036854775807 < 16 + O1.size + 1) := by omega
  clear zy
  go_wp2_with (guard_target =~ wpList _ _ _ (Oper.mk _ (Op.store 35 _ _) _ _ _ _ :: _) _ _; refine st_row (ty := 35) rfl rfl w3.heap.size (SR.cs r3).toArray rfl rfl 35 _ HAL3.out (by kernel_rfl) rfl (by kernel_rfl) ?_; intro W3 hW3 gW3 zW3)
  have HG3 : Hid (Gr w W3) := hid (gr_box HGw3.out rfl gW3)
  have HF1 := hid (fun V hv => HF1.out V ((gr_box1 gW3).trans hv))
  have HF2 := hid (fun V hv => HF2.out V ((gr_box1 gW3).trans hv))
  have HF3 := hid (HK3.out W3 hW3 (gr_box1 gW3))
  clear HK3 HGw3 HAL3 hW3 gW3 zW3
  refine (lstc_any ⟨#[120, 32, 73, 78, 84, 32, 78, 79, 84, 32, 78, 85, 76, 76]⟩ g a HA.out Hg.out (by decide) _).mono ?_
  rintro e w' ⟨rfl, hw⟩
  rw [hw]
  clear hw w'
  rw [HO1.out]
  go_wp2_with fail
  refine (HR.out _ (HG3.out.keep HM.out)).mono ?_
  rintro e w4 he
  obtain ⟨x4, l4, d4, e4, ch4⟩ := law_C g Hg.out
  obtain ⟨hg4, r4, rfl, hat4⟩ := stmtP_ok he e4
  clear he e4 HR
  unfold chC at ch4
  simp only [Bool.and_eq_true, beq_iff_eq] at ch4
  obtain ⟨k1, k2⟩ := ch4
  obtain ⟨b5, o5, cap5, n3, n4⟩ := n_col hat4 k1 k2
  rw [HA.out] at n3
  clear k1 k2
  have HAL4 : Hid ((w4.alloc (.cells zeroS.toArray 35)).heap[w4.heap.size]? = some (.cells zeroS.toArray 35 (0, 0))) := hid (alloc_at _ _)
  have HF1 := hid (fun V hv => HF1.out V (hg4.trans hv))
  have HF2 := hid (fun V hv => HF2.out V (hg4.trans hv))
  have HF3 := hid (fun V hv => HF3.out V (hg4.trans hv))
  have HGw4 : Hid (Gr w w4) := hid (HG3.out.trans (hg4))
  have HK4 : Hid (∀ W, W.heap[w4.heap.size]? = some (.cells (SR.cs r4).toArray 35 (0, 0)) → Gr w4 W → ∀ V, Gr W V → V.cell? ⟨w4.heap.size, 5, none⟩ = some (.slice (some ⟨b5, o5, none⟩) a cap5) ∧ V.cell? ⟨b5, o5 + g * 4 + 2, none⟩ = some (.bool true)) := hid (fun W h hg V hv => by
    refine ⟨hv.keep ?_, hv.keep (hg.keep n4)⟩
    rw [Rg.blk_cells h]; show some r4.cols.val = _; rw [n3]; rfl
  )
  clear hat4 n3 n4
  unfold SR.val
  clear b1 b2
  have HA7 := hid (fun W (h : Gr w W) => awake_any W m (h.keep HM.out))
  have g1 : (g : Int) < (a : Int) := by have := HA.out; omega
  have g2 : (k : Int) < (c : Int) := by have := HC.out; omega
  have g3 : (0 : Int) < (b : Int) := by have := HB.out; omega
  have s1 : wrap64 ((a : Int) - 1) = (g : Int) := by have := HA.out; have := Hg.out; unfold wrap64; omega
  have s2 : wrap64 ((c : Int) - 1) = (k : Int) := by have := HC.out; have := Hk.out; unfold wrap64; omega
  go_upto_region 7 with (guard_target =~ wpList _ _ _ (Oper.mk _ (Op.store 35 _ _) _ _ _ _ :: _) _ _; refine st_row (ty := 35) rfl rfl w4.heap.size (SR.cs r4).toArray rfl rfl 35 _ HAL4.out (by kernel_rfl) rfl (by kernel_rfl) ?_; intro W4 hW4 gW4 zW4; have HG4 : Hid (Gr w W4) := hid (gr_box HGw4.out rfl gW4); obtain ⟨p1, p2, p3⟩ := HF1.out W4 (gr_box1 gW4); obtain ⟨p4, p5, p6, p7⟩ := HF2.out W4 (gr_box1 gW4); obtain ⟨p8, p9⟩ := HF3.out W4 (gr_box1 gW4); obtain ⟨p10, p11⟩ := HK4.out W4 hW4 (gr_box1 gW4) W4 (Gr.refl _); clear HK4 HGw4 HAL4 hW4 gW4 zW4 HF1 HF2 HF3)
  go_wp2_with fail
  refine (HA7.out W4 HG4.out).mono ?_
  rintro e w5 ⟨rfl, hg5⟩
  have HQ := hid (HY.out _ _ ⟨rfl, HG4.out.trans hg5⟩)
  clear hg5 HA7 HG4 p1 p2 p3 p4 p5 p6 p7 p8 p9 p10 p11
  go_wp2
  first | exact HQ.out | (go_ret; exact HQ.out) | (go_ret3; exact HQ.out)
theorem parselists_any (x y z : Int) (w : World) (m : Int) (hm : w.cell? ⟨0, 0, none⟩ = some (.int .i64 m)) : Calls Try.prog 4 #[.int .i64 x, .int .i64 y, .int .i64 z] w (Yes w) := by
  obtain ⟨g, hg, ex⟩ := and_seven x
  obtain ⟨h, hh, ey⟩ := and_seven y
  obtain ⟨k, hk, ez⟩ := and_seven z
  exact lists_at8 x y z g h k _ _ _ rfl rfl rfl hg hh hk ex ey ez w m hm
end Go.Proofs.Ytaogpifcfmjcbaa
end

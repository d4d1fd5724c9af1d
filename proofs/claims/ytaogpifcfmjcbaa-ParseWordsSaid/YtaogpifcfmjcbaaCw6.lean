/- Texts of this claim, put together: walks of functions and plain laws, of no condition. -/
import Derived.Test.YtaogpifcfmjcbaaCw5
import Derived.ChangeSame
import Derived.ProofKit
import Derived.OpenShut
section
namespace Go.Proofs.Ytaogpifcfmjcbaa
open Go.RowKit
set_option linter.unusedSimpArgs false
set_option linter.unusedVariables false
attribute [local go_sem] Rg.leads_value Rg.leads_skip Rg.leads_enter Rg.brings_value Rg.brings_skip Rg.brings_enter Rg.bringsG_value Rg.bringsG_enter Rg.once_normal Rg.once_exit Rg.once_ret Rg.once_panic Rg.once_goto Rg.bringsS_value Rg.bringsS_skip Rg.bringsS_enter Rg.still_value Rg.still_skip Rg.still_enter
def stmT (t : ByteArray) : Stm × Ps := let q := stmS (readS t); (q.1, (q.2.may 4 ⟨#[59]⟩).2.over)
def noS : Value := .agg zeroS.toArray
def StmtP (t : ByteArray) (w : World) (e : Ending) (w' : World) : Prop := Gr w w' ∧ match (stmT t).2 with
  | .ok _ _ => ∃ r, e = .returned (.tuple #[SR.val r, .int .i64 0, .int .i64 0]) ∧ StmAt (Nw w) w' (stmT t).1 r
  | .bad x a => x ≠ 0 ∧ e = .returned (.tuple #[noS, .int .i64 x, .int .i64 (a : Int)])
theorem may_good2 {k : Nat} {c : ByteArray} {s : Ps} (h : (s.may k c).2.good = true) : s.good = true := by
  cases s with
  | ok l d => rfl
  | bad x a => exact h
theorem over_ok {s : Ps} {l : List Lx.Tok} {d : Nat} (h : s.over = .ok l d) : s = .ok l d ∧ (Ps.ok l d).headK = 5 := by
  unfold Ps.over at h
  split at h
  · rename_i h1
    refine ⟨h, ?_⟩
    rw [h] at h1
    rcases h1 with h1 | h1
    · exact h1
    · cases h1
  · cases s with
    | ok l' d' => cases l' <;> cases h
    | bad e a => cases h
theorem over_bad {s : Ps} {x : Int} {a : Nat} (h : s.over = .bad x a) (hs : ∀ e b, s = .bad e b → e ≠ 0) : x ≠ 0 := by
  unfold Ps.over at h
  split at h
  · exact hs _ _ h
  · cases s with
    | ok l' d' => cases l' <;> (cases h; decide)
    | bad e b => cases h; exact hs _ _ rfl
set_option maxRecDepth 100000 in
theorem res_stm {w : World} {g : Nat} {tmps : Array Value} {u3 u4 : Value} {cs : List Value} (hp : tmps.getD 2 undef = .pointer (some ⟨g, 0, none⟩)) (h3 : tmps.getD 3 undef = u3) (h4 : tmps.getD 4 undef = u4) (hg : w.heap[g]? = some (.cells cs.toArray 35 (0, 0))) (hi : (Try.prog.info? 35).map (·.size) = some cs.toArray.size) :
    (results Try.f8 tmps).run Try.prog w = .ok (.tuple #[.agg cs.toArray, u3, u4]) w := by
  have hp' : tmps[2]?.getD undef = .pointer (some ⟨g, 0, none⟩) := by simpa using hp
  have h3' : tmps[3]?.getD undef = u3 := by simpa using h3
  have h4' : tmps[4]?.getD undef = u4 := by simpa using h4
  have h := run_loadVar_row (P := Try.prog) w g 35 35 cs.toArray (0, 0) _ hg Try.underlying35 rfl hi
  simp [results, Try.results8, hp', h3', h4', asAddr, h]
set_option maxHeartbeats 8000000 in
set_option maxRecDepth 100000 in
theorem pstm_bad (t : ByteArray) (w : World) (x : Int) (a : Nat) (hr : readS t = .bad x a) (HB : Calls Try.prog 13 #[.string t] (w.alloc (.cells zeroS.toArray 35)) (BeginP t (w.alloc (.cells zeroS.toArray 35)))) : Calls Try.prog 8 #[.string t] w (StmtP t w) := by
  have e2 : (stmT t).2 = .bad x a := by
    unfold stmT
    rw [hr]
    rfl
  have HX : x ≠ 0 → Hid (∀ w', Gr w w' → StmtP t w (.returned (.tuple #[noS, .int .i64 x, .int .i64 (a : Int)])) w') := fun hx => hid (fun w' h => ⟨h, by rw [e2]; exact ⟨hx, rfl⟩⟩)
  generalize StmtP t w = Q at *
  unfold BeginP at HB
  rw [hr] at HB
  clear e2 hr
  have HA0 : Hid (Gr w (w.alloc (.cells zeroS.toArray 35))) := hid ((Gr.refl w).alloc _)
  have HZ0 : Hid ((w.alloc (.cells zeroS.toArray 35)).heap[w.heap.size]? = some (.cells zeroS.toArray 35 (0, 0))) := hid (alloc_at _ _)
  go_enter Try.func8, Try.ntmps8
  go_wp2_with fail
  refine HB.mono ?_
  rintro e w1 ⟨hg, hx, rfl⟩
  have H0 := hid ((hg.block _ (Array.getElem?_eq_some_iff.1 HZ0.out).1).trans HZ0.out)
  have q1 : (x != 0) = true := by simpa using hx
  have HF : Hid (∀ W9, Go1 w.heap.size w1 W9 → Q (.returned (.tuple #[noS, .int .i64 x, .int .i64 (a : Int)])) W9) := hid (fun W9 h9 => (HX hx).out W9 ((HA0.out.trans hg).grown h9 (fun g e => by cases e; exact Nat.le_refl _)))
  clear hg HX HB
  go_wp2_with (guard_target =~ wpList _ _ _ (Oper.mk _ (Op.store 35 _ _) _ _ _ _ :: _) _ _; refine st_row (ty := 35) rfl rfl w.heap.size (zeroS).toArray rfl rfl 35 _ H0.out (by kernel_rfl) rfl (by kernel_rfl) ?_; intro W9 hW9 gW9 zW9)
  (try change bodyPost _ _ _ _ _ _)
  refine bodyPost_ret (v := .tuple #[noS, .int .i64 x, .int .i64 (a : Int)]) (res_stm rfl rfl rfl hW9 (by kernel_rfl)) rfl (HF.out W9 gW9)
set_option maxHeartbeats 8000000 in
set_option maxRecDepth 100000 in
theorem pstm_good (t : ByteArray) (w : World) (l0 : List Lx.Tok) (hr : readS t = .ok l0 0) (hl0 : l0.length ≤ 4097) (l : List Lx.Tok) (d : Nat) (hq : ((stmS (readS t)).2.may 4 ⟨#[59]⟩).2 = .ok l d) (h5 : (Ps.ok l d).headK = 5)
    (HB : Calls Try.prog 13 #[.string t] (w.alloc (.cells zeroS.toArray 35)) (BeginP t (w.alloc (.cells zeroS.toArray 35)))) : Calls Try.prog 8 #[.string t] w (StmtP t w) := by
  have e2 : stmT t = ((stmS (readS t)).1, .ok l d) := by
    unfold stmT
    simp only
    rw [hq]
    unfold Ps.over
    rw [if_pos (.inl h5)]
  have HX : Hid (∀ w' r, Gr w w' → StmAt (Nw w) w' (stmS (readS t)).1 r → StmtP t w (.returned (.tuple #[SR.val r, .int .i64 0, .int .i64 0])) w') := hid (fun w' r h hx => ⟨h, by rw [e2]; exact ⟨r, rfl, hx⟩⟩)
  generalize StmtP t w = Q at *
  rw [hr] at hq HX
  have hsz : (Ps.ok l0 0).size ≤ 900000 := by show l0.length ≤ _; omega
  have HST := hid (fun p w' (h : PS p w' (.ok l0 0)) => statement_any p _ w' h hsz)
  unfold BeginP at HB
  rw [hr] at HB
  clear e2 hr hsz hl0
  generalize stmS (.ok l0 0) = R at *
  have hRg : R.2.good = true := may_good2 (by rw [hq]; rfl)
  have HA0 : Hid (Gr w (w.alloc (.cells zeroS.toArray 35))) := hid ((Gr.refl w).alloc _)
  have HZ0 : Hid ((w.alloc (.cells zeroS.toArray 35)).heap[w.heap.size]? = some (.cells zeroS.toArray 35 (0, 0))) := hid (alloc_at _ _)
  go_enter Try.func8, Try.ntmps8
  go_wp2_with fail
  refine HB.mono ?_
  rintro e w1 ⟨hg, _, _, _, p, hpw, rfl, hps⟩
  clear HB
  have hlt0 := (Array.getElem?_eq_some_iff.1 HZ0.out).1
  have hpw0 : w.heap.size < p := by omega
  have hH1 : w1.heap[w.heap.size]? = some (.cells zeroS.toArray 35 (0, 0)) := (hg.block _ hlt0).trans HZ0.out
  have hG1 : Gr w w1 := HA0.out.trans hg
  have hz1 := hps.lt
  clear HA0 HZ0 hlt0 hpw
  have HPS := hid hps
  have HG1 := hid hG1
  have HH1 := hid hH1
  clear hps hg hG1 hH1
  go_wp2_with fail
  refine (HST.out p w1 HPS.out).mono ?_
  rintro e w2 ⟨u, rfl, r, y, rfl, hy, hps2, hgo2, hgd⟩
  have hz2 := hgo2.size
  have hp2 := hps2.lt
  have hG2 : Gr w w2 := Go1.up HG1.out hgo2 (by omega)
  have hH2 : w2.heap[w.heap.size]? = some (.cells zeroS.toArray 35 (0, 0)) := (hgo2.get (by omega) (by omega)).trans HH1.out
  have hA := (Gr.refl w2).alloc (.cells zeroS.toArray 35)
  have HAL : Hid ((w2.alloc (.cells zeroS.toArray 35)).heap[w2.heap.size]? = some (.cells zeroS.toArray 35 (0, 0))) := hid (alloc_at _ _)
  have HP3 : Hid (∀ W3, Go1 w2.heap.size (w2.alloc (.cells zeroS.toArray 35)) W3 → PS p W3 R.2) := hid (fun W3 h3 => (hps2.keep hA).go h3 hp2)
  have HG3 : Hid (∀ W3, Go1 w2.heap.size (w2.alloc (.cells zeroS.toArray 35)) W3 → Gr w W3 ∧ W3.heap[w.heap.size]? = some (.cells zeroS.toArray 35 (0, 0)) ∧ StmAt (fun b => w1.heap.size ≤ b ∧ b < w2.heap.size) W3 y r) := hid (fun W3 h3 => by
    refine ⟨(hG2.trans hA).grown h3 (fun g e => by cases e; have := hG2.size; omega), ?_, ?_⟩
    · rw [h3.get (by simp; omega) (by omega), hA.block _ (by omega)]; exact hH2
    · have h1 := (hy.mono (S' := fun b => w1.heap.size ≤ b ∧ b < w2.heap.size) (fun b hl hs => ⟨hs, hl⟩)).of hA.size (fun b _ hl => hA.block b hl)
      exact h1.of h3.size (fun b hb hl => h3.get hl (by have := hb.2; omega)))
  have HGD := hid hgd
  clear hy hps2 hgo2 hgd hG2 hH2 hA HPS HG1 HH1 HST
  unfold SR.val
  go_wp2_with (guard_target =~ wpList _ _ _ (Oper.mk _ (Op.store 35 _ _) _ _ _ _ :: _) _ _; refine st_row (ty := 35) rfl rfl w2.heap.size (SR.cs r).toArray rfl rfl 35 _ HAL.out (by kernel_rfl) rfl (by kernel_rfl) ?_; intro W3 hW3 gW3 zW3)
  obtain ⟨hG3, hH3, hy3⟩ := HG3.out W3 gW3
  have hps3 := HP3.out W3 gW3
  clear HG3 HP3 gW3 HAL
  have HY := hid hy3
  have HBX := hid hW3
  have HG3 := hid hG3
  have HH3 := hid hH3
  clear hy3 hW3 hG3 hH3
  refine (sign_any' p ⟨#[59]⟩ R.2 W3 hps3).mono ?_
  rintro e w4 ⟨rfl, hps4, hgo4⟩
  clear hps3
  have hz4 := hgo4.size
  have hGr4 : Gr w w4 := Go1.up HG3.out hgo4 (by omega)
  have hB4 : w4.heap[w2.heap.size]? = some (.cells (SR.cs r).toArray 35 (0, 0)) := (hgo4.get (by have := (Array.getElem?_eq_some_iff.1 HBX.out).1; exact this) (by omega)).trans HBX.out
  have hH4 : w4.heap[w.heap.size]? = some (.cells zeroS.toArray 35 (0, 0)) := (hgo4.get (Array.getElem?_eq_some_iff.1 HH3.out).1 (by omega)).trans HH3.out
  have hY4 : StmAt (fun b => w1.heap.size ≤ b ∧ b < w2.heap.size) w4 y r := HY.out.of hgo4.size (fun b hb hl => hgo4.get hl (by have := hb.1; omega))
  clear HG3 HBX HH3 HY hgo4
  rw [hq] at hps4
  have hyy : y = R.1 := HGD.out hRg
  subst hyy
  obtain ⟨b, off, n, c, tk, hn1, hnc, hbl, p0, p2, p3, b0, htk⟩ := tok_head hps4.2
  have htk5 : tk = 5 := by
    cases l with
    | nil => exact hps4.2.nil.elim
    | cons t0 r0 => rw [← htk t0 r0 rfl]; exact h5
  have q5 : ((tk : Int) != 5) = false := by rw [htk5]; rfl
  have g2 : (0 : Int) < (n : Int) := by omega
  have HCL := hid (clip_stm R.1 r (fun b => w1.heap.size ≤ b ∧ b < w2.heap.size) w4 hY4)
  have HB4 := hid hB4
  have H04 : Hid (∀ W, Cl (fun b => w1.heap.size ≤ b ∧ b < w2.heap.size) w4 W → W.heap[w.heap.size]? = some (.cells zeroS.toArray 35 (0, 0))) := hid (fun W h => (h.block _ (Array.getElem?_eq_some_iff.1 hH4).1 (fun hh => by have := hh.1; omega)).trans hH4)
  have FI : Hid (∀ W W9, Cl (fun b => w1.heap.size ≤ b ∧ b < w2.heap.size) w4 W → Go1 w.heap.size W W9 → Q (.returned (.tuple #[SR.val r.c3, .int .i64 0, .int .i64 0])) W9) := hid (fun W W9 h4 h9 => by
    have g4 : Gr w W := h4.gr hGr4 (fun b hb => by have := hb.1; omega)
    refine HX.out W9 _ (g4.grown h9 (fun g e => by cases e; exact Nat.le_refl _)) ?_
    have h1 := hY4.cl h4 (SR.c3_like hY4)
    exact (h1.of h9.size (fun b hb hl => h9.get hl (by have := hb.1; omega))).mono (fun b _ hb => by have := hb.1; show w.heap.size ≤ b; omega))
  clear hps4 hGr4 hB4 hH4 hY4 HX HGD htk htk5 h5 hq hRg
  go_wp2_with (guard_target =~ wpList _ _ _ (Oper.mk _ (Op.load 35 _) _ _ _ _ :: _) _ _; refine wpList_load_row rfl 35 _ rfl w2.heap.size rfl 35 (SR.cs r).toArray (0, 0) _ HB4.out Try.underlying35 rfl (by kernel_rfl) ?_)
  refine HCL.out.mono ?_
  rintro e w5 ⟨rfl, h45⟩
  have H0 := hid (H04.out w5 h45)
  have HF := hid (fun W9 h9 => FI.out w5 W9 h45 h9)
  clear h45 FI H04 HCL HB4 p0 p2 p3 b0
  unfold SR.val
  go_wp2_with (guard_target =~ wpList _ _ _ (Oper.mk _ (Op.store 35 _ _) _ _ _ _ :: _) _ _; refine st_row (ty := 35) rfl rfl w.heap.size (SR.cs r.c3).toArray rfl rfl 35 _ H0.out (by kernel_rfl) rfl (by kernel_rfl) ?_; intro W9 hW9 gW9 zW9)
  (try change bodyPost _ _ _ _ _ _)
  refine bodyPost_ret (v := .tuple #[SR.val r.c3, .int .i64 0, .int .i64 0]) (res_stm rfl rfl rfl hW9 (by kernel_rfl)) rfl (HF.out W9 gW9)
def ErT (R0 : Nat) (w5 : World) (s : Nat) (v : Nat → Value) (W : World) : Prop := if s = 0 then Gr w5 W else Go1 R0 w5 W ∧ W.heap[R0]? = some (.cells zeroS.toArray 35 (0, 0))
theorem ErT.s0 {R0 : Nat} {w5 W : World} {v : Nat → Value} (h : Gr w5 W) : ErT R0 w5 0 v W := by unfold ErT; rw [if_pos rfl]; exact h
theorem ErT.g0 {R0 : Nat} {w5 W : World} {v : Nat → Value} (h : ErT R0 w5 0 v W) : Gr w5 W := by unfold ErT at h; rw [if_pos rfl] at h; exact h
theorem ErT.s1 {R0 : Nat} {w5 W : World} {v : Nat → Value} (h : Go1 R0 w5 W) (hz : W.heap[R0]? = some (.cells zeroS.toArray 35 (0, 0))) : ErT R0 w5 1 v W := by unfold ErT; rw [if_neg (by decide)]; exact ⟨h, hz⟩
theorem ErT.g1 {R0 : Nat} {w5 W : World} {v : Nat → Value} (h : ErT R0 w5 1 v W) : Go1 R0 w5 W ∧ W.heap[R0]? = some (.cells zeroS.toArray 35 (0, 0)) := by unfold ErT at h; rw [if_neg (by decide)] at h; exact h
theorem ErT.go {R0 s : Nat} {w5 W : World} {v : Nat → Value} (h : ErT R0 w5 s v W) : Go1 R0 w5 W := by
  unfold ErT at h
  split at h
  · exact .of h
  · exact h.1
theorem putL_append : ∀ (vs us : List Value) (zs : List Value), us.length = vs.length → ∀ pre : List Value, putL (pre ++ us ++ zs) pre.length vs = pre ++ vs ++ zs
  | [], us, zs, h, pre => by
    have : us = [] := List.eq_nil_of_length_eq_zero h
    subst this
    rfl
  | v :: vs, [], zs, h, pre => by simp at h
  | v :: vs, u :: us, zs, h, pre => by
    have h1 := putL_append vs us zs (by simpa using h) (pre ++ [v])
    unfold putL
    have e : (pre ++ u :: us ++ zs).set pre.length v = pre ++ [v] ++ us ++ zs := by simp
    rw [e]
    simpa using h1
theorem putL_self (vs : List Value) (o : Nat) (us : List Value) (h : us.length = vs.length) (ho : o = 0 := by rfl) : putL us o vs = vs := by
  subst ho
  have := putL_append vs us [] h []
  simpa using this
set_option maxHeartbeats 8000000 in
set_option maxRecDepth 100000 in
theorem pstm_err (t : ByteArray) (w : World) (l0 : List Lx.Tok) (hr : readS t = .ok l0 0) (hl0 : l0.length ≤ 4097) (x : Int) (a : Nat) (hq : (stmT t).2 = .bad x a)
    (HB : Calls Try.prog 13 #[.string t] (w.alloc (.cells zeroS.toArray 35)) (BeginP t (w.alloc (.cells zeroS.toArray 35)))) : Calls Try.prog 8 #[.string t] w (StmtP t w) := by
  have HX0 : Hid (x ≠ 0 → ∀ w', Gr w w' → StmtP t w (.returned (.tuple #[noS, .int .i64 x, .int .i64 (a : Int)])) w') := hid (fun hx0 w' h => ⟨h, by rw [hq]; exact ⟨hx0, rfl⟩⟩)
  generalize StmtP t w = Q at *
  have hq2 : ((stmS (.ok l0 0)).2.may 4 ⟨#[59]⟩).2.over = .bad x a := by rw [← hr]; exact hq
  have hsz : (Ps.ok l0 0).size ≤ 900000 := by show l0.length ≤ _; omega
  have HST := hid (fun p w' (h : PS p w' (.ok l0 0)) => statement_any p _ w' h hsz)
  unfold BeginP at HB
  rw [hr] at HB
  clear hr hq hsz hl0
  generalize stmS (.ok l0 0) = R at *
  have HA0 : Hid (Gr w (w.alloc (.cells zeroS.toArray 35))) := hid ((Gr.refl w).alloc _)
  have HZ0 : Hid ((w.alloc (.cells zeroS.toArray 35)).heap[w.heap.size]? = some (.cells zeroS.toArray 35 (0, 0))) := hid (alloc_at _ _)
  go_enter Try.func8, Try.ntmps8
  go_wp2_with fail
  refine HB.mono ?_
  rintro e w1 ⟨hg, _, _, _, p, hpw, rfl, hps⟩
  clear HB
  have hlt0 := (Array.getElem?_eq_some_iff.1 HZ0.out).1
  have hpw0 : w.heap.size < p := by omega
  have hH1 : w1.heap[w.heap.size]? = some (.cells zeroS.toArray 35 (0, 0)) := (hg.block _ hlt0).trans HZ0.out
  have hG1 : Gr w w1 := HA0.out.trans hg
  have hz1 := hps.lt
  clear HA0 HZ0 hlt0 hpw
  have HPS := hid hps
  have HG1 := hid hG1
  have HH1 := hid hH1
  clear hps hg hG1 hH1
  go_wp2_with fail
  refine (HST.out p w1 HPS.out).mono ?_
  rintro e w2 ⟨u, rfl, r, y, rfl, hy, hps2, hgo2, hgd⟩
  have hz2 := hgo2.size
  have hp2 := hps2.lt
  have hG2 : Gr w w2 := Go1.up HG1.out hgo2 (by omega)
  have hH2 : w2.heap[w.heap.size]? = some (.cells zeroS.toArray 35 (0, 0)) := (hgo2.get (by omega) (by omega)).trans HH1.out
  have hA := (Gr.refl w2).alloc (.cells zeroS.toArray 35)
  have HAL : Hid ((w2.alloc (.cells zeroS.toArray 35)).heap[w2.heap.size]? = some (.cells zeroS.toArray 35 (0, 0))) := hid (alloc_at _ _)
  have HP3 : Hid (∀ W3, Go1 w2.heap.size (w2.alloc (.cells zeroS.toArray 35)) W3 → PS p W3 R.2) := hid (fun W3 h3 => (hps2.keep hA).go h3 hp2)
  have HG3 : Hid (∀ W3, Go1 w2.heap.size (w2.alloc (.cells zeroS.toArray 35)) W3 → Gr w W3 ∧ W3.heap[w.heap.size]? = some (.cells zeroS.toArray 35 (0, 0)) ∧ StmAt (fun b => w1.heap.size ≤ b ∧ b < w2.heap.size) W3 y r) := hid (fun W3 h3 => by
    refine ⟨(hG2.trans hA).grown h3 (fun g e => by cases e; have := hG2.size; omega), ?_, ?_⟩
    · rw [h3.get (by simp; omega) (by omega), hA.block _ (by omega)]; exact hH2
    · have h1 := (hy.mono (S' := fun b => w1.heap.size ≤ b ∧ b < w2.heap.size) (fun b hl hs => ⟨hs, hl⟩)).of hA.size (fun b _ hl => hA.block b hl)
      exact h1.of h3.size (fun b hb hl => h3.get hl (by have := hb.2; omega)))
  have HGD := hid hgd
  clear hy hps2 hgo2 hgd hG2 hH2 hA HPS HG1 HH1 HST
  unfold SR.val
  go_wp2_with (guard_target =~ wpList _ _ _ (Oper.mk _ (Op.store 35 _ _) _ _ _ _ :: _) _ _; refine st_row (ty := 35) rfl rfl w2.heap.size (SR.cs r).toArray rfl rfl 35 _ HAL.out (by kernel_rfl) rfl (by kernel_rfl) ?_; intro W3 hW3 gW3 zW3)
  obtain ⟨hG3, hH3, hy3⟩ := HG3.out W3 gW3
  have hps3 := HP3.out W3 gW3
  clear HG3 HP3 gW3 HAL
  have HY := hid hy3
  have HBX := hid hW3
  have HG3 := hid hG3
  have HH3 := hid hH3
  clear hy3 hW3 hG3 hH3
  refine (sign_any' p ⟨#[59]⟩ R.2 W3 hps3).mono ?_
  rintro e w4 ⟨rfl, hps4, hgo4⟩
  clear hps3
  have hz4 := hgo4.size
  have hGr4 : Gr w w4 := Go1.up HG3.out hgo4 (by omega)
  have hB4 : w4.heap[w2.heap.size]? = some (.cells (SR.cs r).toArray 35 (0, 0)) := (hgo4.get (by have := (Array.getElem?_eq_some_iff.1 HBX.out).1; exact this) (by omega)).trans HBX.out
  have hH4 : w4.heap[w.heap.size]? = some (.cells zeroS.toArray 35 (0, 0)) := (hgo4.get (Array.getElem?_eq_some_iff.1 HH3.out).1 (by omega)).trans HH3.out
  have hY4 : StmAt (fun b => w1.heap.size ≤ b ∧ b < w2.heap.size) w4 y r := HY.out.of hgo4.size (fun b hb hl => hgo4.get hl (by have := hb.1; omega))
  clear HG3 HBX HH3 HY hgo4
  generalize (R.2.may 4 ⟨#[59]⟩).2 = q at *
  have hx0 : x ≠ 0 := over_bad hq2 (fun e b h => by rw [h] at hps4; exact hps4.1)
  have q1 : (x != 0) = true := by simpa using hx0
  have HX := hid (HX0.out hx0)
  clear HX0 HGD hY4 hB4
  obtain ⟨l, d, e0, a0, hpr⟩ : ∃ l d e a, PR p w4 l d e a := by
    cases h : q with
    | ok l d => rw [h] at hps4; exact ⟨l, _, _, _, hps4.2⟩
    | bad e a => rw [h] at hps4; obtain ⟨_, l, d, h3⟩ := hps4; exact ⟨l, d, _, _, h3⟩
  obtain ⟨b, off, n, c, tk, hn1, hnc, hbl, p0, p2, p3, b0, htk⟩ := tok_head hpr
  have g2 : (0 : Int) < (n : Int) := by omega
  by_cases hk : tk = 5
  · skip
    have q5 : ((tk : Int) != 5) = false := by rw [hk]; rfl
    have hbad : q = .bad x a := by
      rw [← hq2]
      unfold Ps.over
      cases h : q with
      | bad e a => rw [if_pos (.inr rfl)]
      | ok l' d' =>
        rw [if_pos]
        refine .inl ?_
        rw [h] at hps4
        cases l' with
        | nil => exact hps4.2.nil.elim
        | cons t0 r0 =>
          obtain ⟨b9, off9, n9, c9, tk9, _, _, _, p9, _, _, b90, htk9⟩ := tok_head hps4.2
          rw [p0] at p9
          cases p9
          rw [b0] at b90
          have : tk9 = tk := by have := Option.some.inj b90; cases this; rfl
          show t0.tk.kind = 5
          rw [htk9 t0 r0 rfl, this, hk]
    rw [hbad] at hps4
    obtain ⟨_, l', d', hpr'⟩ := hps4
    obtain ⟨b', off', n', c', tk', hn1', hnc', hbl', p0', p2', p3', b0', htk'⟩ := tok_head hpr'
    have H05 := hid hH4
    have HG5 := hid hGr4
    clear hpr hpr' htk htk' p2 p3 hH4 hGr4 p0' b0' hbad hq2
    go_wp2_with fail
    have HP2 := hid p2'
    have HP3 := hid p3'
    clear p2' p3' p0 b0
    obtain ⟨w5, hw5⟩ : ∃ w5, w4 = w5 := ⟨_, rfl⟩
    subst hw5
    have hpl : p < w4.heap.size := lt_of_cell HP2.out
    refine Rg.region_chain 11 [9] [] (ErT w.heap.size w4) [some (.agg zeroS.toArray), some (.pointer (some ⟨p, 0, none⟩)), some (.pointer (some ⟨p, 0, none⟩)), some (.pointer (some ⟨p, 2, none⟩)), some (.int .i64 x), some (.pointer (some ⟨p, 0, none⟩)), some (.pointer (some ⟨p, 0, none⟩)), some (.pointer (some ⟨p, 3, none⟩)), some (.int .i64 (a : Int)), some undef, some (.int .i64 x)]
      (fun v => ErT.s0 ((Gr.refl _).drew)) (by kernel_rfl) (by kernel_rfl) (by kernel_rfl) (by kernel_rfl) (fun _ _ d _ _ h => by cases d <;> exact h) ?_
    intro OPS HOPS v
    clear HOPS
    simp only [List.take_succ_cons, List.take_zero, Rg.wpC, Rg.wpS, Option.getD_some, Option.getD_none, Act.put, List.setIfInBounds_toArray, List.set_cons_zero, List.set_cons_succ, show List.contains [9] 0 = false from rfl, show List.contains [9] 1 = false from rfl, show List.contains [9] 2 = false from rfl, show List.contains [9] 3 = false from rfl, show List.contains [9] 4 = false from rfl, show List.contains [9] 5 = false from rfl, show List.contains [9] 6 = false from rfl, show List.contains [9] 7 = false from rfl, show List.contains [9] 8 = false from rfl, show List.contains [9] 9 = true from rfl, show List.contains [9] 10 = false from rfl, Bool.false_eq_true, if_false, if_true, Nat.reduceAdd]
    have cP : ∀ s v W, ErT w.heap.size w4 s v W → W.cell? ⟨p, 2, none⟩ = some (.int .i64 x) ∧ W.cell? ⟨p, 3, none⟩ = some (.int .i64 (a : Int)) := fun s v W h => by
      have hg := h.go
      exact ⟨by rw [hg.cell hpl (by omega)]; exact HP2.out, by rw [hg.cell hpl (by omega)]; exact HP3.out⟩
    refine ⟨?_, ?_, ?_, ?_, ?_, ?_, ?_, ?_, ?_, ?_, ?_, ?_⟩
    · refine sc_still (by rfl) (by rfl) (fun s' W _ hS => ?_)
      clear cP hS
      go_simp
      exact rfl
    iterate 8
      · refine sc_still (by rfl) (by rfl) (fun s' W _ hS => ?_)
        obtain ⟨cp2, cp3⟩ := cP _ _ _ hS
        clear cP hS
        go_simp
    · refine sc_call (by rfl) (by rfl) (fun W hS => ?_)
      have hg := hS.g0
      have hz : W.heap[w.heap.size]? = some (.cells zeroS.toArray 35 (0, 0)) := (hg.block _ (Array.getElem?_eq_some_iff.1 H05.out).1).trans H05.out
      refine brings_store rfl w.heap.size 0 zeroS.toArray rfl rfl (fun j hj => ⟨?_, Rg.blk_free hz _⟩) (by kernel_rfl) (by kernel_rfl) ⟨rfl, ErT.s1 ((Go1.of hg).trans (setCells_go _ _ _)) ?_⟩
      · rw [Nat.zero_add, Rg.blk_cells hz, Array.getElem?_eq_getElem hj]; rfl
      · have h1 := setCells_heap zeroS 0 zeroS W hz
        rw [putL_self zeroS 0 zeroS rfl] at h1
        exact h1
    · refine sc_still (by rfl) (by rfl) (fun s' W _ hS => ?_)
      clear cP hS
      go_simp
    intro W9 hS
    obtain ⟨h5, hW9⟩ := hS.g1
    simp only [List.drop_succ_cons, List.drop_zero]
    have HF := hid (HX.out W9 (HG5.out.grown h5 (fun g e => by cases e; exact Nat.le_refl _)))
    clear hS h5 cP
    go_wp2
    (try change bodyPost _ _ _ _ _ _)
    refine bodyPost_ret (v := .tuple #[noS, .int .i64 x, .int .i64 (a : Int)]) (res_stm rfl rfl rfl hW9 (by kernel_rfl)) rfl HF.out
  · have q5 : ((tk : Int) != 5) = true := by simp; omega
    have hover : q.fail 180 = .bad x a := by
      rw [← hq2]
      unfold Ps.over
      cases h : q with
      | bad e a => rw [if_pos (.inr rfl)]; rfl
      | ok l' d' =>
        rw [if_neg]
        rintro (h5 | h5)
        · rw [h] at hps4
          cases l' with
          | nil => exact hps4.2.nil
          | cons t0 r0 =>
            obtain ⟨b9, off9, n9, c9, tk9, _, _, _, p9, _, _, b90, htk9⟩ := tok_head hps4.2
            rw [p0] at p9
            cases p9
            rw [b0] at b90
            have e9 : tk9 = tk := by have := Option.some.inj b90; cases this; rfl
            have h5' : t0.tk.kind = 5 := h5
            rw [htk9 t0 r0 rfl, e9] at h5'
            exact hk h5'
        · cases h5
    have HPS4 := hid hps4
    have HH4 := hid hH4
    have HGr4 := hid hGr4
    clear hpr htk p2 p3 hH4 hGr4 hq2 hps4
    go_wp2_with fail
    refine (wrong_any p q _ HPS4.out).mono ?_
    rintro e w5 ⟨rfl, hps5, hg5⟩
    rw [hover] at hps5
    obtain ⟨_, l', d', hpr'⟩ := hps5
    obtain ⟨b', off', n', c', tk', hn1', hnc', hbl', p0', p2', p3', b0', htk'⟩ := tok_head hpr'
    have H05 : Hid (w5.heap[w.heap.size]? = some (.cells zeroS.toArray 35 (0, 0))) := hid ((hg5.get (Array.getElem?_eq_some_iff.1 HH4.out).1 (by omega)).trans HH4.out)
    have HG5 : Hid (Gr w w5) := hid (Go1.up HGr4.out hg5 (by omega))
    clear hpr' htk' p0 b0 hg5 HH4 HGr4 HPS4 hover
    go_wp2_with fail
    have HP2 := hid p2'
    have HP3 := hid p3'
    clear p2' p3' p0' b0'
    have hpl : p < w5.heap.size := lt_of_cell HP2.out
    refine Rg.region_chain 11 [9] [] (ErT w.heap.size w5) [some (.agg zeroS.toArray), some (.pointer (some ⟨p, 0, none⟩)), some (.pointer (some ⟨p, 0, none⟩)), some (.pointer (some ⟨p, 2, none⟩)), some (.int .i64 x), some (.pointer (some ⟨p, 0, none⟩)), some (.pointer (some ⟨p, 0, none⟩)), some (.pointer (some ⟨p, 3, none⟩)), some (.int .i64 (a : Int)), some undef, some (.int .i64 x)]
      (fun v => ErT.s0 ((Gr.refl _).drew)) (by kernel_rfl) (by kernel_rfl) (by kernel_rfl) (by kernel_rfl) (fun _ _ d _ _ h => by cases d <;> exact h) ?_
    intro OPS HOPS v
    clear HOPS
    simp only [List.take_succ_cons, List.take_zero, Rg.wpC, Rg.wpS, Option.getD_some, Option.getD_none, Act.put, List.setIfInBounds_toArray, List.set_cons_zero, List.set_cons_succ, show List.contains [9] 0 = false from rfl, show List.contains [9] 1 = false from rfl, show List.contains [9] 2 = false from rfl, show List.contains [9] 3 = false from rfl, show List.contains [9] 4 = false from rfl, show List.contains [9] 5 = false from rfl, show List.contains [9] 6 = false from rfl, show List.contains [9] 7 = false from rfl, show List.contains [9] 8 = false from rfl, show List.contains [9] 9 = true from rfl, show List.contains [9] 10 = false from rfl, Bool.false_eq_true, if_false, if_true, Nat.reduceAdd]
    have cP : ∀ s v W, ErT w.heap.size w5 s v W → W.cell? ⟨p, 2, none⟩ = some (.int .i64 x) ∧ W.cell? ⟨p, 3, none⟩ = some (.int .i64 (a : Int)) := fun s v W h => by
      have hg := h.go
      exact ⟨by rw [hg.cell hpl (by omega)]; exact HP2.out, by rw [hg.cell hpl (by omega)]; exact HP3.out⟩
    refine ⟨?_, ?_, ?_, ?_, ?_, ?_, ?_, ?_, ?_, ?_, ?_, ?_⟩
    · refine sc_still (by rfl) (by rfl) (fun s' W _ hS => ?_)
      clear cP hS
      go_simp
      exact rfl
    iterate 8
      · refine sc_still (by rfl) (by rfl) (fun s' W _ hS => ?_)
        obtain ⟨cp2, cp3⟩ := cP _ _ _ hS
        clear cP hS
        go_simp
    · refine sc_call (by rfl) (by rfl) (fun W hS => ?_)
      have hg := hS.g0
      have hz : W.heap[w.heap.size]? = some (.cells zeroS.toArray 35 (0, 0)) := (hg.block _ (Array.getElem?_eq_some_iff.1 H05.out).1).trans H05.out
      refine brings_store rfl w.heap.size 0 zeroS.toArray rfl rfl (fun j hj => ⟨?_, Rg.blk_free hz _⟩) (by kernel_rfl) (by kernel_rfl) ⟨rfl, ErT.s1 ((Go1.of hg).trans (setCells_go _ _ _)) ?_⟩
      · rw [Nat.zero_add, Rg.blk_cells hz, Array.getElem?_eq_getElem hj]; rfl
      · have h1 := setCells_heap zeroS 0 zeroS W hz
        rw [putL_self zeroS 0 zeroS rfl] at h1
        exact h1
    · refine sc_still (by rfl) (by rfl) (fun s' W _ hS => ?_)
      clear cP hS
      go_simp
    intro W9 hS
    obtain ⟨h5, hW9⟩ := hS.g1
    simp only [List.drop_succ_cons, List.drop_zero]
    have HF := hid (HX.out W9 (HG5.out.grown h5 (fun g e => by cases e; exact Nat.le_refl _)))
    clear hS h5 cP
    go_wp2
    (try change bodyPost _ _ _ _ _ _)
    refine bodyPost_ret (v := .tuple #[noS, .int .i64 x, .int .i64 (a : Int)]) (res_stm rfl rfl rfl hW9 (by kernel_rfl)) rfl HF.out
theorem pstm_any (t : ByteArray) (w : World) (hsz : t.size ≤ maxLen) (m : Int) (hm : w.cell? ⟨0, 0, none⟩ = some (.int .i64 m)) : Calls Try.prog 8 #[.string t] w (StmtP t w) := by
  have HB := begin_any t (w.alloc (.cells zeroS.toArray 35)) hsz m (((Gr.refl w).alloc _).keep hm)
  cases hr : readS t with
  | bad x a => exact pstm_bad t w x a hr HB
  | ok l0 d0 =>
    have hd : d0 = 0 ∧ l0.length ≤ 4097 := by
      unfold readS at hr
      split at hr
      · cases hr
      · split at hr
        · rename_i hl
          cases hr
          have := lexN_len _ _ _ _ _ hl
          refine ⟨rfl, ?_⟩
          simp at this
          omega
        · cases hr
    obtain ⟨rfl, hl0⟩ := hd
    cases hq : (stmT t).2 with
    | bad x a => exact pstm_err t w l0 hr hl0 x a hq HB
    | ok l d =>
      have h5 := over_ok (show ((stmS (readS t)).2.may 4 ⟨#[59]⟩).2.over = .ok l d from hq)
      exact pstm_good t w l0 hr hl0 l d h5.1 h5.2 HB
end Go.Proofs.Ytaogpifcfmjcbaa
end
section
namespace Go.Proofs.Ytaogpifcfmjcbaa
open Go.RowKit
set_option linter.unusedSimpArgs false
set_option linter.unusedVariables false
attribute [local go_sem] Rg.leads_value Rg.leads_skip Rg.leads_enter Rg.brings_value Rg.brings_skip Rg.brings_enter Rg.bringsG_value Rg.bringsG_enter Rg.once_normal Rg.once_exit Rg.once_ret Rg.once_panic Rg.once_goto Rg.bringsS_value Rg.bringsS_skip Rg.bringsS_enter Rg.still_value Rg.still_skip Rg.still_enter
def kinds : List ByteArray := [⟨#[]⟩, ⟨#[99, 114, 101, 97, 116, 101, 32, 116, 97, 98, 108, 101]⟩, ⟨#[100, 114, 111, 112, 32, 116, 97, 98, 108, 101]⟩, ⟨#[99, 114, 101, 97, 116, 101, 32, 105, 110, 100, 101, 120]⟩, ⟨#[100, 114, 111, 112, 32, 105, 110, 100, 101, 120]⟩, ⟨#[105, 110, 115, 101, 114, 116]⟩, ⟨#[117, 112, 100, 97, 116, 101]⟩, ⟨#[100, 101, 108, 101, 116, 101]⟩, ⟨#[115, 101, 108, 101, 99, 116]⟩, ⟨#[98, 101, 103, 105, 110]⟩, ⟨#[99, 111, 109, 109, 105, 116]⟩, ⟨#[114, 111, 108, 108, 98, 97, 99, 107]⟩, ⟨#[115, 97, 118, 101, 112, 111, 105, 110, 116]⟩, ⟨#[114, 111, 108, 108, 98, 97, 99, 107, 32, 116, 111]⟩, ⟨#[114, 101, 108, 101, 97, 115, 101]⟩]
def kindS (n : Int) : ByteArray := if n < 0 then ⟨#[]⟩ else (kinds[n.toNat]?).getD ⟨#[]⟩
def kcs : List Value := kinds.map Value.string
def kz : List Value := List.replicate 15 (.string ⟨#[]⟩)
set_option maxHeartbeats 4000000 in
set_option maxRecDepth 100000 in
theorem kind_any (n : Int) (w : World) : Calls Try.prog 12 #[.int .i64 n] w fun e w' => e = .returned (.string (kindS n)) ∧ Gr w w' := by
  have HK : Hid (∀ W, (.string (kindS n) : Value) = .string (kindS n) ∧ (Gr w W → Gr w W)) := hid (fun W => ⟨rfl, id⟩)
  have H0 : Hid ((w.alloc (.cells kz.toArray 67)).heap[w.heap.size]? = some (.cells kz.toArray 67 (0, 0))) := hid (alloc_at _ _)
  have HG : Hid (∀ W5, Go1 w.heap.size (w.alloc (.cells kz.toArray 67)) W5 → Gr w W5) := hid (fun W5 h5 => ((Gr.refl w).alloc _).grown h5 (fun g e => by cases e; exact Nat.le_refl _))
  rcases Int.lt_or_le n 0 with hn | hn
  · have t0 : decide (n < 0) = true := by simpa using hn
    have HS : Hid (kindS n = ⟨#[]⟩) := hid (by unfold kindS; rw [if_pos hn])
    go_enter Try.func12, Try.ntmps12
    go_wp2_with (guard_target =~ wpList _ _ _ (Oper.mk _ (Op.store 67 _ _) _ _ _ _ :: _) _ _; refine st_row (ty := 67) rfl rfl w.heap.size kcs.toArray rfl rfl 67 _ H0.out (by kernel_rfl) rfl (by kernel_rfl) ?_; intro W5 hW5 gW5 zW5; have hg := HG.out W5 gW5; clear gW5 zW5)
    (try change bodyPost _ _ _ _ _ _)
    refine bodyPost_ret (v := .string ⟨#[]⟩) (by simp [results, Try.results12, go_sem]) rfl ⟨by rw [HS.out], hg⟩
  · obtain ⟨k, rfl⟩ := Int.eq_ofNat_of_zero_le hn
    have t0 : decide ((k : Int) < 0) = false := by simp
    by_cases hk : k < 15
    · have t1 : decide (15 ≤ (k : Int)) = false := by rw [decide_eq_false_iff_not]; omega
      have g1 : (k : Int) < 15 := by omega
      obtain ⟨s, hs⟩ : ∃ s, kinds[k]? = some s := ⟨_, List.getElem?_eq_getElem (show k < kinds.length from hk)⟩
      have HS : Hid (kindS (k : Int) = s) := hid (by unfold kindS; rw [if_neg (by omega)]; show (kinds[k]?).getD _ = s; rw [hs]; rfl)
      have HC : Hid (∀ W : World, W.heap[w.heap.size]? = some (.cells kcs.toArray 67 (0, 0)) → W.cell? ⟨w.heap.size, k, none⟩ = some (.string s)) := hid (fun W h => by
        rw [Rg.blk_cells h]
        show kcs.toArray[k]? = _
        simp [kcs, hs])
      clear hs hn
      go_enter Try.func12, Try.ntmps12
      go_wp2_with (guard_target =~ wpList _ _ _ (Oper.mk _ (Op.store 67 _ _) _ _ _ _ :: _) _ _; refine st_row (ty := 67) rfl rfl w.heap.size kcs.toArray rfl rfl 67 _ H0.out (by kernel_rfl) rfl (by kernel_rfl) ?_; intro W5 hW5 gW5 zW5; have hg := HG.out W5 gW5; have hc := HC.out W5 hW5; clear gW5 zW5 hW5)
      (try change bodyPost _ _ _ _ _ _)
      refine bodyPost_ret (v := .string s) (by simp [results, Try.results12, go_sem]) rfl ⟨by rw [HS.out], hg⟩
    · have t1 : decide (15 ≤ (k : Int)) = true := by rw [decide_eq_true_iff]; omega
      have HS : Hid (kindS (k : Int) = ⟨#[]⟩) := hid (by
        unfold kindS
        rw [if_neg (by omega)]
        show (kinds[k]?).getD _ = _
        rw [List.getElem?_eq_none (by show 15 ≤ k; omega)]
        rfl)
      clear hn
      go_enter Try.func12, Try.ntmps12
      go_wp2_with (guard_target =~ wpList _ _ _ (Oper.mk _ (Op.store 67 _ _) _ _ _ _ :: _) _ _; refine st_row (ty := 67) rfl rfl w.heap.size kcs.toArray rfl rfl 67 _ H0.out (by kernel_rfl) rfl (by kernel_rfl) ?_; intro W5 hW5 gW5 zW5; have hg := HG.out W5 gW5; clear gW5 zW5)
      (try change bodyPost _ _ _ _ _ _)
      refine bodyPost_ret (v := .string ⟨#[]⟩) (by simp [results, Try.results12, go_sem]) rfl ⟨by rw [HS.out], hg⟩
theorem exprP_ok {t : ByteArray} {w w' : World} {e : Ending} (h : ExprP t w e w') {x : Ex} {l : List Lx.Tok} {d : Nat} (hx : exprT t = (x, .ok l d)) : Gr w w' ∧ ∃ r, e = .returned (.tuple #[XR.val r, .int .i64 0, .int .i64 0]) ∧ Ex.At (Nw w) w' x r := by
  obtain ⟨h1, h2⟩ := h
  rw [hx] at h2
  exact ⟨h1, h2⟩
theorem exprP_bad {t : ByteArray} {w w' : World} {e : Ending} (h : ExprP t w e w') {x : Int} {a : Nat} (hx : (exprT t).2 = .bad x a) : Gr w w' ∧ e = .returned (.tuple #[noX, .int .i64 x, .int .i64 (a : Int)]) := by
  obtain ⟨h1, h2⟩ := h
  rw [hx] at h2
  exact ⟨h1, h2.2⟩
theorem stmtP_ok {t : ByteArray} {w w' : World} {e : Ending} (h : StmtP t w e w') {x : Stm} {l : List Lx.Tok} {d : Nat} (hx : stmT t = (x, .ok l d)) : Gr w w' ∧ ∃ r, e = .returned (.tuple #[SR.val r, .int .i64 0, .int .i64 0]) ∧ StmAt (Nw w) w' x r := by
  obtain ⟨h1, h2⟩ := h
  rw [hx] at h2
  exact ⟨h1, h2⟩
theorem stmtP_bad {t : ByteArray} {w w' : World} {e : Ending} (h : StmtP t w e w') {x : Int} {a : Nat} (hx : (stmT t).2 = .bad x a) : Gr w w' ∧ x ≠ 0 ∧ e = .returned (.tuple #[noS, .int .i64 x, .int .i64 (a : Int)]) := by
  obtain ⟨h1, h2⟩ := h
  rw [hx] at h2
  exact ⟨h1, h2⟩
theorem at_kid {S : Nat → Prop} {w : World} {h : Hd} {ks : List Ex} {r : XR} (hx : Ex.At S w (.mk h ks) r) : r.h = h ∧ r.n = ks.length ∧ r.n ≤ r.cap ∧ ∀ k (hk : k < ks.length), ∃ b off rk, r.oa = some ⟨b, off, none⟩ ∧ S b ∧ b < w.heap.size ∧ Ex.At S w ks[k] rk ∧ ∀ i u, (xF rk)[i]? = some u → w.cell? ⟨b, off + k * 12 + i, none⟩ = some u := by
  have hx0 := hx
  unfold Ex.At at hx
  obtain ⟨h1, h2, h3, rs, h4, h5, h6⟩ := hx
  refine ⟨h1, h2, h3.1, fun k hk => ?_⟩
  have hkr : k < rs.length := by rw [h4]; exact hk
  rcases h5 with h0 | ⟨b, off, hoa, hbl, hSb, hfr, hr⟩
  · rw [h0] at hkr; simp at hkr
  · exact ⟨b, off, rs[k], hoa, hSb, hbl, h6.get k hk hkr, hr k hkr⟩
def opOf : List Ex → Nat → Int
  | ks, k => ((ks[k]?).map (fun x => x.hd.op)).getD 0
theorem aw_1 : (match exprT ⟨#[97, 32, 43, 32, 50, 32, 42, 32, 98]⟩ with | (x, .ok _ _) => x.hd.op == 18 && x.ks.length == 2 && opOf x.ks 1 == 20 | _ => false) = true := by kernel_rfl
theorem aw_2 : (match stmT ⟨#[83, 69, 76, 69, 67, 84, 32, 42, 32, 70, 82, 79, 77, 32, 116, 32, 76, 73, 77, 73, 84, 32, 49]⟩ with | (x, .ok _ _) => x.kind == 8 && x.limit == 1 | _ => false) = true := by kernel_rfl
theorem aw_3 : (match (exprT ⟨#[97, 32, 61, 32, 98, 32, 61, 32, 99]⟩).2 with | .bad e a => e == 180 && a == 6 | _ => false) = true := by kernel_rfl
theorem aw1 : ∃ h x0 h1 k1 l d, exprT ⟨#[97, 32, 43, 32, 50, 32, 42, 32, 98]⟩ = (.mk h [x0, .mk h1 k1], .ok l d) ∧ h.op = 18 ∧ h1.op = 20 := by
  have h := aw_1
  revert h
  generalize exprT ⟨#[97, 32, 43, 32, 50, 32, 42, 32, 98]⟩ = q
  intro h
  obtain ⟨⟨hd, ks⟩, s⟩ := q
  cases s with
  | bad e a => cases h
  | ok l d =>
    simp only [Ex.hd, Ex.ks, Bool.and_eq_true, beq_iff_eq] at h
    obtain ⟨⟨h1, h2⟩, h3⟩ := h
    match ks, h2, h3 with
    | [x0, .mk h9 k9], _, h3 => exact ⟨hd, x0, h9, k9, l, d, rfl, h1, h3⟩
theorem aw2 : ∃ x l d, stmT ⟨#[83, 69, 76, 69, 67, 84, 32, 42, 32, 70, 82, 79, 77, 32, 116, 32, 76, 73, 77, 73, 84, 32, 49]⟩ = (x, .ok l d) ∧ x.kind = 8 ∧ x.limit = 1 := by
  have h := aw_2
  revert h
  generalize stmT ⟨#[83, 69, 76, 69, 67, 84, 32, 42, 32, 70, 82, 79, 77, 32, 116, 32, 76, 73, 77, 73, 84, 32, 49]⟩ = q
  intro h
  obtain ⟨x, s⟩ := q
  cases s with
  | bad e a => cases h
  | ok l d =>
    simp only [Bool.and_eq_true, beq_iff_eq] at h
    exact ⟨x, l, d, rfl, h.1, h.2⟩
theorem aw3 : (exprT ⟨#[97, 32, 61, 32, 98, 32, 61, 32, 99]⟩).2 = .bad 180 6 := by
  have h := aw_3
  revert h
  generalize (exprT ⟨#[97, 32, 61, 32, 98, 32, 61, 32, 99]⟩).2 = q
  intro h
  cases q with
  | ok l d => cases h
  | bad e a =>
    simp only [Bool.and_eq_true, beq_iff_eq] at h
    rw [h.1, h.2]
theorem gr_box {w w1 W : World} {g : Nat} (h : Gr w w1) (hg : g = w1.heap.size) {o : Obj} (h5 : Go1 g (w1.alloc o) W) : Gr w W := (h.alloc o).grown h5 (fun b e => by cases e; rw [hg]; exact h.size)
theorem gr_box1 {w1 W : World} {o : Obj} (h5 : Go1 w1.heap.size (w1.alloc o) W) : Gr w1 W := gr_box (Gr.refl w1) rfl h5
set_option maxHeartbeats 8000000 in
set_option maxRecDepth 100000 in
theorem awake_any (w : World) (m : Int) (hm : w.cell? ⟨0, 0, none⟩ = some (.int .i64 m)) : Calls Try.prog 7 #[] w fun e w' => e = .returned (.bool true) ∧ Gr w w' := by
  have H1 := hid (pexpr_any ⟨#[97, 32, 43, 32, 50, 32, 42, 32, 98]⟩ w (by decide) m hm)
  have H2 : Hid (∀ W, Gr w W → _) := hid (fun W h => pstm_any ⟨#[83, 69, 76, 69, 67, 84, 32, 42, 32, 70, 82, 79, 77, 32, 116, 32, 76, 73, 77, 73, 84, 32, 49]⟩ W (by decide) m (Gr.keep h hm))
  have H3 : Hid (∀ W, Gr w W → _) := hid (fun W h => pexpr_any ⟨#[97, 32, 61, 32, 98, 32, 61, 32, 99]⟩ W (by decide) m (Gr.keep h hm))
  clear hm
  go_enter Try.func7, Try.ntmps7
  go_wp2_with fail
  refine H1.out.mono ?_
  rintro e w1 he
  obtain ⟨hd, x0, h1, k1, l1, d1, e1, o1, o2⟩ := aw1
  obtain ⟨hg1, r, rfl, hat⟩ := exprP_ok he e1
  clear he e1 H1
  obtain ⟨rh, rn, rc, kid⟩ := at_kid hat
  obtain ⟨b, off, rk, hoa, hSb, hbl, hkat, hkc⟩ := kid 1 (show 1 < 2 by decide)
  have hop := (at_kid hkat).1
  have ck := hkc 0 _ rfl
  rw [hop, o2] at ck
  have HAL := hid (alloc_at w1 (.cells zeroX 32))
  have HC1 : Hid (∀ W, Gr w1 W → W.cell? ⟨b, off + 12, none⟩ = some (.int .i64 20)) := hid (fun W h => h.keep ck)
  have HX1 : Hid (∀ W : World, W.heap[w1.heap.size]? = some (.cells (xF r).toArray 32 (0, 0)) → W.cell? ⟨w1.heap.size, 0, none⟩ = some (.int .i64 18) ∧ W.cell? ⟨w1.heap.size, 11, none⟩ = some (.slice (some ⟨b, off, none⟩) 2 r.cap)) := hid (fun W h => by
    rw [Rg.blk_cells h, Rg.blk_cells h]
    refine ⟨?_, ?_⟩
    · show some (Value.int .i64 r.h.op) = _; rw [rh, o1]
    · show some (Value.slice r.oa r.n r.cap) = _; rw [hoa, rn]; rfl)
  have HG1 := hid hg1
  clear hg1 hat kid hkat hkc ck rh rn rc hop o1 o2 hoa hSb
  unfold XR.val
  go_wp2_with (guard_target =~ wpList _ _ _ (Oper.mk _ (Op.store 32 _ _) _ _ _ _ :: _) _ _; refine st_row (ty := 32) rfl rfl w1.heap.size (xF r).toArray rfl rfl 32 _ HAL.out (by kernel_rfl) rfl (by kernel_rfl) ?_; intro W1 hW1 gW1 zW1)
  have hgw1 : Gr w W1 := gr_box HG1.out rfl gW1
  obtain ⟨c0, c11⟩ := HX1.out W1 hW1
  have ck1 := HC1.out W1 (gr_box1 gW1)
  have HGW1 := hid hgw1
  have HCK1 := hid ck1
  have HC0 := hid c0
  have HC11 := hid c11
  have hlt1 : w1.heap.size < W1.heap.size := lt_of_cell c0
  clear HX1 HC1 HG1 gW1 hW1 zW1 hgw1 c0 c11 ck1 HAL
  refine (H2.out W1 HGW1.out).mono ?_
  rintro e w2 he
  obtain ⟨x2, l2, d2, e2, o1, o2⟩ := aw2
  obtain ⟨hg2, r2, rfl, hat2⟩ := stmtP_ok he e2
  have hk2 := hat2.kind
  have hm2 := hat2.limit
  rw [o1] at hk2
  rw [o2] at hm2
  clear he e2 H2 o1 o2 hat2
  have HAL : Hid ((w2.alloc (.cells zeroS.toArray 35)).heap[w2.heap.size]? = some (.cells zeroS.toArray 35 (0, 0))) := hid (alloc_at _ _)
  have HX2 : Hid (∀ W : World, W.heap[w2.heap.size]? = some (.cells (SR.cs r2).toArray 35 (0, 0)) → W.cell? ⟨w2.heap.size, 0, none⟩ = some (.int .i64 8) ∧ W.cell? ⟨w2.heap.size, 39, none⟩ = some (.int .i64 1)) := hid (fun W h => by
    rw [Rg.blk_cells h, Rg.blk_cells h]
    refine ⟨?_, ?_⟩
    · show some (Value.int .i64 r2.kind) = _; rw [hk2]
    · show some (Value.int .i64 r2.limit) = _; rw [hm2])
  have HG2 := hid (HGW1.out.trans hg2)
  have HK2 : Hid (∀ W, Gr w2 W → W.cell? ⟨w1.heap.size, 0, none⟩ = some (.int .i64 18) ∧ W.cell? ⟨w1.heap.size, 11, none⟩ = some (.slice (some ⟨b, off, none⟩) 2 r.cap) ∧ W.cell? ⟨b, off + 12, none⟩ = some (.int .i64 20)) := hid (fun W h => ⟨(hg2.trans h).keep HC0.out, (hg2.trans h).keep HC11.out, (hg2.trans h).keep HCK1.out⟩)
  clear hg2 HC0 HC11 HCK1 HGW1 hk2 hm2 hlt1
  unfold SR.val
  go_wp2_with (guard_target =~ wpList _ _ _ (Oper.mk _ (Op.store 35 _ _) _ _ _ _ :: _) _ _; refine st_row (ty := 35) rfl rfl w2.heap.size (SR.cs r2).toArray rfl rfl 35 _ HAL.out (by kernel_rfl) rfl (by kernel_rfl) ?_; intro W2 hW2 gW2 zW2)
  have HGW2 := hid (gr_box HG2.out rfl gW2)
  have HX := hid (HX2.out W2 hW2)
  have HK := hid (fun W (h : Gr W2 W) => HK2.out W ((gr_box1 gW2).trans h))
  clear HX2 HK2 HG2 gW2 hW2 zW2 HAL
  refine (H3.out W2 HGW2.out).mono ?_
  rintro e w3 he
  obtain ⟨hg3, rfl⟩ := exprP_bad he aw3
  clear he H3
  have HAL := hid (alloc_at w3 (.cells zeroX 32))
  have HG3 := hid (HGW2.out.trans hg3)
  have HK3 := hid (fun W (h : Gr w3 W) => HK.out W (hg3.trans h))
  have HX3 : Hid (∀ W, Gr w3 W → W.cell? ⟨w2.heap.size, 0, none⟩ = some (.int .i64 8) ∧ W.cell? ⟨w2.heap.size, 39, none⟩ = some (.int .i64 1)) := hid (fun W h => ⟨(hg3.trans h).keep HX.out.1, (hg3.trans h).keep HX.out.2⟩)
  clear hg3 HK HX HGW2
  unfold noX
  go_wp2_with (guard_target =~ wpList _ _ _ (Oper.mk _ (Op.store 32 _ _) _ _ _ _ :: _) _ _; refine st_row (ty := 32) rfl rfl w3.heap.size zeroX rfl rfl 32 _ HAL.out (by kernel_rfl) rfl (by kernel_rfl) ?_; intro W3 hW3 gW3 zW3; obtain ⟨c0, c11, ck⟩ := HK3.out W3 (gr_box1 gW3); obtain ⟨s0, s39⟩ := HX3.out W3 (gr_box1 gW3); have HG := hid (gr_box HG3.out rfl gW3); clear HK3 HX3 HG3 gW3 hW3 zW3 HAL)
  refine (kind_any 8 W3).mono ?_
  rintro e w4 ⟨rfl, hg4⟩
  have HG4 := hid (HG.out.trans hg4)
  rw [show kindS 8 = ⟨#[115, 101, 108, 101, 99, 116]⟩ from by kernel_rfl]
  clear hg4 HG c0 c11 ck s0 s39
  go_wp2
  go_ret
  exact ⟨rfl, HG4.out⟩
end Go.Proofs.Ytaogpifcfmjcbaa
end
section
namespace Go.Proofs.Ytaogpifcfmjcbaa
open Go.RowKit Go.WideShapes Go.ChangeShapes
set_option linter.unusedVariables false
section
variable {H : Type} {enc : TypeId × Value → H} {P : Program} {f : Func} {s : ChangeSpec} {apart fresh handsOn again : Bool} {W W' : World} {args : Array Value} {v : Value} {ds gs : List (DataW H)} {before pa pv : List MemPlace}
theorem post_kept (hW : DataW.Whole enc P f.params.toList s.vars apart W args.toList ds gs before) (hb : Below W.heap.size W W') (hps : before = pa ++ pv)
    (hres : ∀ (b : Nat) (sp : Nat → Bool) (hd : Bool), DataW.TrodAll enc P W' b sp hd f.resultTypes.toList (v.resultList f.resultTypes.size) (s.fn H (ds ++ gs)).results [])
    (hargs : ∀ sp : Nat → Bool, (∀ p ∈ before, sp p.block = true) → DataW.TrodAll enc P W' 0 sp true f.params.toList args.toList (s.fn H (ds ++ gs)).args pa)
    (hvars : ∀ sp : Nat → Bool, (∀ p ∈ before, sp p.block = true) → DataW.TrodVars enc P W' sp s.vars (s.fn H (ds ++ gs)).vars pv)
    (hok : ∀ (j : Nat) (t : TypeId) (r : Value), f.resultTypes[j]? = some t → (v.resultList f.resultTypes.size)[j]? = some r → Value.okWide P W' .any 0 t r) :
    s.post enc P f apart fresh handsOn again W args v W' := by
  have below : ∀ p ∈ before, p.block < W.heap.size := fun p hp => hW.lt p hp
  have seen : ∀ p ∈ before, decide (p.block < W.heap.size) = true := fun p hp => decide_eq_true (below p hp)
  have whole := hW
  obtain ⟨_, _, _, _, _, frz, ndp⟩ := whole
  refine ⟨ds, gs, before, [], pa, pv, hW, hres _ _ _, hargs (fun b => decide (b < W.heap.size)) seen, hvars (fun b => decide (b < W.heap.size)) seen, ?_, fun _ => ⟨hok, _, _, ([] ++ pa) ++ pv, ⟨[] ++ pa, pv, trodAll_append (hargs _ (fun _ _ => rfl)) (hres _ _ _), hvars _ (fun _ _ => rfl), rfl, ?_, ?_⟩, ?_⟩⟩
  · refine World.keptBut_mono (fun p hp => ⟨hp, ?_⟩) (hb.frame (· ∈ before))
    rw [hps, List.mem_append] at hp
    exact Or.inr hp
  · intro b off hp
    have hin : MemPlace.cell b off ∈ before := by rw [hps]; simpa using hp
    rw [hb.frozen (below _ hin)]
    exact frz b off hin
  · intro ha
    have h := ndp ha
    rw [hps] at h
    simpa using h
  · intro p hp _
    rw [hps]
    simpa using hp
end
def Yes (w : World) (e : Ending) (w' : World) : Prop := e = .returned (.bool true) ∧ Below w.heap.size w w'
end Go.Proofs.Ytaogpifcfmjcbaa
end
section
namespace Go.Proofs.Ytaogpifcfmjcbaa
set_option linter.unusedVariables false
set_option maxRecDepth 100000
open Lx
def LexTo (r : Bytes) (ts : List Tk) : Prop := ∀ (s : Bytes) (pos : Nat) (acc : List Tok) (f : Nat), s.drop pos = r → r.length < f → ∃ l, lexN f s pos acc = .good (acc ++ l) ∧ l.map Tok.tk = ts ++ [⟨5, [], 0⟩]
theorem LexTo.nil : LexTo [] [] := by
  intro s pos acc f h hf
  cases f with
  | zero => omega
  | succ f =>
    refine ⟨[⟨⟨5, [], 0⟩, pos⟩], ?_, rfl⟩
    unfold lexN
    simp only [h, if_pos]
theorem blank_pos {r : Bytes} {n : Nat} (h : blank1 r = n + 1) : r ≠ [] := by rintro rfl; cases h
theorem tok_pos {r : Bytes} {t : Tk} {n : Nat} (h : oneTok r = some (t, n)) : r ≠ [] := by rintro rfl; cases h
theorem LexTo.blank {r : Bytes} {ts : List Tk} (n : Nat) (hb : blank1 r = n + 1) (h : LexTo (r.drop (n + 1)) ts) : LexTo r ts := by
  intro s pos acc f hs hf
  have hne := blank_pos hb
  have hlen : (r.drop (n + 1)).length < r.length := by
    have : 0 < r.length := List.length_pos_iff.2 hne
    rw [List.length_drop]; omega
  cases f with
  | zero => omega
  | succ f =>
    obtain ⟨l, h1, h2⟩ := h s (pos + (n + 1)) acc f (by rw [← List.drop_drop, hs]) (by omega)
    refine ⟨l, ?_, h2⟩
    unfold lexN
    simp only [hs, if_neg hne, hb]
    rw [if_pos (by omega)]
    exact h1
theorem LexTo.tok {r : Bytes} {ts : List Tk} {t : Tk} (n : Nat) (hb : blank1 r = 0) (ho : oneTok r = some (t, n + 1)) (h : LexTo (r.drop (n + 1)) ts) : LexTo r (t :: ts) := by
  intro s pos acc f hs hf
  have hne := tok_pos ho
  have hlen : (r.drop (n + 1)).length < r.length := by
    have : 0 < r.length := List.length_pos_iff.2 hne
    rw [List.length_drop]; omega
  cases f with
  | zero => omega
  | succ f =>
    obtain ⟨l, h1, h2⟩ := h s (pos + (n + 1)) (acc ++ [⟨t, pos⟩]) f (by rw [← List.drop_drop, hs]) (by omega)
    refine ⟨⟨t, pos⟩ :: l, ?_, by simp [h2]⟩
    unfold lexN
    simp only [hs, if_neg hne, hb, ho, ne_eq, not_true_eq_false, if_false]
    rw [h1]
    simp
theorem LexTo.all {r : Bytes} {ts : List Tk} (h : LexTo r ts) : ∃ l, lexAll r = .good l ∧ l.map Tok.tk = ts ++ [⟨5, [], 0⟩] := by
  obtain ⟨l, h1, h2⟩ := h r 0 [] (r.length + 1) rfl (by omega)
  exact ⟨l, by unfold lexAll; rw [h1]; rfl, h2⟩
def smallB (c : UInt8) : Bool := decide (97 ≤ c.toNat) && decide (c.toNat ≤ 122)
theorem small_facts (c : UInt8) (h : smallB c = true) : letterB c = true ∧ innerB c = true ∧ low c = c ∧ whiteB c = false ∧ (c.toNat == 45) = false := by
  have key : ∀ n : Fin 256, smallB (UInt8.ofNat n.val) = true → letterB (UInt8.ofNat n.val) = true ∧ innerB (UInt8.ofNat n.val) = true ∧ low (UInt8.ofNat n.val) = UInt8.ofNat n.val ∧ whiteB (UInt8.ofNat n.val) = false ∧ ((UInt8.ofNat n.val).toNat == 45) = false := by decide +kernel
  have h' := key ⟨c.toNat, c.toNat_lt⟩
  simp only [UInt8.ofNat_toNat] at h'
  exact h' h
theorem runL_app (p : UInt8 → Bool) (a r : Bytes) (h : ∀ d ∈ a, p d = true) (hr : runL p r = 0) : runL p (a ++ r) = a.length := by
  induction a with
  | nil => simpa using hr
  | cons c a ih => simp [runL, h c (by simp), ih (fun d hd => h d (by simp [hd]))]
theorem word_tok (s R : Bytes) (hne : s ≠ []) (hs : ∀ c ∈ s, smallB c = true) (hl : s.length ≤ 32) (hR : runL innerB R = 0) : oneTok (s ++ R) = some (⟨1, s, 0⟩, s.length) ∧ blank1 (s ++ R) = 0 := by
  cases s with
  | nil => exact absurd rfl hne
  | cons c r =>
    obtain ⟨h1, h2, h3, h4, h5⟩ := small_facts c (hs c (by simp))
    have hrun : runL innerB ((c :: r) ++ R) = (c :: r).length := runL_app _ _ _ (fun d hd => (small_facts d (hs d hd)).2.1) hR
    have hmap : (c :: r).map low = c :: r := by
      conv => rhs; rw [← List.map_id (c :: r)]
      exact List.map_congr_left (fun d hd => (small_facts d (hs d hd)).2.2.1)
    refine ⟨?_, ?_⟩
    · show oneTok (c :: (r ++ R)) = _
      simp only [oneTok, h1, if_true]
      unfold wordL
      simp only
      rw [show c :: (r ++ R) = (c :: r) ++ R from rfl, hrun, if_pos hl, List.take_left, hmap]
    · show blank1 (c :: (r ++ R)) = 0
      have hr : remarkB (c :: (r ++ R)) = false := by
        cases hq : r ++ R with
        | nil => rfl
        | cons d q => simp only [remarkB, h5, Bool.false_and]
      simp only [blank1, h4, hr, Bool.false_eq_true, if_false]
theorem LexTo.word {s R : Bytes} {ts : List Tk} (hne : s ≠ []) (hs : ∀ c ∈ s, smallB c = true) (hl : s.length ≤ 32) (hR : runL innerB R = 0) (h : LexTo R ts) : LexTo (s ++ R) (⟨1, s, 0⟩ :: ts) := by
  obtain ⟨h1, h2⟩ := word_tok s R hne hs hl hR
  obtain ⟨n, hn⟩ : ∃ n, s.length = n + 1 := ⟨s.length - 1, by have := List.length_pos_iff.2 hne; omega⟩
  rw [hn] at h1
  refine LexTo.tok n h2 h1 ?_
  rw [← hn, List.drop_left]
  exact h
theorem readS_of {t : ByteArray} {ts : List Tk} (hz : t.size ≤ 4096) (h : LexTo t.data.toList ts) : ∃ l, readS t = .ok l 0 ∧ l.map Tok.tk = ts ++ [⟨5, [], 0⟩] := by
  obtain ⟨l, h1, h2⟩ := h.all
  refine ⟨l, ?_, h2⟩
  unfold readS
  rw [if_neg (by omega), h1]
theorem name_yes {s : Bytes} {n p : Nat} {r : List Tok} {d : Nat} (h : nameB s = true) : Ps.name (.ok (⟨⟨1, s, n⟩, p⟩ :: r) d) = (txt s, .ok r d) := by
  have e : Ps.isName (.ok (⟨⟨1, s, n⟩, p⟩ :: r) d) = true := by show ((1 : Nat) == 1 && nameB s) = true; rw [h]; rfl
  unfold Ps.name
  rw [if_pos e]
  rfl
theorem name_no {s : Bytes} {n p : Nat} {r : List Tok} {d : Nat} (h : nameB s = false) : Ps.name (.ok (⟨⟨1, s, n⟩, p⟩ :: r) d) = (⟨#[]⟩, .bad 180 p) := by
  have e : Ps.isName (.ok (⟨⟨1, s, n⟩, p⟩ :: r) d) = false := by show ((1 : Nat) == 1 && nameB s) = false; rw [h]; rfl
  unfold Ps.name
  rw [if_neg (by rw [e]; decide)]
  rfl
theorem dropL (s : Bytes) (hne : s ≠ []) (hs : ∀ c ∈ s, smallB c = true) (hl : s.length ≤ 32) : LexTo ([68, 82, 79, 80, 32, 84, 65, 66, 76, 69, 32] ++ s) [⟨1, [100, 114, 111, 112], 0⟩, ⟨1, [116, 97, 98, 108, 101], 0⟩, ⟨1, s, 0⟩] := by
  refine LexTo.tok 3 (by rfl) (by rfl) (LexTo.blank 0 (by rfl) (LexTo.tok 4 (by rfl) (by rfl) (LexTo.blank 0 (by rfl) ?_)))
  have h := LexTo.word hne hs hl (R := []) rfl LexTo.nil
  rw [List.append_nil] at h
  exact h
theorem saveL (s : Bytes) (hne : s ≠ []) (hs : ∀ c ∈ s, smallB c = true) (hl : s.length ≤ 32) : LexTo ([83, 65, 86, 69, 80, 79, 73, 78, 84, 32] ++ s) [⟨1, [115, 97, 118, 101, 112, 111, 105, 110, 116], 0⟩, ⟨1, s, 0⟩] := by
  refine LexTo.tok 8 (by rfl) (by rfl) (LexTo.blank 0 (by rfl) ?_)
  have h := LexTo.word hne hs hl (R := []) rfl LexTo.nil
  rw [List.append_nil] at h
  exact h
theorem createL (s : Bytes) (hne : s ≠ []) (hs : ∀ c ∈ s, smallB c = true) (hl : s.length ≤ 32) : LexTo ([67, 82, 69, 65, 84, 69, 32, 84, 65, 66, 76, 69, 32, 116, 32, 40] ++ s ++ [32, 73, 78, 84, 41]) [⟨1, [99, 114, 101, 97, 116, 101], 0⟩, ⟨1, [116, 97, 98, 108, 101], 0⟩, ⟨1, [116], 0⟩, ⟨4, [40], 0⟩, ⟨1, s, 0⟩, ⟨1, [105, 110, 116], 0⟩, ⟨4, [41], 0⟩] := by
  rw [List.append_assoc]
  obtain ⟨c, r, rfl⟩ : ∃ c r, s = c :: r := by cases s with | nil => exact absurd rfl hne | cons c r => exact ⟨c, r, rfl⟩
  refine LexTo.tok 5 (by rfl) (by rfl) (LexTo.blank 0 (by rfl) (LexTo.tok 4 (by rfl) (by rfl) (LexTo.blank 0 (by rfl) (LexTo.tok 0 (by rfl) (by rfl) (LexTo.blank 0 (by rfl) (LexTo.tok 0 (by rfl) (by rfl) ?_))))))
  refine LexTo.word (s := c :: r) hne hs hl (by rfl) ?_
  exact LexTo.blank 0 (by rfl) (LexTo.tok 2 (by rfl) (by rfl) (LexTo.tok 0 (by rfl) (by rfl) LexTo.nil))
theorem selectL (s : Bytes) (hne : s ≠ []) (hs : ∀ c ∈ s, smallB c = true) (hl : s.length ≤ 32) : LexTo ([83, 69, 76, 69, 67, 84, 32, 116, 46] ++ s ++ [32, 65, 83, 32, 120, 32, 70, 82, 79, 77, 32, 116]) [⟨1, [115, 101, 108, 101, 99, 116], 0⟩, ⟨1, [116], 0⟩, ⟨4, [46], 0⟩, ⟨1, s, 0⟩, ⟨1, [97, 115], 0⟩, ⟨1, [120], 0⟩, ⟨1, [102, 114, 111, 109], 0⟩, ⟨1, [116], 0⟩] := by
  rw [List.append_assoc]
  obtain ⟨c, r, rfl⟩ : ∃ c r, s = c :: r := by cases s with | nil => exact absurd rfl hne | cons c r => exact ⟨c, r, rfl⟩
  refine LexTo.tok 5 (by rfl) (by rfl) (LexTo.blank 0 (by rfl) (LexTo.tok 0 (by rfl) (by rfl) (LexTo.tok 0 (by rfl) (by rfl) ?_)))
  refine LexTo.word (s := c :: r) hne hs hl (by rfl) ?_
  exact LexTo.blank 0 (by rfl) (LexTo.tok 1 (by rfl) (by rfl) (LexTo.blank 0 (by rfl) (LexTo.tok 0 (by rfl) (by rfl) (LexTo.blank 0 (by rfl) (LexTo.tok 3 (by rfl) (by rfl) (LexTo.blank 0 (by rfl) (LexTo.tok 0 (by rfl) (by rfl) LexTo.nil)))))))
theorem updateL (s : Bytes) (hne : s ≠ []) (hs : ∀ c ∈ s, smallB c = true) (hl : s.length ≤ 32) : LexTo ([85, 80, 68, 65, 84, 69, 32, 116, 32, 83, 69, 84, 32] ++ s ++ [32, 61, 32, 49]) [⟨1, [117, 112, 100, 97, 116, 101], 0⟩, ⟨1, [116], 0⟩, ⟨1, [115, 101, 116], 0⟩, ⟨1, s, 0⟩, ⟨4, [61], 0⟩, ⟨2, [], 1⟩] := by
  rw [List.append_assoc]
  refine LexTo.tok 5 (by rfl) (by rfl) (LexTo.blank 0 (by rfl) (LexTo.tok 0 (by rfl) (by rfl) (LexTo.blank 0 (by rfl) (LexTo.tok 2 (by rfl) (by rfl) (LexTo.blank 0 (by rfl) ?_)))))
  refine LexTo.word hne hs hl (by rfl) ?_
  exact LexTo.blank 0 (by rfl) (LexTo.tok 0 (by rfl) (by rfl) (LexTo.blank 0 (by rfl) (LexTo.tok 0 (by rfl) (by rfl) LexTo.nil)))
section
variable {s : Bytes} {p1 p2 p3 p4 p5 p6 p7 p8 p9 : Nat}
theorem kt : nameB [116] = true := by kernel_rfl
theorem kx : nameB [120] = true := by kernel_rfl
def EN (p : Nat) : Tok := ⟨⟨5, [], 0⟩, p⟩
theorem drop_y (h : nameB s = true) : stmS (.ok [⟨⟨1, [100, 114, 111, 112], 0⟩, p1⟩, ⟨⟨1, [116, 97, 98, 108, 101], 0⟩, p2⟩, ⟨⟨1, s, 0⟩, p3⟩, EN p4] 0) = ({ kind := 2, table := txt s }, .ok [EN p4] 0) := by
  have h1 : stmS (.ok [⟨⟨1, [100, 114, 111, 112], 0⟩, p1⟩, ⟨⟨1, [116, 97, 98, 108, 101], 0⟩, p2⟩, ⟨⟨1, s, 0⟩, p3⟩, EN p4] 0) = ({ kind := 2, table := (Ps.name (.ok [⟨⟨1, s, 0⟩, p3⟩, EN p4] 0)).1 }, (Ps.name (.ok [⟨⟨1, s, 0⟩, p3⟩, EN p4] 0)).2) := rfl
  rw [h1, name_yes h]
theorem drop_n (h : nameB s = false) : (stmS (.ok [⟨⟨1, [100, 114, 111, 112], 0⟩, p1⟩, ⟨⟨1, [116, 97, 98, 108, 101], 0⟩, p2⟩, ⟨⟨1, s, 0⟩, p3⟩, EN p4] 0)).2 = .bad 180 p3 := by
  have h1 : stmS (.ok [⟨⟨1, [100, 114, 111, 112], 0⟩, p1⟩, ⟨⟨1, [116, 97, 98, 108, 101], 0⟩, p2⟩, ⟨⟨1, s, 0⟩, p3⟩, EN p4] 0) = ({ kind := 2, table := (Ps.name (.ok [⟨⟨1, s, 0⟩, p3⟩, EN p4] 0)).1 }, (Ps.name (.ok [⟨⟨1, s, 0⟩, p3⟩, EN p4] 0)).2) := rfl
  rw [h1, name_no h]
theorem save_y (h : nameB s = true) : stmS (.ok [⟨⟨1, [115, 97, 118, 101, 112, 111, 105, 110, 116], 0⟩, p1⟩, ⟨⟨1, s, 0⟩, p3⟩, EN p4] 0) = ({ kind := 12, name := txt s }, .ok [EN p4] 0) := by
  have h1 : stmS (.ok [⟨⟨1, [115, 97, 118, 101, 112, 111, 105, 110, 116], 0⟩, p1⟩, ⟨⟨1, s, 0⟩, p3⟩, EN p4] 0) = ({ kind := 12, name := (Ps.name (.ok [⟨⟨1, s, 0⟩, p3⟩, EN p4] 0)).1 }, (Ps.name (.ok [⟨⟨1, s, 0⟩, p3⟩, EN p4] 0)).2) := rfl
  rw [h1, name_yes h]
theorem save_n (h : nameB s = false) : (stmS (.ok [⟨⟨1, [115, 97, 118, 101, 112, 111, 105, 110, 116], 0⟩, p1⟩, ⟨⟨1, s, 0⟩, p3⟩, EN p4] 0)).2 = .bad 180 p3 := by
  have h1 : stmS (.ok [⟨⟨1, [115, 97, 118, 101, 112, 111, 105, 110, 116], 0⟩, p1⟩, ⟨⟨1, s, 0⟩, p3⟩, EN p4] 0) = ({ kind := 12, name := (Ps.name (.ok [⟨⟨1, s, 0⟩, p3⟩, EN p4] 0)).1 }, (Ps.name (.ok [⟨⟨1, s, 0⟩, p3⟩, EN p4] 0)).2) := rfl
  rw [h1, name_no h]
theorem sep_one {α : Type} {q : Pa α} {u u' : Ps} {a : α} (h : q u = (a, u')) (hc : u'.is 4 ⟨#[44]⟩ = false) : sep q u = ([a], u') := by
  unfold sep seps
  simp only [h, hc, Bool.false_eq_true, if_false]
  rfl
theorem left_one {ops : List (ByteArray × Int)} {k : Nat} {q : Pa Ex} {u u' : Ps} {e : Ex} (h : q u = (e, u')) (hf : ops.find? (fun o => u'.is k o.1) = none) : left ops k q u = (e, u') := by
  unfold left
  simp only [h]
  cases u'.size with
  | zero => rfl
  | succ n => unfold lefts; rw [hf]
theorem ahead_skip {k : Nat} {c : ByteArray} {op : Int} {q : Pa Ex} {n : Nat} {u : Ps} (h : u.is k c = false) : ahead k c op q n u = q u := by
  cases n with
  | zero => rfl
  | succ n => unfold ahead; rw [h]; rfl
theorem expr_atom {u u' : Ps} {e : Ex} (hn : u.is 1 ⟨#[110, 111, 116]⟩ = false) (hm : u.is 4 ⟨#[45]⟩ = false) (h : ∀ E, single E u = (e, u')) (h1 : [((⟨#[42]⟩ : ByteArray), (20 : Int)), (⟨#[47]⟩, 21), (⟨#[37]⟩, 22)].find? (fun o => u'.is 4 o.1) = none)
    (h2 : [((⟨#[43]⟩ : ByteArray), (18 : Int)), (⟨#[45]⟩, 19), (⟨#[124, 124]⟩, 23)].find? (fun o => u'.is 4 o.1) = none) (h3 : ∀ p E, compareT p E e u' = (e, u')) (h4 : [((⟨#[97, 110, 100]⟩ : ByteArray), (7 : Int))].find? (fun o => u'.is 1 o.1) = none) (h5 : [((⟨#[111, 114]⟩ : ByteArray), (6 : Int))].find? (fun o => u'.is 1 o.1) = none) : exprS u = (e, u') := by
  have key : ∀ E, lvl E u = (e, u') := fun E => by
    have a1 : minuses (single E) u = (e, u') := by unfold minuses; rw [ahead_skip hm]; exact h E
    have a2 : prods (minuses (single E)) u = (e, u') := left_one a1 h1
    have a3 : sums (prods (minuses (single E))) u = (e, u') := left_one a2 h2
    have a4 : compares (sums (prods (minuses (single E)))) E u = (e, u') := by unfold compares; simp only [a3]; exact h3 _ _
    have a5 : nots (compares (sums (prods (minuses (single E)))) E) u = (e, u') := by unfold nots; rw [ahead_skip hn]; exact a4
    have a6 : ands (nots (compares (sums (prods (minuses (single E)))) E)) u = (e, u') := left_one a5 h4
    exact left_one a6 h5
  unfold exprS
  cases u.size with
  | zero => exact key _
  | succ n => exact key _
theorem create_y (h : nameB s = true) : ∃ x, stmS (.ok [⟨⟨1, [99, 114, 101, 97, 116, 101], 0⟩, p1⟩, ⟨⟨1, [116, 97, 98, 108, 101], 0⟩, p2⟩, ⟨⟨1, [116], 0⟩, p3⟩, ⟨⟨4, [40], 0⟩, p4⟩, ⟨⟨1, s, 0⟩, p5⟩, ⟨⟨1, [105, 110, 116], 0⟩, p6⟩, ⟨⟨4, [41], 0⟩, p7⟩, EN p8] 0) = (x, .ok [EN p8] 0) := by
  have hcol : colS (.ok [⟨⟨1, s, 0⟩, p5⟩, ⟨⟨1, [105, 110, 116], 0⟩, p6⟩, ⟨⟨4, [41], 0⟩, p7⟩, EN p8] 0) = ({ name := txt s, ty := 1, nn := false, uq := false }, (.ok [⟨⟨4, [41], 0⟩, p7⟩, EN p8] 0)) := by unfold colS; simp only [name_yes h]; rfl
  have hsep : sep colS (.ok [⟨⟨1, s, 0⟩, p5⟩, ⟨⟨1, [105, 110, 116], 0⟩, p6⟩, ⟨⟨4, [41], 0⟩, p7⟩, EN p8] 0) = ([{ name := txt s, ty := 1, nn := false, uq := false }], (.ok [⟨⟨4, [41], 0⟩, p7⟩, EN p8] 0)) := sep_one hcol rfl
  have h1 : stmS (.ok [⟨⟨1, [99, 114, 101, 97, 116, 101], 0⟩, p1⟩, ⟨⟨1, [116, 97, 98, 108, 101], 0⟩, p2⟩, ⟨⟨1, [116], 0⟩, p3⟩, ⟨⟨4, [40], 0⟩, p4⟩, ⟨⟨1, s, 0⟩, p5⟩, ⟨⟨1, [105, 110, 116], 0⟩, p6⟩, ⟨⟨4, [41], 0⟩, p7⟩, EN p8] 0) = tableS (.ok [⟨⟨1, [116], 0⟩, p3⟩, ⟨⟨4, [40], 0⟩, p4⟩, ⟨⟨1, s, 0⟩, p5⟩, ⟨⟨1, [105, 110, 116], 0⟩, p6⟩, ⟨⟨4, [41], 0⟩, p7⟩, EN p8] 0) := rfl
  rw [h1]
  unfold tableS
  simp only [name_yes kt]
  rw [show (Ps.ok [⟨⟨4, [40], 0⟩, p4⟩, ⟨⟨1, s, 0⟩, p5⟩, ⟨⟨1, [105, 110, 116], 0⟩, p6⟩, ⟨⟨4, [41], 0⟩, p7⟩, EN p8] 0).need 4 ⟨#[40]⟩ = (.ok [⟨⟨1, s, 0⟩, p5⟩, ⟨⟨1, [105, 110, 116], 0⟩, p6⟩, ⟨⟨4, [41], 0⟩, p7⟩, EN p8] 0) from rfl, hsep]
  exact ⟨_, rfl⟩
theorem create_n (h : nameB s = false) : (stmS (.ok [⟨⟨1, [99, 114, 101, 97, 116, 101], 0⟩, p1⟩, ⟨⟨1, [116, 97, 98, 108, 101], 0⟩, p2⟩, ⟨⟨1, [116], 0⟩, p3⟩, ⟨⟨4, [40], 0⟩, p4⟩, ⟨⟨1, s, 0⟩, p5⟩, ⟨⟨1, [105, 110, 116], 0⟩, p6⟩, ⟨⟨4, [41], 0⟩, p7⟩, EN p8] 0)).2 = .bad 180 p5 := by
  have hcol : ∃ c, colS (.ok [⟨⟨1, s, 0⟩, p5⟩, ⟨⟨1, [105, 110, 116], 0⟩, p6⟩, ⟨⟨4, [41], 0⟩, p7⟩, EN p8] 0) = (c, .bad 180 p5) := by unfold colS; simp only [name_no h]; exact ⟨_, rfl⟩
  obtain ⟨c, hcol⟩ := hcol
  have hsep : sep colS (.ok [⟨⟨1, s, 0⟩, p5⟩, ⟨⟨1, [105, 110, 116], 0⟩, p6⟩, ⟨⟨4, [41], 0⟩, p7⟩, EN p8] 0) = ([c], .bad 180 p5) := sep_one hcol rfl
  have h1 : stmS (.ok [⟨⟨1, [99, 114, 101, 97, 116, 101], 0⟩, p1⟩, ⟨⟨1, [116, 97, 98, 108, 101], 0⟩, p2⟩, ⟨⟨1, [116], 0⟩, p3⟩, ⟨⟨4, [40], 0⟩, p4⟩, ⟨⟨1, s, 0⟩, p5⟩, ⟨⟨1, [105, 110, 116], 0⟩, p6⟩, ⟨⟨4, [41], 0⟩, p7⟩, EN p8] 0) = tableS (.ok [⟨⟨1, [116], 0⟩, p3⟩, ⟨⟨4, [40], 0⟩, p4⟩, ⟨⟨1, s, 0⟩, p5⟩, ⟨⟨1, [105, 110, 116], 0⟩, p6⟩, ⟨⟨4, [41], 0⟩, p7⟩, EN p8] 0) := rfl
  rw [h1]
  unfold tableS
  simp only [name_yes kt]
  rw [show (Ps.ok [⟨⟨4, [40], 0⟩, p4⟩, ⟨⟨1, s, 0⟩, p5⟩, ⟨⟨1, [105, 110, 116], 0⟩, p6⟩, ⟨⟨4, [41], 0⟩, p7⟩, EN p8] 0).need 4 ⟨#[40]⟩ = (.ok [⟨⟨1, s, 0⟩, p5⟩, ⟨⟨1, [105, 110, 116], 0⟩, p6⟩, ⟨⟨4, [41], 0⟩, p7⟩, EN p8] 0) from rfl, hsep]
  rfl
theorem dot_y (h : nameB s = true) : exprS (.ok [⟨⟨1, [116], 0⟩, p2⟩, ⟨⟨4, [46], 0⟩, p3⟩, ⟨⟨1, s, 0⟩, p4⟩, ⟨⟨1, [97, 115], 0⟩, p5⟩, ⟨⟨1, [120], 0⟩, p6⟩, ⟨⟨1, [102, 114, 111, 109], 0⟩, p7⟩, ⟨⟨1, [116], 0⟩, p8⟩, EN p9] 0) = (.mk { op := 2, tab := txt [116], name := txt s } [], (.ok [⟨⟨1, [97, 115], 0⟩, p5⟩, ⟨⟨1, [120], 0⟩, p6⟩, ⟨⟨1, [102, 114, 111, 109], 0⟩, p7⟩, ⟨⟨1, [116], 0⟩, p8⟩, EN p9] 0)) := by
  refine expr_atom rfl rfl (fun E => ?_) rfl rfl (fun _ _ => rfl) rfl rfl
  have h1 : single E (.ok [⟨⟨1, [116], 0⟩, p2⟩, ⟨⟨4, [46], 0⟩, p3⟩, ⟨⟨1, s, 0⟩, p4⟩, ⟨⟨1, [97, 115], 0⟩, p5⟩, ⟨⟨1, [120], 0⟩, p6⟩, ⟨⟨1, [102, 114, 111, 109], 0⟩, p7⟩, ⟨⟨1, [116], 0⟩, p8⟩, EN p9] 0) = nameS (.ok [⟨⟨1, [116], 0⟩, p2⟩, ⟨⟨4, [46], 0⟩, p3⟩, ⟨⟨1, s, 0⟩, p4⟩, ⟨⟨1, [97, 115], 0⟩, p5⟩, ⟨⟨1, [120], 0⟩, p6⟩, ⟨⟨1, [102, 114, 111, 109], 0⟩, p7⟩, ⟨⟨1, [116], 0⟩, p8⟩, EN p9] 0) := by
    unfold single
    rw [show Ps.headT (.ok [⟨⟨1, [116], 0⟩, p2⟩, ⟨⟨4, [46], 0⟩, p3⟩, ⟨⟨1, s, 0⟩, p4⟩, ⟨⟨1, [97, 115], 0⟩, p5⟩, ⟨⟨1, [120], 0⟩, p6⟩, ⟨⟨1, [102, 114, 111, 109], 0⟩, p7⟩, ⟨⟨1, [116], 0⟩, p8⟩, EN p9] 0) = [116] from rfl, kt]
    rfl
  rw [h1]
  unfold nameS
  simp only [name_yes kt]
  rw [show Ps.step (.ok [⟨⟨4, [46], 0⟩, p3⟩, ⟨⟨1, s, 0⟩, p4⟩, ⟨⟨1, [97, 115], 0⟩, p5⟩, ⟨⟨1, [120], 0⟩, p6⟩, ⟨⟨1, [102, 114, 111, 109], 0⟩, p7⟩, ⟨⟨1, [116], 0⟩, p8⟩, EN p9] 0) = (.ok [⟨⟨1, s, 0⟩, p4⟩, ⟨⟨1, [97, 115], 0⟩, p5⟩, ⟨⟨1, [120], 0⟩, p6⟩, ⟨⟨1, [102, 114, 111, 109], 0⟩, p7⟩, ⟨⟨1, [116], 0⟩, p8⟩, EN p9] 0) from rfl, name_yes h]
  rfl
theorem dot_n (h : nameB s = false) : ∃ x, exprS (.ok [⟨⟨1, [116], 0⟩, p2⟩, ⟨⟨4, [46], 0⟩, p3⟩, ⟨⟨1, s, 0⟩, p4⟩, ⟨⟨1, [97, 115], 0⟩, p5⟩, ⟨⟨1, [120], 0⟩, p6⟩, ⟨⟨1, [102, 114, 111, 109], 0⟩, p7⟩, ⟨⟨1, [116], 0⟩, p8⟩, EN p9] 0) = (x, .bad 180 p4) := by
  refine ⟨.mk { op := 2, tab := txt [116], name := ⟨#[]⟩ } [], expr_atom rfl rfl (fun E => ?_) rfl rfl (fun _ _ => rfl) rfl rfl⟩
  have h1 : single E (.ok [⟨⟨1, [116], 0⟩, p2⟩, ⟨⟨4, [46], 0⟩, p3⟩, ⟨⟨1, s, 0⟩, p4⟩, ⟨⟨1, [97, 115], 0⟩, p5⟩, ⟨⟨1, [120], 0⟩, p6⟩, ⟨⟨1, [102, 114, 111, 109], 0⟩, p7⟩, ⟨⟨1, [116], 0⟩, p8⟩, EN p9] 0) = nameS (.ok [⟨⟨1, [116], 0⟩, p2⟩, ⟨⟨4, [46], 0⟩, p3⟩, ⟨⟨1, s, 0⟩, p4⟩, ⟨⟨1, [97, 115], 0⟩, p5⟩, ⟨⟨1, [120], 0⟩, p6⟩, ⟨⟨1, [102, 114, 111, 109], 0⟩, p7⟩, ⟨⟨1, [116], 0⟩, p8⟩, EN p9] 0) := by
    unfold single
    rw [show Ps.headT (.ok [⟨⟨1, [116], 0⟩, p2⟩, ⟨⟨4, [46], 0⟩, p3⟩, ⟨⟨1, s, 0⟩, p4⟩, ⟨⟨1, [97, 115], 0⟩, p5⟩, ⟨⟨1, [120], 0⟩, p6⟩, ⟨⟨1, [102, 114, 111, 109], 0⟩, p7⟩, ⟨⟨1, [116], 0⟩, p8⟩, EN p9] 0) = [116] from rfl, kt]
    rfl
  rw [h1]
  unfold nameS
  simp only [name_yes kt]
  rw [show Ps.step (.ok [⟨⟨4, [46], 0⟩, p3⟩, ⟨⟨1, s, 0⟩, p4⟩, ⟨⟨1, [97, 115], 0⟩, p5⟩, ⟨⟨1, [120], 0⟩, p6⟩, ⟨⟨1, [102, 114, 111, 109], 0⟩, p7⟩, ⟨⟨1, [116], 0⟩, p8⟩, EN p9] 0) = (.ok [⟨⟨1, s, 0⟩, p4⟩, ⟨⟨1, [97, 115], 0⟩, p5⟩, ⟨⟨1, [120], 0⟩, p6⟩, ⟨⟨1, [102, 114, 111, 109], 0⟩, p7⟩, ⟨⟨1, [116], 0⟩, p8⟩, EN p9] 0) from rfl, name_no h]
  rfl
theorem select_y (h : nameB s = true) : ∃ x, stmS (.ok [⟨⟨1, [115, 101, 108, 101, 99, 116], 0⟩, p1⟩, ⟨⟨1, [116], 0⟩, p2⟩, ⟨⟨4, [46], 0⟩, p3⟩, ⟨⟨1, s, 0⟩, p4⟩, ⟨⟨1, [97, 115], 0⟩, p5⟩, ⟨⟨1, [120], 0⟩, p6⟩, ⟨⟨1, [102, 114, 111, 109], 0⟩, p7⟩, ⟨⟨1, [116], 0⟩, p8⟩, EN p9] 0) = (x, .ok [EN p9] 0) := by
  have hit : ∃ i, itemS (.ok [⟨⟨1, [116], 0⟩, p2⟩, ⟨⟨4, [46], 0⟩, p3⟩, ⟨⟨1, s, 0⟩, p4⟩, ⟨⟨1, [97, 115], 0⟩, p5⟩, ⟨⟨1, [120], 0⟩, p6⟩, ⟨⟨1, [102, 114, 111, 109], 0⟩, p7⟩, ⟨⟨1, [116], 0⟩, p8⟩, EN p9] 0) = (i, (.ok [⟨⟨1, [102, 114, 111, 109], 0⟩, p7⟩, ⟨⟨1, [116], 0⟩, p8⟩, EN p9] 0)) := by
    unfold itemS
    simp only [dot_y h]
    simp only [show Ps.is 1 ⟨#[97, 115]⟩ (.ok [⟨⟨1, [97, 115], 0⟩, p5⟩, ⟨⟨1, [120], 0⟩, p6⟩, ⟨⟨1, [102, 114, 111, 109], 0⟩, p7⟩, ⟨⟨1, [116], 0⟩, p8⟩, EN p9] 0) = true from rfl, if_true, show Ps.step (.ok [⟨⟨1, [97, 115], 0⟩, p5⟩, ⟨⟨1, [120], 0⟩, p6⟩, ⟨⟨1, [102, 114, 111, 109], 0⟩, p7⟩, ⟨⟨1, [116], 0⟩, p8⟩, EN p9] 0) = (.ok [⟨⟨1, [120], 0⟩, p6⟩, ⟨⟨1, [102, 114, 111, 109], 0⟩, p7⟩, ⟨⟨1, [116], 0⟩, p8⟩, EN p9] 0) from rfl, name_yes kx]
    exact ⟨_, rfl⟩
  obtain ⟨i, hit⟩ := hit
  have hits : itemsS (.ok [⟨⟨1, [116], 0⟩, p2⟩, ⟨⟨4, [46], 0⟩, p3⟩, ⟨⟨1, s, 0⟩, p4⟩, ⟨⟨1, [97, 115], 0⟩, p5⟩, ⟨⟨1, [120], 0⟩, p6⟩, ⟨⟨1, [102, 114, 111, 109], 0⟩, p7⟩, ⟨⟨1, [116], 0⟩, p8⟩, EN p9] 0) = ([i], (.ok [⟨⟨1, [102, 114, 111, 109], 0⟩, p7⟩, ⟨⟨1, [116], 0⟩, p8⟩, EN p9] 0)) := by
    have h1 : itemsS (.ok [⟨⟨1, [116], 0⟩, p2⟩, ⟨⟨4, [46], 0⟩, p3⟩, ⟨⟨1, s, 0⟩, p4⟩, ⟨⟨1, [97, 115], 0⟩, p5⟩, ⟨⟨1, [120], 0⟩, p6⟩, ⟨⟨1, [102, 114, 111, 109], 0⟩, p7⟩, ⟨⟨1, [116], 0⟩, p8⟩, EN p9] 0) = sep itemS (.ok [⟨⟨1, [116], 0⟩, p2⟩, ⟨⟨4, [46], 0⟩, p3⟩, ⟨⟨1, s, 0⟩, p4⟩, ⟨⟨1, [97, 115], 0⟩, p5⟩, ⟨⟨1, [120], 0⟩, p6⟩, ⟨⟨1, [102, 114, 111, 109], 0⟩, p7⟩, ⟨⟨1, [116], 0⟩, p8⟩, EN p9] 0) := rfl
    rw [h1]
    exact sep_one hit rfl
  have href : refS (.ok [⟨⟨1, [116], 0⟩, p8⟩, EN p9] 0) = (⟨txt [116], txt [116], noEx⟩, .ok [EN p9] 0) := by unfold refS; simp only [name_yes kt]; rfl
  have h1 : stmS (.ok [⟨⟨1, [115, 101, 108, 101, 99, 116], 0⟩, p1⟩, ⟨⟨1, [116], 0⟩, p2⟩, ⟨⟨4, [46], 0⟩, p3⟩, ⟨⟨1, s, 0⟩, p4⟩, ⟨⟨1, [97, 115], 0⟩, p5⟩, ⟨⟨1, [120], 0⟩, p6⟩, ⟨⟨1, [102, 114, 111, 109], 0⟩, p7⟩, ⟨⟨1, [116], 0⟩, p8⟩, EN p9] 0) = queryS (.ok [⟨⟨1, [115, 101, 108, 101, 99, 116], 0⟩, p1⟩, ⟨⟨1, [116], 0⟩, p2⟩, ⟨⟨4, [46], 0⟩, p3⟩, ⟨⟨1, s, 0⟩, p4⟩, ⟨⟨1, [97, 115], 0⟩, p5⟩, ⟨⟨1, [120], 0⟩, p6⟩, ⟨⟨1, [102, 114, 111, 109], 0⟩, p7⟩, ⟨⟨1, [116], 0⟩, p8⟩, EN p9] 0) := rfl
  rw [h1]
  unfold queryS
  simp only [show Ps.word ⟨#[101, 120, 112, 108, 97, 105, 110]⟩ (.ok [⟨⟨1, [115, 101, 108, 101, 99, 116], 0⟩, p1⟩, ⟨⟨1, [116], 0⟩, p2⟩, ⟨⟨4, [46], 0⟩, p3⟩, ⟨⟨1, s, 0⟩, p4⟩, ⟨⟨1, [97, 115], 0⟩, p5⟩, ⟨⟨1, [120], 0⟩, p6⟩, ⟨⟨1, [102, 114, 111, 109], 0⟩, p7⟩, ⟨⟨1, [116], 0⟩, p8⟩, EN p9] 0) = (false, (.ok [⟨⟨1, [115, 101, 108, 101, 99, 116], 0⟩, p1⟩, ⟨⟨1, [116], 0⟩, p2⟩, ⟨⟨4, [46], 0⟩, p3⟩, ⟨⟨1, s, 0⟩, p4⟩, ⟨⟨1, [97, 115], 0⟩, p5⟩, ⟨⟨1, [120], 0⟩, p6⟩, ⟨⟨1, [102, 114, 111, 109], 0⟩, p7⟩, ⟨⟨1, [116], 0⟩, p8⟩, EN p9] 0)) from rfl, show Ps.need 1 ⟨#[115, 101, 108, 101, 99, 116]⟩ (.ok [⟨⟨1, [115, 101, 108, 101, 99, 116], 0⟩, p1⟩, ⟨⟨1, [116], 0⟩, p2⟩, ⟨⟨4, [46], 0⟩, p3⟩, ⟨⟨1, s, 0⟩, p4⟩, ⟨⟨1, [97, 115], 0⟩, p5⟩, ⟨⟨1, [120], 0⟩, p6⟩, ⟨⟨1, [102, 114, 111, 109], 0⟩, p7⟩, ⟨⟨1, [116], 0⟩, p8⟩, EN p9] 0) = (.ok [⟨⟨1, [116], 0⟩, p2⟩, ⟨⟨4, [46], 0⟩, p3⟩, ⟨⟨1, s, 0⟩, p4⟩, ⟨⟨1, [97, 115], 0⟩, p5⟩, ⟨⟨1, [120], 0⟩, p6⟩, ⟨⟨1, [102, 114, 111, 109], 0⟩, p7⟩, ⟨⟨1, [116], 0⟩, p8⟩, EN p9] 0) from rfl, show Ps.word ⟨#[100, 105, 115, 116, 105, 110, 99, 116]⟩ (.ok [⟨⟨1, [116], 0⟩, p2⟩, ⟨⟨4, [46], 0⟩, p3⟩, ⟨⟨1, s, 0⟩, p4⟩, ⟨⟨1, [97, 115], 0⟩, p5⟩, ⟨⟨1, [120], 0⟩, p6⟩, ⟨⟨1, [102, 114, 111, 109], 0⟩, p7⟩, ⟨⟨1, [116], 0⟩, p8⟩, EN p9] 0) = (false, (.ok [⟨⟨1, [116], 0⟩, p2⟩, ⟨⟨4, [46], 0⟩, p3⟩, ⟨⟨1, s, 0⟩, p4⟩, ⟨⟨1, [97, 115], 0⟩, p5⟩, ⟨⟨1, [120], 0⟩, p6⟩, ⟨⟨1, [102, 114, 111, 109], 0⟩, p7⟩, ⟨⟨1, [116], 0⟩, p8⟩, EN p9] 0)) from rfl, hits, show Ps.need 1 ⟨#[102, 114, 111, 109]⟩ (.ok [⟨⟨1, [102, 114, 111, 109], 0⟩, p7⟩, ⟨⟨1, [116], 0⟩, p8⟩, EN p9] 0) = .ok [⟨⟨1, [116], 0⟩, p8⟩, EN p9] 0 from rfl]
  unfold fromS
  simp only [href]
  exact ⟨_, rfl⟩
theorem select_n (h : nameB s = false) : (stmS (.ok [⟨⟨1, [115, 101, 108, 101, 99, 116], 0⟩, p1⟩, ⟨⟨1, [116], 0⟩, p2⟩, ⟨⟨4, [46], 0⟩, p3⟩, ⟨⟨1, s, 0⟩, p4⟩, ⟨⟨1, [97, 115], 0⟩, p5⟩, ⟨⟨1, [120], 0⟩, p6⟩, ⟨⟨1, [102, 114, 111, 109], 0⟩, p7⟩, ⟨⟨1, [116], 0⟩, p8⟩, EN p9] 0)).2 = .bad 180 p4 := by
  obtain ⟨x, hx⟩ := dot_n (p2 := p2) (p3 := p3) (p4 := p4) (p5 := p5) (p6 := p6) (p7 := p7) (p8 := p8) (p9 := p9) h
  have hit : ∃ i, itemS (.ok [⟨⟨1, [116], 0⟩, p2⟩, ⟨⟨4, [46], 0⟩, p3⟩, ⟨⟨1, s, 0⟩, p4⟩, ⟨⟨1, [97, 115], 0⟩, p5⟩, ⟨⟨1, [120], 0⟩, p6⟩, ⟨⟨1, [102, 114, 111, 109], 0⟩, p7⟩, ⟨⟨1, [116], 0⟩, p8⟩, EN p9] 0) = (i, .bad 180 p4) := by
    unfold itemS
    simp only [hx]
    exact ⟨_, rfl⟩
  obtain ⟨i, hit⟩ := hit
  have hits : itemsS (.ok [⟨⟨1, [116], 0⟩, p2⟩, ⟨⟨4, [46], 0⟩, p3⟩, ⟨⟨1, s, 0⟩, p4⟩, ⟨⟨1, [97, 115], 0⟩, p5⟩, ⟨⟨1, [120], 0⟩, p6⟩, ⟨⟨1, [102, 114, 111, 109], 0⟩, p7⟩, ⟨⟨1, [116], 0⟩, p8⟩, EN p9] 0) = ([i], .bad 180 p4) := by
    have h1 : itemsS (.ok [⟨⟨1, [116], 0⟩, p2⟩, ⟨⟨4, [46], 0⟩, p3⟩, ⟨⟨1, s, 0⟩, p4⟩, ⟨⟨1, [97, 115], 0⟩, p5⟩, ⟨⟨1, [120], 0⟩, p6⟩, ⟨⟨1, [102, 114, 111, 109], 0⟩, p7⟩, ⟨⟨1, [116], 0⟩, p8⟩, EN p9] 0) = sep itemS (.ok [⟨⟨1, [116], 0⟩, p2⟩, ⟨⟨4, [46], 0⟩, p3⟩, ⟨⟨1, s, 0⟩, p4⟩, ⟨⟨1, [97, 115], 0⟩, p5⟩, ⟨⟨1, [120], 0⟩, p6⟩, ⟨⟨1, [102, 114, 111, 109], 0⟩, p7⟩, ⟨⟨1, [116], 0⟩, p8⟩, EN p9] 0) := rfl
    rw [h1]
    exact sep_one hit rfl
  have h1 : stmS (.ok [⟨⟨1, [115, 101, 108, 101, 99, 116], 0⟩, p1⟩, ⟨⟨1, [116], 0⟩, p2⟩, ⟨⟨4, [46], 0⟩, p3⟩, ⟨⟨1, s, 0⟩, p4⟩, ⟨⟨1, [97, 115], 0⟩, p5⟩, ⟨⟨1, [120], 0⟩, p6⟩, ⟨⟨1, [102, 114, 111, 109], 0⟩, p7⟩, ⟨⟨1, [116], 0⟩, p8⟩, EN p9] 0) = queryS (.ok [⟨⟨1, [115, 101, 108, 101, 99, 116], 0⟩, p1⟩, ⟨⟨1, [116], 0⟩, p2⟩, ⟨⟨4, [46], 0⟩, p3⟩, ⟨⟨1, s, 0⟩, p4⟩, ⟨⟨1, [97, 115], 0⟩, p5⟩, ⟨⟨1, [120], 0⟩, p6⟩, ⟨⟨1, [102, 114, 111, 109], 0⟩, p7⟩, ⟨⟨1, [116], 0⟩, p8⟩, EN p9] 0) := rfl
  rw [h1]
  unfold queryS
  simp only [show Ps.word ⟨#[101, 120, 112, 108, 97, 105, 110]⟩ (.ok [⟨⟨1, [115, 101, 108, 101, 99, 116], 0⟩, p1⟩, ⟨⟨1, [116], 0⟩, p2⟩, ⟨⟨4, [46], 0⟩, p3⟩, ⟨⟨1, s, 0⟩, p4⟩, ⟨⟨1, [97, 115], 0⟩, p5⟩, ⟨⟨1, [120], 0⟩, p6⟩, ⟨⟨1, [102, 114, 111, 109], 0⟩, p7⟩, ⟨⟨1, [116], 0⟩, p8⟩, EN p9] 0) = (false, (.ok [⟨⟨1, [115, 101, 108, 101, 99, 116], 0⟩, p1⟩, ⟨⟨1, [116], 0⟩, p2⟩, ⟨⟨4, [46], 0⟩, p3⟩, ⟨⟨1, s, 0⟩, p4⟩, ⟨⟨1, [97, 115], 0⟩, p5⟩, ⟨⟨1, [120], 0⟩, p6⟩, ⟨⟨1, [102, 114, 111, 109], 0⟩, p7⟩, ⟨⟨1, [116], 0⟩, p8⟩, EN p9] 0)) from rfl, show Ps.need 1 ⟨#[115, 101, 108, 101, 99, 116]⟩ (.ok [⟨⟨1, [115, 101, 108, 101, 99, 116], 0⟩, p1⟩, ⟨⟨1, [116], 0⟩, p2⟩, ⟨⟨4, [46], 0⟩, p3⟩, ⟨⟨1, s, 0⟩, p4⟩, ⟨⟨1, [97, 115], 0⟩, p5⟩, ⟨⟨1, [120], 0⟩, p6⟩, ⟨⟨1, [102, 114, 111, 109], 0⟩, p7⟩, ⟨⟨1, [116], 0⟩, p8⟩, EN p9] 0) = (.ok [⟨⟨1, [116], 0⟩, p2⟩, ⟨⟨4, [46], 0⟩, p3⟩, ⟨⟨1, s, 0⟩, p4⟩, ⟨⟨1, [97, 115], 0⟩, p5⟩, ⟨⟨1, [120], 0⟩, p6⟩, ⟨⟨1, [102, 114, 111, 109], 0⟩, p7⟩, ⟨⟨1, [116], 0⟩, p8⟩, EN p9] 0) from rfl, show Ps.word ⟨#[100, 105, 115, 116, 105, 110, 99, 116]⟩ (.ok [⟨⟨1, [116], 0⟩, p2⟩, ⟨⟨4, [46], 0⟩, p3⟩, ⟨⟨1, s, 0⟩, p4⟩, ⟨⟨1, [97, 115], 0⟩, p5⟩, ⟨⟨1, [120], 0⟩, p6⟩, ⟨⟨1, [102, 114, 111, 109], 0⟩, p7⟩, ⟨⟨1, [116], 0⟩, p8⟩, EN p9] 0) = (false, (.ok [⟨⟨1, [116], 0⟩, p2⟩, ⟨⟨4, [46], 0⟩, p3⟩, ⟨⟨1, s, 0⟩, p4⟩, ⟨⟨1, [97, 115], 0⟩, p5⟩, ⟨⟨1, [120], 0⟩, p6⟩, ⟨⟨1, [102, 114, 111, 109], 0⟩, p7⟩, ⟨⟨1, [116], 0⟩, p8⟩, EN p9] 0)) from rfl, hits]
  rfl
theorem update_y (h : nameB s = true) : ∃ x, stmS (.ok [⟨⟨1, [117, 112, 100, 97, 116, 101], 0⟩, p1⟩, ⟨⟨1, [116], 0⟩, p2⟩, ⟨⟨1, [115, 101, 116], 0⟩, p3⟩, ⟨⟨1, s, 0⟩, p4⟩, ⟨⟨4, [61], 0⟩, p5⟩, ⟨⟨2, [], 1⟩, p6⟩, EN p7] 0) = (x, .ok [EN p7] 0) ∧ x.columns = [txt s] := by
  have hl : exprS (.ok [⟨⟨2, [], 1⟩, p6⟩, EN p7] 0) = (litE (numV 1), .ok [EN p7] 0) := expr_atom rfl rfl (fun E => rfl) rfl rfl (fun _ _ => rfl) rfl rfl
  have hset : setS (.ok [⟨⟨1, s, 0⟩, p4⟩, ⟨⟨4, [61], 0⟩, p5⟩, ⟨⟨2, [], 1⟩, p6⟩, EN p7] 0) = ((txt s, litE (numV 1)), .ok [EN p7] 0) := by
    unfold setS
    simp only [name_yes h]
    rw [show Ps.need 4 ⟨#[61]⟩ (.ok [⟨⟨4, [61], 0⟩, p5⟩, ⟨⟨2, [], 1⟩, p6⟩, EN p7] 0) = (.ok [⟨⟨2, [], 1⟩, p6⟩, EN p7] 0) from rfl, hl]
  have hsep : sep setS (.ok [⟨⟨1, s, 0⟩, p4⟩, ⟨⟨4, [61], 0⟩, p5⟩, ⟨⟨2, [], 1⟩, p6⟩, EN p7] 0) = ([(txt s, litE (numV 1))], .ok [EN p7] 0) := sep_one hset rfl
  have h1 : stmS (.ok [⟨⟨1, [117, 112, 100, 97, 116, 101], 0⟩, p1⟩, ⟨⟨1, [116], 0⟩, p2⟩, ⟨⟨1, [115, 101, 116], 0⟩, p3⟩, ⟨⟨1, s, 0⟩, p4⟩, ⟨⟨4, [61], 0⟩, p5⟩, ⟨⟨2, [], 1⟩, p6⟩, EN p7] 0) = updateS (.ok [⟨⟨1, [116], 0⟩, p2⟩, ⟨⟨1, [115, 101, 116], 0⟩, p3⟩, ⟨⟨1, s, 0⟩, p4⟩, ⟨⟨4, [61], 0⟩, p5⟩, ⟨⟨2, [], 1⟩, p6⟩, EN p7] 0) := rfl
  rw [h1]
  unfold updateS
  simp only [name_yes kt]
  rw [show Ps.need 1 ⟨#[115, 101, 116]⟩ (.ok [⟨⟨1, [115, 101, 116], 0⟩, p3⟩, ⟨⟨1, s, 0⟩, p4⟩, ⟨⟨4, [61], 0⟩, p5⟩, ⟨⟨2, [], 1⟩, p6⟩, EN p7] 0) = (.ok [⟨⟨1, s, 0⟩, p4⟩, ⟨⟨4, [61], 0⟩, p5⟩, ⟨⟨2, [], 1⟩, p6⟩, EN p7] 0) from rfl, hsep]
  exact ⟨_, rfl, rfl⟩
theorem update_n (h : nameB s = false) : (stmS (.ok [⟨⟨1, [117, 112, 100, 97, 116, 101], 0⟩, p1⟩, ⟨⟨1, [116], 0⟩, p2⟩, ⟨⟨1, [115, 101, 116], 0⟩, p3⟩, ⟨⟨1, s, 0⟩, p4⟩, ⟨⟨4, [61], 0⟩, p5⟩, ⟨⟨2, [], 1⟩, p6⟩, EN p7] 0)).2 = .bad 180 p4 := by
  have hset : ∃ y, setS (.ok [⟨⟨1, s, 0⟩, p4⟩, ⟨⟨4, [61], 0⟩, p5⟩, ⟨⟨2, [], 1⟩, p6⟩, EN p7] 0) = (y, .bad 180 p4) := by
    unfold setS
    simp only [name_no h]
    rw [show Ps.need 4 ⟨#[61]⟩ (.bad 180 p4) = .bad 180 p4 from rfl]
    exact ⟨_, Prod.ext rfl (kb_exprS 180 p4)⟩
  obtain ⟨y, hset⟩ := hset
  have hsep : sep setS (.ok [⟨⟨1, s, 0⟩, p4⟩, ⟨⟨4, [61], 0⟩, p5⟩, ⟨⟨2, [], 1⟩, p6⟩, EN p7] 0) = ([y], .bad 180 p4) := sep_one hset rfl
  have h1 : stmS (.ok [⟨⟨1, [117, 112, 100, 97, 116, 101], 0⟩, p1⟩, ⟨⟨1, [116], 0⟩, p2⟩, ⟨⟨1, [115, 101, 116], 0⟩, p3⟩, ⟨⟨1, s, 0⟩, p4⟩, ⟨⟨4, [61], 0⟩, p5⟩, ⟨⟨2, [], 1⟩, p6⟩, EN p7] 0) = updateS (.ok [⟨⟨1, [116], 0⟩, p2⟩, ⟨⟨1, [115, 101, 116], 0⟩, p3⟩, ⟨⟨1, s, 0⟩, p4⟩, ⟨⟨4, [61], 0⟩, p5⟩, ⟨⟨2, [], 1⟩, p6⟩, EN p7] 0) := rfl
  rw [h1]
  unfold updateS
  simp only [name_yes kt]
  rw [show Ps.need 1 ⟨#[115, 101, 116]⟩ (.ok [⟨⟨1, [115, 101, 116], 0⟩, p3⟩, ⟨⟨1, s, 0⟩, p4⟩, ⟨⟨4, [61], 0⟩, p5⟩, ⟨⟨2, [], 1⟩, p6⟩, EN p7] 0) = (.ok [⟨⟨1, s, 0⟩, p4⟩, ⟨⟨4, [61], 0⟩, p5⟩, ⟨⟨2, [], 1⟩, p6⟩, EN p7] 0) from rfl, hsep]
  rfl
end
theorem stmT_ok {t : ByteArray} {l : List Tok} {x : Stm} {p : Nat} (hr : readS t = .ok l 0) (h : stmS (.ok l 0) = (x, .ok [EN p] 0)) : stmT t = (x, .ok [EN p] 0) := by
  unfold stmT
  simp only [hr, h]
  rfl
theorem stmT_bad {t : ByteArray} {l : List Tok} {e : Int} {a : Nat} (hr : readS t = .ok l 0) (h : (stmS (.ok l 0)).2 = .bad e a) : (stmT t).2 = .bad e a := by
  unfold stmT
  simp only [hr, h]
  rfl
theorem txt_data (s : ByteArray) : txt s.data.toList = s := by
  apply ByteArray.ext
  simp [txt]
theorem drop_law (s : ByteArray) (hne : s.data.toList ≠ []) (hs : ∀ c ∈ s.data.toList, smallB c = true) (hl : s.data.toList.length ≤ 32) : (nameB s.data.toList = true → ∃ x l d, stmT (⟨#[68, 82, 79, 80, 32, 84, 65, 66, 76, 69, 32]⟩ ++ s : ByteArray) = (x, .ok l d)) ∧ (nameB s.data.toList = false → ∃ a, (stmT (⟨#[68, 82, 79, 80, 32, 84, 65, 66, 76, 69, 32]⟩ ++ s : ByteArray)).2 = .bad 180 a) := by
  have hd : (⟨#[68, 82, 79, 80, 32, 84, 65, 66, 76, 69, 32]⟩ ++ s : ByteArray).data.toList = [68, 82, 79, 80, 32, 84, 65, 66, 76, 69, 32] ++ s.data.toList := by simp only [ByteArray.data_append, Array.toList_append]
  have hz : (⟨#[68, 82, 79, 80, 32, 84, 65, 66, 76, 69, 32]⟩ ++ s : ByteArray).size ≤ 4096 := by
    have h1 : (⟨#[68, 82, 79, 80, 32, 84, 65, 66, 76, 69, 32]⟩ ++ s : ByteArray).size = (⟨#[68, 82, 79, 80, 32, 84, 65, 66, 76, 69, 32]⟩ ++ s : ByteArray).data.toList.length := by rw [Array.length_toList]; rfl
    rw [h1, hd]
    simp only [List.length_append, List.length_cons, List.length_nil]
    omega
  obtain ⟨l, hr, hlm⟩ := readS_of hz (by rw [hd]; exact dropL s.data.toList hne hs hl)
  simp only [List.cons_append, List.nil_append] at hlm
  obtain ⟨⟨k0, p0⟩, l0, rfl, e0, hl0⟩ := List.map_eq_cons_iff.1 hlm
  have e0 : k0 = _ := e0
  subst e0
  obtain ⟨⟨k1, p1⟩, l1, rfl, e1, hl1⟩ := List.map_eq_cons_iff.1 hl0
  have e1 : k1 = _ := e1
  subst e1
  obtain ⟨⟨k2, p2⟩, l2, rfl, e2, hl2⟩ := List.map_eq_cons_iff.1 hl1
  have e2 : k2 = _ := e2
  subst e2
  obtain ⟨⟨k3, p3⟩, l3, rfl, e3, hl3⟩ := List.map_eq_cons_iff.1 hl2
  have e3 : k3 = _ := e3
  subst e3
  have hln := List.map_eq_nil_iff.1 hl3
  subst hln
  constructor
  · intro h
    exact ⟨_, _, _, stmT_ok hr (drop_y h)⟩
  · intro h
    exact ⟨_, stmT_bad hr (drop_n h)⟩
theorem save_law (s : ByteArray) (hne : s.data.toList ≠ []) (hs : ∀ c ∈ s.data.toList, smallB c = true) (hl : s.data.toList.length ≤ 32) : (nameB s.data.toList = true → ∃ x l d, stmT (⟨#[83, 65, 86, 69, 80, 79, 73, 78, 84, 32]⟩ ++ s : ByteArray) = (x, .ok l d)) ∧ (nameB s.data.toList = false → ∃ a, (stmT (⟨#[83, 65, 86, 69, 80, 79, 73, 78, 84, 32]⟩ ++ s : ByteArray)).2 = .bad 180 a) := by
  have hd : (⟨#[83, 65, 86, 69, 80, 79, 73, 78, 84, 32]⟩ ++ s : ByteArray).data.toList = [83, 65, 86, 69, 80, 79, 73, 78, 84, 32] ++ s.data.toList := by simp only [ByteArray.data_append, Array.toList_append]
  have hz : (⟨#[83, 65, 86, 69, 80, 79, 73, 78, 84, 32]⟩ ++ s : ByteArray).size ≤ 4096 := by
    have h1 : (⟨#[83, 65, 86, 69, 80, 79, 73, 78, 84, 32]⟩ ++ s : ByteArray).size = (⟨#[83, 65, 86, 69, 80, 79, 73, 78, 84, 32]⟩ ++ s : ByteArray).data.toList.length := by rw [Array.length_toList]; rfl
    rw [h1, hd]
    simp only [List.length_append, List.length_cons, List.length_nil]
    omega
  obtain ⟨l, hr, hlm⟩ := readS_of hz (by rw [hd]; exact saveL s.data.toList hne hs hl)
  simp only [List.cons_append, List.nil_append] at hlm
  obtain ⟨⟨k0, p0⟩, l0, rfl, e0, hl0⟩ := List.map_eq_cons_iff.1 hlm
  have e0 : k0 = _ := e0
  subst e0
  obtain ⟨⟨k1, p1⟩, l1, rfl, e1, hl1⟩ := List.map_eq_cons_iff.1 hl0
  have e1 : k1 = _ := e1
  subst e1
  obtain ⟨⟨k2, p2⟩, l2, rfl, e2, hl2⟩ := List.map_eq_cons_iff.1 hl1
  have e2 : k2 = _ := e2
  subst e2
  have hln := List.map_eq_nil_iff.1 hl2
  subst hln
  constructor
  · intro h
    exact ⟨_, _, _, stmT_ok hr (save_y h)⟩
  · intro h
    exact ⟨_, stmT_bad hr (save_n h)⟩
theorem create_law (s : ByteArray) (hne : s.data.toList ≠ []) (hs : ∀ c ∈ s.data.toList, smallB c = true) (hl : s.data.toList.length ≤ 32) : (nameB s.data.toList = true → ∃ x l d, stmT (⟨#[67, 82, 69, 65, 84, 69, 32, 84, 65, 66, 76, 69, 32, 116, 32, 40]⟩ ++ s ++ ⟨#[32, 73, 78, 84, 41]⟩ : ByteArray) = (x, .ok l d)) ∧ (nameB s.data.toList = false → ∃ a, (stmT (⟨#[67, 82, 69, 65, 84, 69, 32, 84, 65, 66, 76, 69, 32, 116, 32, 40]⟩ ++ s ++ ⟨#[32, 73, 78, 84, 41]⟩ : ByteArray)).2 = .bad 180 a) := by
  have hd : (⟨#[67, 82, 69, 65, 84, 69, 32, 84, 65, 66, 76, 69, 32, 116, 32, 40]⟩ ++ s ++ ⟨#[32, 73, 78, 84, 41]⟩ : ByteArray).data.toList = [67, 82, 69, 65, 84, 69, 32, 84, 65, 66, 76, 69, 32, 116, 32, 40] ++ s.data.toList ++ [32, 73, 78, 84, 41] := by simp only [ByteArray.data_append, Array.toList_append]
  have hz : (⟨#[67, 82, 69, 65, 84, 69, 32, 84, 65, 66, 76, 69, 32, 116, 32, 40]⟩ ++ s ++ ⟨#[32, 73, 78, 84, 41]⟩ : ByteArray).size ≤ 4096 := by
    have h1 : (⟨#[67, 82, 69, 65, 84, 69, 32, 84, 65, 66, 76, 69, 32, 116, 32, 40]⟩ ++ s ++ ⟨#[32, 73, 78, 84, 41]⟩ : ByteArray).size = (⟨#[67, 82, 69, 65, 84, 69, 32, 84, 65, 66, 76, 69, 32, 116, 32, 40]⟩ ++ s ++ ⟨#[32, 73, 78, 84, 41]⟩ : ByteArray).data.toList.length := by rw [Array.length_toList]; rfl
    rw [h1, hd]
    simp only [List.length_append, List.length_cons, List.length_nil]
    omega
  obtain ⟨l, hr, hlm⟩ := readS_of hz (by rw [hd]; exact createL s.data.toList hne hs hl)
  simp only [List.cons_append, List.nil_append] at hlm
  obtain ⟨⟨k0, p0⟩, l0, rfl, e0, hl0⟩ := List.map_eq_cons_iff.1 hlm
  have e0 : k0 = _ := e0
  subst e0
  obtain ⟨⟨k1, p1⟩, l1, rfl, e1, hl1⟩ := List.map_eq_cons_iff.1 hl0
  have e1 : k1 = _ := e1
  subst e1
  obtain ⟨⟨k2, p2⟩, l2, rfl, e2, hl2⟩ := List.map_eq_cons_iff.1 hl1
  have e2 : k2 = _ := e2
  subst e2
  obtain ⟨⟨k3, p3⟩, l3, rfl, e3, hl3⟩ := List.map_eq_cons_iff.1 hl2
  have e3 : k3 = _ := e3
  subst e3
  obtain ⟨⟨k4, p4⟩, l4, rfl, e4, hl4⟩ := List.map_eq_cons_iff.1 hl3
  have e4 : k4 = _ := e4
  subst e4
  obtain ⟨⟨k5, p5⟩, l5, rfl, e5, hl5⟩ := List.map_eq_cons_iff.1 hl4
  have e5 : k5 = _ := e5
  subst e5
  obtain ⟨⟨k6, p6⟩, l6, rfl, e6, hl6⟩ := List.map_eq_cons_iff.1 hl5
  have e6 : k6 = _ := e6
  subst e6
  obtain ⟨⟨k7, p7⟩, l7, rfl, e7, hl7⟩ := List.map_eq_cons_iff.1 hl6
  have e7 : k7 = _ := e7
  subst e7
  have hln := List.map_eq_nil_iff.1 hl7
  subst hln
  constructor
  · intro h
    obtain ⟨x, hx⟩ := create_y h
    exact ⟨x, _, _, stmT_ok hr hx⟩
  · intro h
    exact ⟨_, stmT_bad hr (create_n h)⟩
theorem select_law (s : ByteArray) (hne : s.data.toList ≠ []) (hs : ∀ c ∈ s.data.toList, smallB c = true) (hl : s.data.toList.length ≤ 32) : (nameB s.data.toList = true → ∃ x l d, stmT (⟨#[83, 69, 76, 69, 67, 84, 32, 116, 46]⟩ ++ s ++ ⟨#[32, 65, 83, 32, 120, 32, 70, 82, 79, 77, 32, 116]⟩ : ByteArray) = (x, .ok l d)) ∧ (nameB s.data.toList = false → ∃ a, (stmT (⟨#[83, 69, 76, 69, 67, 84, 32, 116, 46]⟩ ++ s ++ ⟨#[32, 65, 83, 32, 120, 32, 70, 82, 79, 77, 32, 116]⟩ : ByteArray)).2 = .bad 180 a) := by
  have hd : (⟨#[83, 69, 76, 69, 67, 84, 32, 116, 46]⟩ ++ s ++ ⟨#[32, 65, 83, 32, 120, 32, 70, 82, 79, 77, 32, 116]⟩ : ByteArray).data.toList = [83, 69, 76, 69, 67, 84, 32, 116, 46] ++ s.data.toList ++ [32, 65, 83, 32, 120, 32, 70, 82, 79, 77, 32, 116] := by simp only [ByteArray.data_append, Array.toList_append]
  have hz : (⟨#[83, 69, 76, 69, 67, 84, 32, 116, 46]⟩ ++ s ++ ⟨#[32, 65, 83, 32, 120, 32, 70, 82, 79, 77, 32, 116]⟩ : ByteArray).size ≤ 4096 := by
    have h1 : (⟨#[83, 69, 76, 69, 67, 84, 32, 116, 46]⟩ ++ s ++ ⟨#[32, 65, 83, 32, 120, 32, 70, 82, 79, 77, 32, 116]⟩ : ByteArray).size = (⟨#[83, 69, 76, 69, 67, 84, 32, 116, 46]⟩ ++ s ++ ⟨#[32, 65, 83, 32, 120, 32, 70, 82, 79, 77, 32, 116]⟩ : ByteArray).data.toList.length := by rw [Array.length_toList]; rfl
    rw [h1, hd]
    simp only [List.length_append, List.length_cons, List.length_nil]
    omega
  obtain ⟨l, hr, hlm⟩ := readS_of hz (by rw [hd]; exact selectL s.data.toList hne hs hl)
  simp only [List.cons_append, List.nil_append] at hlm
  obtain ⟨⟨k0, p0⟩, l0, rfl, e0, hl0⟩ := List.map_eq_cons_iff.1 hlm
  have e0 : k0 = _ := e0
  subst e0
  obtain ⟨⟨k1, p1⟩, l1, rfl, e1, hl1⟩ := List.map_eq_cons_iff.1 hl0
  have e1 : k1 = _ := e1
  subst e1
  obtain ⟨⟨k2, p2⟩, l2, rfl, e2, hl2⟩ := List.map_eq_cons_iff.1 hl1
  have e2 : k2 = _ := e2
  subst e2
  obtain ⟨⟨k3, p3⟩, l3, rfl, e3, hl3⟩ := List.map_eq_cons_iff.1 hl2
  have e3 : k3 = _ := e3
  subst e3
  obtain ⟨⟨k4, p4⟩, l4, rfl, e4, hl4⟩ := List.map_eq_cons_iff.1 hl3
  have e4 : k4 = _ := e4
  subst e4
  obtain ⟨⟨k5, p5⟩, l5, rfl, e5, hl5⟩ := List.map_eq_cons_iff.1 hl4
  have e5 : k5 = _ := e5
  subst e5
  obtain ⟨⟨k6, p6⟩, l6, rfl, e6, hl6⟩ := List.map_eq_cons_iff.1 hl5
  have e6 : k6 = _ := e6
  subst e6
  obtain ⟨⟨k7, p7⟩, l7, rfl, e7, hl7⟩ := List.map_eq_cons_iff.1 hl6
  have e7 : k7 = _ := e7
  subst e7
  obtain ⟨⟨k8, p8⟩, l8, rfl, e8, hl8⟩ := List.map_eq_cons_iff.1 hl7
  have e8 : k8 = _ := e8
  subst e8
  have hln := List.map_eq_nil_iff.1 hl8
  subst hln
  constructor
  · intro h
    obtain ⟨x, hx⟩ := select_y h
    exact ⟨x, _, _, stmT_ok hr hx⟩
  · intro h
    exact ⟨_, stmT_bad hr (select_n h)⟩
theorem update_law (s : ByteArray) (hne : s.data.toList ≠ []) (hs : ∀ c ∈ s.data.toList, smallB c = true) (hl : s.data.toList.length ≤ 32) : (nameB s.data.toList = true → ∃ x l d, stmT (⟨#[85, 80, 68, 65, 84, 69, 32, 116, 32, 83, 69, 84, 32]⟩ ++ s ++ ⟨#[32, 61, 32, 49]⟩ : ByteArray) = (x, .ok l d) ∧ x.columns = [s]) ∧ (nameB s.data.toList = false → ∃ a, (stmT (⟨#[85, 80, 68, 65, 84, 69, 32, 116, 32, 83, 69, 84, 32]⟩ ++ s ++ ⟨#[32, 61, 32, 49]⟩ : ByteArray)).2 = .bad 180 a) := by
  have hd : (⟨#[85, 80, 68, 65, 84, 69, 32, 116, 32, 83, 69, 84, 32]⟩ ++ s ++ ⟨#[32, 61, 32, 49]⟩ : ByteArray).data.toList = [85, 80, 68, 65, 84, 69, 32, 116, 32, 83, 69, 84, 32] ++ s.data.toList ++ [32, 61, 32, 49] := by simp only [ByteArray.data_append, Array.toList_append]
  have hz : (⟨#[85, 80, 68, 65, 84, 69, 32, 116, 32, 83, 69, 84, 32]⟩ ++ s ++ ⟨#[32, 61, 32, 49]⟩ : ByteArray).size ≤ 4096 := by
    have h1 : (⟨#[85, 80, 68, 65, 84, 69, 32, 116, 32, 83, 69, 84, 32]⟩ ++ s ++ ⟨#[32, 61, 32, 49]⟩ : ByteArray).size = (⟨#[85, 80, 68, 65, 84, 69, 32, 116, 32, 83, 69, 84, 32]⟩ ++ s ++ ⟨#[32, 61, 32, 49]⟩ : ByteArray).data.toList.length := by rw [Array.length_toList]; rfl
    rw [h1, hd]
    simp only [List.length_append, List.length_cons, List.length_nil]
    omega
  obtain ⟨l, hr, hlm⟩ := readS_of hz (by rw [hd]; exact updateL s.data.toList hne hs hl)
  simp only [List.cons_append, List.nil_append] at hlm
  obtain ⟨⟨k0, p0⟩, l0, rfl, e0, hl0⟩ := List.map_eq_cons_iff.1 hlm
  have e0 : k0 = _ := e0
  subst e0
  obtain ⟨⟨k1, p1⟩, l1, rfl, e1, hl1⟩ := List.map_eq_cons_iff.1 hl0
  have e1 : k1 = _ := e1
  subst e1
  obtain ⟨⟨k2, p2⟩, l2, rfl, e2, hl2⟩ := List.map_eq_cons_iff.1 hl1
  have e2 : k2 = _ := e2
  subst e2
  obtain ⟨⟨k3, p3⟩, l3, rfl, e3, hl3⟩ := List.map_eq_cons_iff.1 hl2
  have e3 : k3 = _ := e3
  subst e3
  obtain ⟨⟨k4, p4⟩, l4, rfl, e4, hl4⟩ := List.map_eq_cons_iff.1 hl3
  have e4 : k4 = _ := e4
  subst e4
  obtain ⟨⟨k5, p5⟩, l5, rfl, e5, hl5⟩ := List.map_eq_cons_iff.1 hl4
  have e5 : k5 = _ := e5
  subst e5
  obtain ⟨⟨k6, p6⟩, l6, rfl, e6, hl6⟩ := List.map_eq_cons_iff.1 hl5
  have e6 : k6 = _ := e6
  subst e6
  have hln := List.map_eq_nil_iff.1 hl6
  subst hln
  constructor
  · intro h
    obtain ⟨x, hx, hc⟩ := update_y h
    exact ⟨x, _, _, stmT_ok hr hx, by rw [hc, txt_data]⟩
  · intro h
    exact ⟨_, stmT_bad hr (update_n h)⟩
end Go.Proofs.Ytaogpifcfmjcbaa
end
section
namespace Go.Proofs.Ytaogpifcfmjcbaa
open Go.RowKit
set_option linter.unusedSimpArgs false
set_option linter.unusedVariables false
attribute [local go_sem] Rg.leads_value Rg.leads_skip Rg.leads_enter Rg.brings_value Rg.brings_skip Rg.brings_enter Rg.bringsG_value Rg.bringsG_enter Rg.once_normal Rg.once_exit Rg.once_ret Rg.once_panic Rg.once_goto Rg.bringsS_value Rg.bringsS_skip Rg.bringsS_enter Rg.still_value Rg.still_skip Rg.still_enter
open Lx in
set_option maxHeartbeats 16000000 in
set_option maxRecDepth 100000 in
theorem words_walk (s : ByteArray) (hs : s.size ≤ 140737488355328) (w : World) (m : Int) (hm : w.cell? ⟨0, 0, none⟩ = some (.int .i64 m)) : Calls Try.prog 3 #[.string s] w (Yes w) := by
  have HY : Hid (∀ e w', e = .returned (.bool true) ∧ Gr w w' → Yes w e w') := hid (fun e w' h => h)
  generalize Yes w = Q at *
  have HM := hid hm
  have HA := hid (awake_any w m hm)
  clear hm
  go_enter Try.func3, Try.ntmps3
  go_wp2_with fail
  go_loopw [3] (fun s3 wr => wr = w ∧ ∃ k : Nat, s3 = .int .i64 (k : Int) ∧ k ≤ s.size ∧ ∀ j (h : j < s.size), j < k → smallB (s[j]'h) = true) (fun s3 _ => s.size - (intOf s3).toNat)
  · exact ⟨rfl, 0, rfl, Nat.zero_le _, fun j h h0 => absurd h0 (Nat.not_lt_zero _)⟩
  · obtain ⟨hwr, k, rfl, hk, hall⟩ := hrel
    subst hwr
    by_cases hkn : k < s.size
    · have t0 : decide ((k : Int) < (s.size : Int)) = true := lt_dec _ _ hkn
      have hwk : wrap64 ((k : Int) + 1) = (k : Int) + 1 := by unfold wrap64; omega
      have hms := hid (meas_step _ k hkn)
      have hni := hid (next_int k)
      have HALL := hid hall
      clear hall hk
      cases hb : smallB (s[k]'hkn) with
      | true =>
        have hb2 := hb
        unfold smallB at hb2
        simp only [Bool.and_eq_true, decide_eq_true_eq] at hb2
        have t1 : decide (((s[k]'hkn).toNat : Int) < 97) = false := by rw [decide_eq_false_iff_not]; omega
        have t2 : decide (122 < ((s[k]'hkn).toNat : Int)) = false := by rw [decide_eq_false_iff_not]; omega
        have HN : Hid (∀ j (h : j < s.size), j < k + 1 → smallB (s[j]'h) = true) := hid (fun j h hj => by
          by_cases e : j = k
          · subst e; exact hb
          · exact HALL.out j h (by omega))
        clear hb hb2
        go_wp2_with fail
        exact ⟨⟨trivial, k + 1, hni.out, hkn, HN.out⟩, hms.out⟩
      | false =>
        have hb2 := hb
        unfold smallB at hb2
        simp only [Bool.and_eq_false_iff, decide_eq_false_iff_not] at hb2
        clear hms hni HALL hwk HM
        by_cases h97 : (s[k]'hkn).toNat < 97
        · have t1 : decide (((s[k]'hkn).toNat : Int) < 97) = true := by rw [decide_eq_true_iff]; omega
          clear hb hb2 h97
          go_wp2_with fail
          refine HA.out.mono ?_
          rintro e w1 ⟨rfl, hg⟩
          have HQ := hid (HY.out _ _ ⟨rfl, hg⟩)
          clear hg HA HY
          go_wp2
          first | exact HQ.out | (go_ret; exact HQ.out) | (go_ret3; exact HQ.out)
        · have t1 : decide (((s[k]'hkn).toNat : Int) < 97) = false := by rw [decide_eq_false_iff_not]; omega
          have t2 : decide (122 < ((s[k]'hkn).toNat : Int)) = true := by rw [decide_eq_true_iff]; omega
          clear hb hb2 h97
          go_wp2_with fail
          refine HA.out.mono ?_
          rintro e w1 ⟨rfl, hg⟩
          have HQ := hid (HY.out _ _ ⟨rfl, hg⟩)
          clear hg HA HY
          go_wp2
          first | exact HQ.out | (go_ret; exact HQ.out) | (go_ret3; exact HQ.out)
    · have t0 : decide ((k : Int) < (s.size : Int)) = false := nlt_dec _ _ hkn
      obtain rfl : k = s.size := by omega
      have hsl : s.data.toList.length = s.size := by rw [Array.length_toList]; rfl
      have hsm : ∀ c ∈ s.data.toList, smallB c = true := fun c hc => by
        obtain ⟨j, hj, rfl⟩ := List.getElem_of_mem hc
        have := hall j (by omega) (by omega)
        rw [Array.getElem_toList]
        exact this
      have HSM := hid hsm
      have HSL := hid hsl
      clear hall hsm hsl hk
      by_cases h1 : s.size < 1
      · have t1 : decide ((s.size : Int) < 1) = true := by rw [decide_eq_true_iff]; omega
        have t1' : s.size = 0 := by omega
        clear h1 HSM HSL HM
        go_wp2_with fail
        refine HA.out.mono ?_
        rintro e w1 ⟨rfl, hg⟩
        have HQ := hid (HY.out _ _ ⟨rfl, hg⟩)
        clear hg HA HY
        go_wp2
        first | exact HQ.out | (go_ret; exact HQ.out) | (go_ret3; exact HQ.out)
      · have t1 : decide ((s.size : Int) < 1) = false := by rw [decide_eq_false_iff_not]; omega
        have t1' : ¬ (s.size = 0) := by omega
        by_cases h2 : 32 < s.size
        · have t2 : decide (32 < (s.size : Int)) = true := by rw [decide_eq_true_iff]; omega
          clear h1 HSM HSL HM
          go_wp2_with fail
          refine HA.out.mono ?_
          rintro e w1 ⟨rfl, hg⟩
          have HQ := hid (HY.out _ _ ⟨rfl, hg⟩)
          clear hg HA HY
          go_wp2
          first | exact HQ.out | (go_ret; exact HQ.out) | (go_ret3; exact HQ.out)
        · have t2 : decide (32 < (s.size : Int)) = false := by rw [decide_eq_false_iff_not]; omega
          have hne : s.data.toList ≠ [] := fun e => by have := HSL.out; rw [e] at this; simp at this; omega
          have hl32 : s.data.toList.length ≤ 32 := by have := HSL.out; omega
          have L1 := hid (drop_law s hne HSM.out hl32)
          have L2 := hid (create_law s hne HSM.out hl32)
          have L3 := hid (save_law s hne HSM.out hl32)
          have L4 := hid (select_law s hne HSM.out hl32)
          have L5 := hid (update_law s hne HSM.out hl32)
          have S1 : Hid (∀ W, Gr wr W → Calls Try.prog 8 #[.string (⟨#[68, 82, 79, 80, 32, 84, 65, 66, 76, 69, 32]⟩ ++ s)] W (StmtP (⟨#[68, 82, 79, 80, 32, 84, 65, 66, 76, 69, 32]⟩ ++ s) W)) := hid (fun W h => pstm_any _ W (by unfold maxLen; rw [ByteArray.size_append]; show 11 + _ ≤ _; omega) m (h.keep HM.out))
          have S2 : Hid (∀ W, Gr wr W → Calls Try.prog 8 #[.string (⟨#[67, 82, 69, 65, 84, 69, 32, 84, 65, 66, 76, 69, 32, 116, 32, 40]⟩ ++ s ++ ⟨#[32, 73, 78, 84, 41]⟩)] W (StmtP (⟨#[67, 82, 69, 65, 84, 69, 32, 84, 65, 66, 76, 69, 32, 116, 32, 40]⟩ ++ s ++ ⟨#[32, 73, 78, 84, 41]⟩) W)) := hid (fun W h => pstm_any _ W (by unfold maxLen; rw [ByteArray.size_append, ByteArray.size_append]; show 16 + _ + 5 ≤ _; omega) m (h.keep HM.out))
          have S3 : Hid (∀ W, Gr wr W → Calls Try.prog 8 #[.string (⟨#[83, 65, 86, 69, 80, 79, 73, 78, 84, 32]⟩ ++ s)] W (StmtP (⟨#[83, 65, 86, 69, 80, 79, 73, 78, 84, 32]⟩ ++ s) W)) := hid (fun W h => pstm_any _ W (by unfold maxLen; rw [ByteArray.size_append]; show 10 + _ ≤ _; omega) m (h.keep HM.out))
          have S4 : Hid (∀ W, Gr wr W → Calls Try.prog 8 #[.string (⟨#[83, 69, 76, 69, 67, 84, 32, 116, 46]⟩ ++ s ++ ⟨#[32, 65, 83, 32, 120, 32, 70, 82, 79, 77, 32, 116]⟩)] W (StmtP (⟨#[83, 69, 76, 69, 67, 84, 32, 116, 46]⟩ ++ s ++ ⟨#[32, 65, 83, 32, 120, 32, 70, 82, 79, 77, 32, 116]⟩) W)) := hid (fun W h => pstm_any _ W (by unfold maxLen; rw [ByteArray.size_append, ByteArray.size_append]; show 9 + _ + 12 ≤ _; omega) m (h.keep HM.out))
          have S5 : Hid (∀ W, Gr wr W → Calls Try.prog 8 #[.string (⟨#[85, 80, 68, 65, 84, 69, 32, 116, 32, 83, 69, 84, 32]⟩ ++ s ++ ⟨#[32, 61, 32, 49]⟩)] W (StmtP (⟨#[85, 80, 68, 65, 84, 69, 32, 116, 32, 83, 69, 84, 32]⟩ ++ s ++ ⟨#[32, 61, 32, 49]⟩) W)) := hid (fun W h => pstm_any _ W (by unfold maxLen; rw [ByteArray.size_append, ByteArray.size_append]; show 13 + _ + 4 ≤ _; omega) m (h.keep HM.out))
          have HAW := hid (fun W (h : Gr wr W) => awake_any W m (h.keep HM.out))
          have b1 : ¬ (9223372036854775807 < 11 + s.size) := by omega
          have b2 : ¬ (9223372036854775807 < 16 + s.size) := by omega
          have b3 : ¬ (9223372036854775807 < 16 + s.size + 5) := by omega
          have b4 : ¬ (9223372036854775807 < 10 + s.size) := by omega
          have b5 : ¬ (9223372036854775807 < 9 + s.size) := by omega
          have b6 : ¬ (9223372036854775807 < 9 + s.size + 12) := by omega
          have b7 : ¬ (9223372036854775807 < 13 + s.size) := by omega
          have b8 : ¬ (9223372036854775807 < 13 + s.size + 4) := by omega
          clear hne hl32 HSM HSL HM HA h1 h2
          cases hb : nameB s.data.toList with
          | true =>
            go_wp2_with fail
            refine (S1.out _ (Gr.refl _)).mono ?_
            rintro e w1 he
            obtain ⟨x1, l1, d1, e1⟩ := L1.out.1 hb
            obtain ⟨hg1, r1, rfl, hat1⟩ := stmtP_ok he e1
            have HAL : Hid ((w1.alloc (.cells zeroS.toArray 35)).heap[w1.heap.size]? = some (.cells zeroS.toArray 35 (0, 0))) := hid (alloc_at _ _)
            have HGw : Hid (Gr wr w1) := hid (hg1)
            clear he e1 L1 S1 hg1 hat1
            unfold SR.val
            go_wp2_with (guard_target =~ wpList _ _ _ (Oper.mk _ (Op.store 35 _ _) _ _ _ _ :: _) _ _; refine st_row (ty := 35) rfl rfl w1.heap.size (SR.cs r1).toArray rfl rfl 35 _ HAL.out (by kernel_rfl) rfl (by kernel_rfl) ?_; intro W1 hW1 gW1 zW1)
            have HG1 : Hid (Gr wr W1) := hid (gr_box HGw.out rfl gW1)
            clear HAL HGw hW1 gW1 zW1
            refine (S2.out _ (HG1.out)).mono ?_
            rintro e w2 he
            obtain ⟨x2, l2, d2, e2⟩ := L2.out.1 hb
            obtain ⟨hg2, r2, rfl, hat2⟩ := stmtP_ok he e2
            have HAL : Hid ((w2.alloc (.cells zeroS.toArray 35)).heap[w2.heap.size]? = some (.cells zeroS.toArray 35 (0, 0))) := hid (alloc_at _ _)
            have HGw : Hid (Gr wr w2) := hid (HG1.out.trans hg2)
            clear he e2 L2 S2 hg2 hat2
            unfold SR.val
            go_wp2_with (guard_target =~ wpList _ _ _ (Oper.mk _ (Op.store 35 _ _) _ _ _ _ :: _) _ _; refine st_row (ty := 35) rfl rfl w2.heap.size (SR.cs r2).toArray rfl rfl 35 _ HAL.out (by kernel_rfl) rfl (by kernel_rfl) ?_; intro W2 hW2 gW2 zW2)
            have HG2 : Hid (Gr wr W2) := hid (gr_box HGw.out rfl gW2)
            clear HAL HGw hW2 gW2 zW2
            refine (S3.out _ (HG2.out)).mono ?_
            rintro e w3 he
            obtain ⟨x3, l3, d3, e3⟩ := L3.out.1 hb
            obtain ⟨hg3, r3, rfl, hat3⟩ := stmtP_ok he e3
            have HAL : Hid ((w3.alloc (.cells zeroS.toArray 35)).heap[w3.heap.size]? = some (.cells zeroS.toArray 35 (0, 0))) := hid (alloc_at _ _)
            have HGw : Hid (Gr wr w3) := hid (HG2.out.trans hg3)
            clear he e3 L3 S3 hg3 hat3
            unfold SR.val
            go_wp2_with (guard_target =~ wpList _ _ _ (Oper.mk _ (Op.store 35 _ _) _ _ _ _ :: _) _ _; refine st_row (ty := 35) rfl rfl w3.heap.size (SR.cs r3).toArray rfl rfl 35 _ HAL.out (by kernel_rfl) rfl (by kernel_rfl) ?_; intro W3 hW3 gW3 zW3)
            have HG3 : Hid (Gr wr W3) := hid (gr_box HGw.out rfl gW3)
            clear HAL HGw hW3 gW3 zW3
            refine (S4.out _ (HG3.out)).mono ?_
            rintro e w4 he
            obtain ⟨x4, l4, d4, e4⟩ := L4.out.1 hb
            obtain ⟨hg4, r4, rfl, hat4⟩ := stmtP_ok he e4
            have HAL : Hid ((w4.alloc (.cells zeroS.toArray 35)).heap[w4.heap.size]? = some (.cells zeroS.toArray 35 (0, 0))) := hid (alloc_at _ _)
            have HGw : Hid (Gr wr w4) := hid (HG3.out.trans hg4)
            clear he e4 L4 S4 hg4 hat4
            unfold SR.val
            go_wp2_with (guard_target =~ wpList _ _ _ (Oper.mk _ (Op.store 35 _ _) _ _ _ _ :: _) _ _; refine st_row (ty := 35) rfl rfl w4.heap.size (SR.cs r4).toArray rfl rfl 35 _ HAL.out (by kernel_rfl) rfl (by kernel_rfl) ?_; intro W4 hW4 gW4 zW4)
            have HG4 : Hid (Gr wr W4) := hid (gr_box HGw.out rfl gW4)
            clear HAL HGw hW4 gW4 zW4
            refine (S5.out _ (HG4.out)).mono ?_
            rintro e w5 he
            obtain ⟨x5, l5, d5, e5, hcol⟩ := L5.out.1 hb
            obtain ⟨hg5, r5, rfl, hat5⟩ := stmtP_ok he e5
            have HAL : Hid ((w5.alloc (.cells zeroS.toArray 35)).heap[w5.heap.size]? = some (.cells zeroS.toArray 35 (0, 0))) := hid (alloc_at _ _)
            have HGw : Hid (Gr wr w5) := hid (HG4.out.trans hg5)
            have hck : ∃ g o cap, r5.columns = ⟨some ⟨g, o, none⟩, 1, cap⟩ ∧ w5.cell? ⟨g, o, none⟩ = some (.string s) := by
              have hl : 0 < x5.columns.length := by rw [hcol]; exact Nat.one_pos
              obtain ⟨g, o, rk, hoa, _, _, _, hat, hrk⟩ := ks_getK (K := kStr) hat5.columns 0 hl
              have hrs : rk = s := by
                have h1 : rk = x5.columns[0]'hl := hat
                rw [h1]; simp [hcol]
              have hn : r5.columns.n = 1 := by rw [hat5.columns.1, hcol]; rfl
              have h := hrk 0 (.string rk) rfl
              have e : o + 0 * kStr.n + 0 = o := by omega
              rw [e, hrs] at h
              exact ⟨g, o, r5.columns.cap, by rw [← hoa, ← hn], h⟩
            obtain ⟨cg, co, ccap, hcs, hcc⟩ := hck
            have HCC : Hid (∀ W, W.heap[w5.heap.size]? = some (.cells (SR.cs r5).toArray 35 (0, 0)) → Gr w5 W → W.cell? ⟨w5.heap.size, 6, none⟩ = some (.slice (some ⟨cg, co, none⟩) 1 ccap) ∧ W.cell? ⟨cg, co, none⟩ = some (.string s)) := hid (fun W h hg => ⟨by rw [Rg.blk_cells h]; show some r5.columns.val = _; rw [hcs]; rfl, hg.keep hcc⟩)
            clear hcs hcc hcol
            clear he e5 L5 S5 hg5 hat5
            unfold SR.val
            go_wp2_with (guard_target =~ wpList _ _ _ (Oper.mk _ (Op.store 35 _ _) _ _ _ _ :: _) _ _; refine st_row (ty := 35) rfl rfl w5.heap.size (SR.cs r5).toArray rfl rfl 35 _ HAL.out (by kernel_rfl) rfl (by kernel_rfl) ?_; intro W5 hW5 gW5 zW5; have HG5 : Hid (Gr wr W5) := hid (gr_box HGw.out rfl gW5); obtain ⟨q1, q2⟩ := HCC.out W5 hW5 (gr_box1 gW5); clear HCC; clear HAL HGw hW5 gW5 zW5)
            refine (HAW.out W5 HG5.out).mono ?_
            rintro e w6 ⟨rfl, hg6⟩
            have HQ := hid (HY.out _ _ ⟨rfl, HG5.out.trans hg6⟩)
            clear hg6 HAW HG5 HY q1 q2
            go_wp2
            first | exact HQ.out | (go_ret; exact HQ.out) | (go_ret3; exact HQ.out)
          | false =>
            go_wp2_with fail
            refine (S1.out _ (Gr.refl _)).mono ?_
            rintro e w1 he
            obtain ⟨a1, e1⟩ := L1.out.2 hb
            obtain ⟨hg1, _, rfl⟩ := stmtP_bad he e1
            have HAL : Hid ((w1.alloc (.cells zeroS.toArray 35)).heap[w1.heap.size]? = some (.cells zeroS.toArray 35 (0, 0))) := hid (alloc_at _ _)
            have HGw : Hid (Gr wr w1) := hid (hg1)
            clear he e1 L1 S1 hg1
            unfold noS
            go_wp2_with (guard_target =~ wpList _ _ _ (Oper.mk _ (Op.store 35 _ _) _ _ _ _ :: _) _ _; refine st_row (ty := 35) rfl rfl w1.heap.size (zeroS).toArray rfl rfl 35 _ HAL.out (by kernel_rfl) rfl (by kernel_rfl) ?_; intro W1 hW1 gW1 zW1)
            have HG1 : Hid (Gr wr W1) := hid (gr_box HGw.out rfl gW1)
            clear HAL HGw hW1 gW1 zW1
            refine (S2.out _ (HG1.out)).mono ?_
            rintro e w2 he
            obtain ⟨a2, e2⟩ := L2.out.2 hb
            obtain ⟨hg2, _, rfl⟩ := stmtP_bad he e2
            have HAL : Hid ((w2.alloc (.cells zeroS.toArray 35)).heap[w2.heap.size]? = some (.cells zeroS.toArray 35 (0, 0))) := hid (alloc_at _ _)
            have HGw : Hid (Gr wr w2) := hid (HG1.out.trans hg2)
            clear he e2 L2 S2 hg2
            unfold noS
            go_wp2_with (guard_target =~ wpList _ _ _ (Oper.mk _ (Op.store 35 _ _) _ _ _ _ :: _) _ _; refine st_row (ty := 35) rfl rfl w2.heap.size (zeroS).toArray rfl rfl 35 _ HAL.out (by kernel_rfl) rfl (by kernel_rfl) ?_; intro W2 hW2 gW2 zW2)
            have HG2 : Hid (Gr wr W2) := hid (gr_box HGw.out rfl gW2)
            clear HAL HGw hW2 gW2 zW2
            refine (S3.out _ (HG2.out)).mono ?_
            rintro e w3 he
            obtain ⟨a3, e3⟩ := L3.out.2 hb
            obtain ⟨hg3, _, rfl⟩ := stmtP_bad he e3
            have HAL : Hid ((w3.alloc (.cells zeroS.toArray 35)).heap[w3.heap.size]? = some (.cells zeroS.toArray 35 (0, 0))) := hid (alloc_at _ _)
            have HGw : Hid (Gr wr w3) := hid (HG2.out.trans hg3)
            clear he e3 L3 S3 hg3
            unfold noS
            go_wp2_with (guard_target =~ wpList _ _ _ (Oper.mk _ (Op.store 35 _ _) _ _ _ _ :: _) _ _; refine st_row (ty := 35) rfl rfl w3.heap.size (zeroS).toArray rfl rfl 35 _ HAL.out (by kernel_rfl) rfl (by kernel_rfl) ?_; intro W3 hW3 gW3 zW3)
            have HG3 : Hid (Gr wr W3) := hid (gr_box HGw.out rfl gW3)
            clear HAL HGw hW3 gW3 zW3
            refine (S4.out _ (HG3.out)).mono ?_
            rintro e w4 he
            obtain ⟨a4, e4⟩ := L4.out.2 hb
            obtain ⟨hg4, _, rfl⟩ := stmtP_bad he e4
            have HAL : Hid ((w4.alloc (.cells zeroS.toArray 35)).heap[w4.heap.size]? = some (.cells zeroS.toArray 35 (0, 0))) := hid (alloc_at _ _)
            have HGw : Hid (Gr wr w4) := hid (HG3.out.trans hg4)
            clear he e4 L4 S4 hg4
            unfold noS
            go_wp2_with (guard_target =~ wpList _ _ _ (Oper.mk _ (Op.store 35 _ _) _ _ _ _ :: _) _ _; refine st_row (ty := 35) rfl rfl w4.heap.size (zeroS).toArray rfl rfl 35 _ HAL.out (by kernel_rfl) rfl (by kernel_rfl) ?_; intro W4 hW4 gW4 zW4)
            have HG4 : Hid (Gr wr W4) := hid (gr_box HGw.out rfl gW4)
            clear HAL HGw hW4 gW4 zW4
            refine (S5.out _ (HG4.out)).mono ?_
            rintro e w5 he
            obtain ⟨a5, e5⟩ := L5.out.2 hb
            obtain ⟨hg5, _, rfl⟩ := stmtP_bad he e5
            have HAL : Hid ((w5.alloc (.cells zeroS.toArray 35)).heap[w5.heap.size]? = some (.cells zeroS.toArray 35 (0, 0))) := hid (alloc_at _ _)
            have HGw : Hid (Gr wr w5) := hid (HG4.out.trans hg5)
            clear he e5 L5 S5 hg5
            unfold noS
            go_wp2_with (guard_target =~ wpList _ _ _ (Oper.mk _ (Op.store 35 _ _) _ _ _ _ :: _) _ _; refine st_row (ty := 35) rfl rfl w5.heap.size (zeroS).toArray rfl rfl 35 _ HAL.out (by kernel_rfl) rfl (by kernel_rfl) ?_; intro W5 hW5 gW5 zW5; have HG5 : Hid (Gr wr W5) := hid (gr_box HGw.out rfl gW5); clear HAL HGw hW5 gW5 zW5)
            refine (HAW.out W5 HG5.out).mono ?_
            rintro e w6 ⟨rfl, hg6⟩
            have HQ := hid (HY.out _ _ ⟨rfl, HG5.out.trans hg6⟩)
            clear hg6 HAW HG5 HY
            go_wp2
            first | exact HQ.out | (go_ret; exact HQ.out) | (go_ret3; exact HQ.out)
end Go.Proofs.Ytaogpifcfmjcbaa
end

/- Texts of this claim, put together: walks of functions and plain laws, of no condition. -/
import Derived.Test.YtaogpifcfmjcbaaCc3
import Derived.Deep.Upon
section
namespace Go.Proofs.Ytaogpifcfmjcbaa
open Go.RowKit
set_option linter.unusedSimpArgs false
set_option linter.unusedVariables false
attribute [local go_sem] Rg.leads_value Rg.leads_skip Rg.leads_enter Rg.brings_value Rg.brings_skip Rg.brings_enter Rg.bringsG_value Rg.bringsG_enter Rg.once_normal Rg.once_exit Rg.once_ret Rg.once_panic Rg.once_goto Rg.bringsS_value Rg.bringsS_skip Rg.bringsS_enter Rg.still_value Rg.still_skip Rg.still_enter
def zX : XR := ⟨{ op := 0 }, none, 0, 0⟩
def rfC (t a : ByteArray) : List Value := rF ⟨t, a, zX⟩
def RfV (t a : ByteArray) : Value := .agg (rfC t a).toArray
structure RB (p : Nat) (w : World) (R0 X : Nat) (t a : ByteArray) (wl : World) : Prop where
  hp : p < w.heap.size
  hR : R0 = w.heap.size
  hX : R0 < X
  z : wl.heap[R0]? = some (.cells (rfC ⟨#[]⟩ ⟨#[]⟩).toArray 81 (0, 0))
  x : wl.heap[X]? = some (.cells (rfC t a).toArray 81 (0, 0))
  g : Go1 p w wl
section
variable {p : Nat} {w : World} {R0 X : Nat} {t a : ByteArray} {wl w' : World}
theorem RB.lt (h : RB p w R0 X t a wl) : X < wl.heap.size := (Array.getElem?_eq_some_iff.1 h.x).1
theorem RB.go (h : RB p w R0 X t a wl) (hg : Go1 p wl w') : RB p w R0 X t a w' :=
  have hE := h.lt
  have h1 := h.hX
  have h0 := h.hR
  have hp := h.hp
  ⟨h.hp, h.hR, h.hX, by rw [hg.get (by omega) (by omega)]; exact h.z, by rw [hg.get hE (by omega)]; exact h.x, h.g.trans hg⟩
theorem RB.gr (h : RB p w R0 X t a wl) (hg : Gr wl w') : RB p w R0 X t a w' := h.go (.of hg)
theorem RB.alias (h : RB p w R0 X t a wl) (b : ByteArray) : RB p w R0 X t b (wl.setCell ⟨X, 1, none⟩ (.string b)) :=
  have h1 := h.hX
  have h0 := h.hR
  ⟨h.hp, h.hR, h.hX, by rw [Below.heap_setCell _ _ _ _ (by simp; omega)]; exact h.z, cells_set (l := rfC t a) 1 (.string b) h.x, h.g.own (Go1.set X 1 wl _) (by omega)⟩
theorem RB.fin (h : RB p w R0 X t a wl) {s : Ps} (hps : PS p wl s) (hg : Go1 R0 wl w') : PS p w' s ∧ Go1 p w w' :=
  have h0 := h.hR
  ⟨hps.go hg (by have := h.hp; omega), h.g.own hg (by omega)⟩
end
set_option maxHeartbeats 8000000 in
set_option maxRecDepth 100000 in
theorem ref_any (p : Nat) (s : Ps) (w : World) (hS : PS p w s) : Calls Try.prog 60 #[.pointer (some ⟨p, 0, none⟩)] w (Pm p w (RfV (refS s).1.tab (refS s).1.al) (refS s).2) := by
  have hpw := hS.lt
  have hG := fun o => (Gr.refl w).alloc o
  have hS0 := fun o => hS.keep (hG o)
  obtain ⟨R, hR⟩ : ∃ R, refS s = R := ⟨_, rfl⟩
  rw [hR]
  have HR : Hid ((if s.name.2.is 1 ⟨#[97, 115]⟩ then (⟨s.name.1, s.name.2.step.name.1, noEx⟩, s.name.2.step.name.2) else if s.name.2.isName then (⟨s.name.1, s.name.2.name.1, noEx⟩, s.name.2.name.2) else (⟨s.name.1, s.name.1, noEx⟩, s.name.2)) = R) := hid hR
  clear hR
  go_enter Try.func60, Try.ntmps60
  go_wp2_with fail
  refine (pname_any p s _ (hS0 _)).mono ?_
  rintro e w1 ⟨rfl, hps1, hg1⟩
  have z1 := hg1.size
  simp only [World.size_alloc] at z1
  have h01 : w1.heap[w.heap.size]? = some (.cells (rfC ⟨#[]⟩ ⟨#[]⟩).toArray 81 (0, 0)) := by
    rw [hg1.get (by simp) (by omega)]; exact alloc_at _ _
  have hgo1 : Go1 p w w1 := (Go1.of (hG _)).trans hg1
  obtain ⟨n, hn⟩ : ∃ n, s.name.1 = n := ⟨_, rfl⟩
  obtain ⟨s1, hs1⟩ : ∃ s1, s.name.2 = s1 := ⟨_, rfl⟩
  rw [hn, hs1] at HR
  rw [hn]
  rw [hs1] at hps1
  have hA1 := (Gr.refl w1).alloc (.cells (rfC ⟨#[]⟩ ⟨#[]⟩).toArray 81)
  have H1 : Hid (∀ W5, W5.heap[w1.heap.size]? = some (.cells (rfC n ⟨#[]⟩).toArray 81 (0, 0)) → Go1 w1.heap.size (w1.alloc (.cells (rfC ⟨#[]⟩ ⟨#[]⟩).toArray 81)) W5 → RB p w w.heap.size w1.heap.size n ⟨#[]⟩ W5 ∧ PS p W5 s1) := hid (fun W5 hx h5 => by
    have h2 := hgo1.block2 hA1
    exact ⟨⟨hpw, rfl, by omega, by rw [h5.get (by simp; omega) (by omega), hA1.block _ (by omega)]; exact h01, hx, h2.own h5 (by omega)⟩, (hps1.keep hA1).go h5 (by omega)⟩)
  have HA : Hid ((w1.alloc (.cells (rfC ⟨#[]⟩ ⟨#[]⟩).toArray 81)).heap[w1.heap.size]? = some (.cells (rfC ⟨#[]⟩ ⟨#[]⟩).toArray 81 (0, 0))) := hid (alloc_at _ _)
  have hX0 : w.heap.size < w1.heap.size := by omega
  have hpX : p < w1.heap.size := by omega
  clear hps1 hg1 hgo1 h01 hA1 hS0 hG hS z1 hn hs1
  go_wp2_with (guard_target =~ wpList _ _ _ (Oper.mk _ (Op.store 81 _ _) _ _ _ _ :: _) _ _; refine st_row (ty := 81) rfl rfl w1.heap.size _ rfl rfl 81 _ (HA.out) (by kernel_rfl) rfl (by kernel_rfl) ?_; intro W5 hW5 gW5 zW5; have HQ := hid (H1.out W5 hW5 gW5); clear hW5 gW5 zW5 H1 HA; generalize w1.heap.size = X at *; obtain ⟨hrb, hps⟩ := HQ.out; clear HQ; have hc : ∀ i, W5.cell? ⟨X, i, none⟩ = (rfC n ⟨#[]⟩).toArray[i]? := Rg.blk_cells hrb.x; have k0 : W5.cell? ⟨X, 0, none⟩ = some (.string n) := hc 0; have k1 : W5.cell? ⟨X, 1, none⟩ = some (.string ⟨#[]⟩) := hc 1; have hf := Rg.blk_free hrb.x; have hrb2 := hid (hrb.alias n); have hps2 : Hid (∀ u, PS p (W5.setCell ⟨X, 1, none⟩ u) s1) := hid (fun u => hps.go (Go1.set X 1 W5 u) (by omega)); clear hc hrb hps)
  obtain ⟨W6, hW6⟩ : ∃ W6, W5.setCell ⟨X, 1, none⟩ (.string n) = W6 := ⟨_, rfl⟩
  have hps6 : PS p W6 s1 := by rw [← hW6]; exact hps2.out _
  have hrb6 : RB p w w.heap.size X n n W6 := by rw [← hW6]; exact hrb2.out
  rw [hW6]
  clear hrb2 hps2 k0 k1 hf hW6
  refine (word_any p ⟨#[97, 115]⟩ s1 _ hps6).mono ?_
  rintro e w7 ⟨rfl, hps7, hg7⟩
  have hrb7 := hrb6.go hg7
  clear hps6 hrb6 hg7
  cases hB : s1.is 1 ⟨#[97, 115]⟩ with
  | true =>
    rw [may_y hB] at hps7
    rw [if_pos hB] at HR
    clear hB
    go_wp2_with fail
    refine (pname_any p s1.step _ hps7).mono ?_
    rintro e w8 ⟨rfl, hps8, hg8⟩
    have hrb8 := hrb7.go hg8
    obtain ⟨a, ha⟩ : ∃ a, s1.step.name.1 = a := ⟨_, rfl⟩
    obtain ⟨s3, hs3⟩ : ∃ s3, s1.step.name.2 = s3 := ⟨_, rfl⟩
    rw [ha, hs3] at HR
    rw [ha]
    rw [hs3] at hps8
    have hc8 : ∀ i, w8.cell? ⟨X, i, none⟩ = (rfC n n).toArray[i]? := Rg.blk_cells hrb8.x
    have k1 : w8.cell? ⟨X, 1, none⟩ = some (.string n) := hc8 1
    have hf8 := Rg.blk_free hrb8.x
    have hrb9 := hrb8.alias a
    have hps9 : PS p (w8.setCell ⟨X, 1, none⟩ (.string a)) s3 := hps8.go (Go1.set X 1 w8 _) (by omega)
    have HX := hid hrb9.x
    have HZ := hid hrb9.z
    have FI := hid (fun W9 h9 => hrb9.fin (w' := W9) hps9 h9)
    clear hrb7 hrb8 hrb9 hps8 hps9 hg8 ha hs3 hc8
    go_wp2_with (first | (guard_target =~ wpList _ _ _ (Oper.mk _ (Op.load 81 _) _ _ _ _ :: _) _ _; refine wpList_load_row rfl 81 _ rfl X rfl 81 (rfC n a).toArray (0, 0) _ HX.out Try.underlying81 rfl (by kernel_rfl) ?_) | (guard_target =~ wpList _ _ _ (Oper.mk _ (Op.store 81 _ _) _ _ _ _ :: _) _ _; refine st_row (ty := 81) rfl rfl w.heap.size (rfC n a).toArray rfl rfl 81 _ (HZ.out) (by kernel_rfl) rfl (by kernel_rfl) ?_; intro W9 hW9 gW9 zW9))
    (try change bodyPost _ _ _ _ _ _)
    refine bodyPost_ret (v := RfV n a) (results_cell_row (g := w.heap.size) rfl _ _ _ _ _ _ rfl hW9 Try.underlying81 rfl (by kernel_rfl)) rfl ?_
    rw [← HR.out]
    exact ⟨rfl, (FI.out W9 gW9).1, (FI.out W9 gW9).2⟩
  | false =>
    rw [may_n hB] at hps7
    rw [if_neg (by rw [hB]; decide)] at HR
    clear hB
    match hs : s1, hps7 with
    | .bad e0 a0, hps7 =>
      have hps7' := hps7
      obtain ⟨he, l, d, hpr⟩ := hps7
      obtain ⟨oa, cap, hh, hc, hat, hne⟩ := hpr.ex
      have r2 := Rg.blk_cells hh 2
      simp only [List.getElem?_toArray, List.getElem?_cons_zero, List.getElem?_cons_succ] at r2
      have q1 : (e0 == 0) = false := by simpa using he
      have HR' : Hid ((⟨n, n, noEx⟩, .bad e0 a0) = R) := hid (by rw [← HR.out]; rfl)
      clear HR
      have HR := HR'
      clear HR'
      clear hpr hat hne hh hc he
      have HX := hid hrb7.x
      have HZ := hid hrb7.z
      have FI := hid (fun W9 h9 => hrb7.fin (w' := W9) hps7' h9)
      clear hrb7 hps7'
      go_wp2_with (first | (guard_target =~ wpList _ _ _ (Oper.mk _ (Op.load 81 _) _ _ _ _ :: _) _ _; refine wpList_load_row rfl 81 _ rfl X rfl 81 (rfC n n).toArray (0, 0) _ HX.out Try.underlying81 rfl (by kernel_rfl) ?_) | (guard_target =~ wpList _ _ _ (Oper.mk _ (Op.store 81 _ _) _ _ _ _ :: _) _ _; refine st_row (ty := 81) rfl rfl w.heap.size (rfC n n).toArray rfl rfl 81 _ (HZ.out) (by kernel_rfl) rfl (by kernel_rfl) ?_; intro W9 hW9 gW9 zW9))
      (try change bodyPost _ _ _ _ _ _)
      refine bodyPost_ret (v := RfV n n) (results_cell_row (g := w.heap.size) rfl _ _ _ _ _ _ rfl hW9 Try.underlying81 rfl (by kernel_rfl)) rfl ?_
      rw [← HR.out]
      exact ⟨rfl, (FI.out W9 gW9).1, (FI.out W9 gW9).2⟩
    | .ok [] d, hps7 => exact hps7.2.nil.elim
    | .ok (t :: tr) d, hps7 =>
      have hps7' := hps7
      obtain ⟨hd, hpr⟩ := hps7
      obtain ⟨oa, cap, hh, hc, hat, hne⟩ := hpr.ex
      obtain ⟨m, hm⟩ := hpr.gl
      have hsz : (txt t.tk.text).size ≤ 140737488355328 := by rw [txt_size]; have := hpr.tok.text t (by simp); omega
      have r0 := Rg.blk_cells hh 0
      have r2 := Rg.blk_cells hh 2
      simp only [List.getElem?_toArray, List.getElem?_cons_zero, List.getElem?_cons_succ] at r0 r2
      obtain ⟨b, off, hoa, hb, c0, c1, c2, c3⟩ := t_get hat 0 (by simp)
      simp only [List.getElem_cons_zero, Nat.zero_mul, Nat.add_zero] at c0 c1 c2 c3
      subst hoa
      obtain ⟨nn, hn⟩ : ∃ nn, (t :: tr).length = nn := ⟨_, rfl⟩
      have hn1 : 1 ≤ nn := by rw [← hn]; simp
      rw [hn] at r0 hc
      have g2 : (0 : Int) < (nn : Int) := by omega
      have H1 := name_any (txt t.tk.text) m w7 hsz hm
      rw [txt_list] at H1
      clear hat hne hh hn hpr hsz hd
      by_cases hk : t.tk.kind = 1
      · have q1 : ((t.tk.kind : Int) == 1) = true := by rw [hk]; rfl
        cases hB : nameB t.tk.text with
        | false =>
          have hin : Ps.isName (.ok (t :: tr) d) = false := by simp [Ps.isName, Ps.headK, Ps.headT, hk, hB]
          have HR' : Hid ((⟨n, n, noEx⟩, .ok (t :: tr) d) = R) := hid (by rw [← HR.out, hin]; rfl)
          clear HR
          have HR := HR'
          clear HR' hin
          rw [hB] at H1
          clear hB hk
          generalize t.tk.kind = tk at *
          generalize txt t.tk.text = tx at *
          go_wp2_with fail
          refine H1.mono ?_
          rintro e w8 ⟨rfl, hg⟩
          have hg8 : Gr w7 w8 := hg
          have hrb8 := hrb7.gr hg8
          have hps8 := PS.keep hps7' hg8
          clear H1 hg hg8 hrb7 hps7' c0 c1 c2 c3 r0 r2
          have HX := hid hrb8.x
          have HZ := hid hrb8.z
          have FI := hid (fun W9 h9 => hrb8.fin (w' := W9) hps8 h9)
          clear hrb8 hps8
          go_wp2_with (first | (guard_target =~ wpList _ _ _ (Oper.mk _ (Op.load 81 _) _ _ _ _ :: _) _ _; refine wpList_load_row rfl 81 _ rfl X rfl 81 (rfC n n).toArray (0, 0) _ HX.out Try.underlying81 rfl (by kernel_rfl) ?_) | (guard_target =~ wpList _ _ _ (Oper.mk _ (Op.store 81 _ _) _ _ _ _ :: _) _ _; refine st_row (ty := 81) rfl rfl w.heap.size (rfC n n).toArray rfl rfl 81 _ (HZ.out) (by kernel_rfl) rfl (by kernel_rfl) ?_; intro W9 hW9 gW9 zW9))
          (try change bodyPost _ _ _ _ _ _)
          refine bodyPost_ret (v := RfV n n) (results_cell_row (g := w.heap.size) rfl _ _ _ _ _ _ rfl hW9 Try.underlying81 rfl (by kernel_rfl)) rfl ?_
          rw [← HR.out]
          exact ⟨rfl, (FI.out W9 gW9).1, (FI.out W9 gW9).2⟩
        | true =>
          have hin : Ps.isName (.ok (t :: tr) d) = true := by simp [Ps.isName, Ps.headK, Ps.headT, hk, hB]
          rw [if_pos hin] at HR
          clear hin
          rw [hB] at H1
          clear hB hk
          obtain ⟨sx, hsx⟩ : ∃ sx, Ps.ok (t :: tr) d = sx := ⟨_, rfl⟩
          rw [hsx] at HR hps7'
          generalize t.tk.kind = tk at *
          generalize txt t.tk.text = tx at *
          clear hsx
          go_wp2_with fail
          refine H1.mono ?_
          rintro e w7b ⟨rfl, hg⟩
          have hg8 : Gr w7 w7b := hg
          have hrb7b := hrb7.gr hg8
          have hps7b := hps7'.keep hg8
          clear H1 hg hg8 hrb7 hps7' c0 c1 c2 c3 r0 r2
          have hrb7 := hrb7b
          clear hrb7b
          go_wp2_with fail
          refine (pname_any p sx _ hps7b).mono ?_
          rintro e w8 ⟨rfl, hps8, hg8⟩
          have hrb8 := hrb7.go hg8
          obtain ⟨a, ha⟩ : ∃ a, sx.name.1 = a := ⟨_, rfl⟩
          obtain ⟨s3, hs3⟩ : ∃ s3, sx.name.2 = s3 := ⟨_, rfl⟩
          rw [ha, hs3] at HR
          rw [ha]
          rw [hs3] at hps8
          have hc8 : ∀ i, w8.cell? ⟨X, i, none⟩ = (rfC n n).toArray[i]? := Rg.blk_cells hrb8.x
          have k1 : w8.cell? ⟨X, 1, none⟩ = some (.string n) := hc8 1
          have hf8 := Rg.blk_free hrb8.x
          have hrb9 := hrb8.alias a
          have hps9 : PS p (w8.setCell ⟨X, 1, none⟩ (.string a)) s3 := hps8.go (Go1.set X 1 w8 _) (by omega)
          have HX := hid hrb9.x
          have HZ := hid hrb9.z
          have FI := hid (fun W9 h9 => hrb9.fin (w' := W9) hps9 h9)
          clear hrb7 hrb8 hrb9 hps8 hps9 hg8 ha hs3 hc8
          go_wp2_with (first | (guard_target =~ wpList _ _ _ (Oper.mk _ (Op.load 81 _) _ _ _ _ :: _) _ _; refine wpList_load_row rfl 81 _ rfl X rfl 81 (rfC n a).toArray (0, 0) _ HX.out Try.underlying81 rfl (by kernel_rfl) ?_) | (guard_target =~ wpList _ _ _ (Oper.mk _ (Op.store 81 _ _) _ _ _ _ :: _) _ _; refine st_row (ty := 81) rfl rfl w.heap.size (rfC n a).toArray rfl rfl 81 _ (HZ.out) (by kernel_rfl) rfl (by kernel_rfl) ?_; intro W9 hW9 gW9 zW9))
          (try change bodyPost _ _ _ _ _ _)
          refine bodyPost_ret (v := RfV n a) (results_cell_row (g := w.heap.size) rfl _ _ _ _ _ _ rfl hW9 Try.underlying81 rfl (by kernel_rfl)) rfl ?_
          rw [← HR.out]
          exact ⟨rfl, (FI.out W9 gW9).1, (FI.out W9 gW9).2⟩
      · have q1 : ((t.tk.kind : Int) == 1) = false := by rw [beq_eq_false_iff_ne]; omega
        have hin : Ps.isName (.ok (t :: tr) d) = false := by simp [Ps.isName, Ps.headK, hk]
        have HR' : Hid ((⟨n, n, noEx⟩, .ok (t :: tr) d) = R) := hid (by rw [← HR.out, hin]; rfl)
        clear HR
        have HR := HR'
        clear HR' hin H1 hk
        generalize t.tk.kind = tk at *
        generalize txt t.tk.text = tx at *
        have HX := hid hrb7.x
        have HZ := hid hrb7.z
        have FI := hid (fun W9 h9 => hrb7.fin (w' := W9) hps7' h9)
        clear hrb7 hps7'
        go_wp2_with (first | (guard_target =~ wpList _ _ _ (Oper.mk _ (Op.load 81 _) _ _ _ _ :: _) _ _; refine wpList_load_row rfl 81 _ rfl X rfl 81 (rfC n n).toArray (0, 0) _ HX.out Try.underlying81 rfl (by kernel_rfl) ?_) | (guard_target =~ wpList _ _ _ (Oper.mk _ (Op.store 81 _ _) _ _ _ _ :: _) _ _; refine st_row (ty := 81) rfl rfl w.heap.size (rfC n n).toArray rfl rfl 81 _ (HZ.out) (by kernel_rfl) rfl (by kernel_rfl) ?_; intro W9 hW9 gW9 zW9))
        (try change bodyPost _ _ _ _ _ _)
        refine bodyPost_ret (v := RfV n n) (results_cell_row (g := w.heap.size) rfl _ _ _ _ _ _ rfl hW9 Try.underlying81 rfl (by kernel_rfl)) rfl ?_
        rw [← HR.out]
        exact ⟨rfl, (FI.out W9 gW9).1, (FI.out W9 gW9).2⟩
end Go.Proofs.Ytaogpifcfmjcbaa
end
section
namespace Go.Proofs.Ytaogpifcfmjcbaa
open Go.RowKit
set_option linter.unusedSimpArgs false
set_option linter.unusedVariables false
theorem StmAt.own {S : Nat → Prop} {S0 : Nat} {W W' : World} {x : Stm} {r : SR} (h : StmAt S W x r) (hS : ∀ b, S b → S0 + 1 ≤ b) (hg : Go1 S0 W W') : StmAt S W' x r :=
  h.of hg.size (fun b hb hl => hg.get hl (by have := hS b hb; omega))
set_option maxRecDepth 100000 in
theorem sr_info (r : SR) : (Try.prog.info? 35).map (·.size) = some (SR.cs r).toArray.size := by kernel_rfl
set_option maxRecDepth 100000 in
theorem sr_one (r : SR) : (SR.cs r).toArray.all (·.oneCell') = true := by kernel_rfl
theorem sr_old (r r' : SR) : (SR.cs r).toArray.size = (SR.cs r').toArray.size := rfl
structure QB (S : Nat → Prop) (p : Nat) (w : World) (R0 S0 : Nat) (X : Stm) (r : SR) (s : Ps) (W : World) : Prop where
  sb : SB p w R0 S0 (SR.cs r) W
  ps : PS p W s
  hS : ∀ b, S b → S0 + 1 ≤ b
  at_ : ∃ x, StmAt S W x r ∧ (s.good = true → x = X)
section
variable {S : Nat → Prop} {p : Nat} {w : World} {R0 S0 : Nat} {X : Stm} {r : SR} {s s' : Ps} {W W' : World}
theorem QB.pS (h : QB S p w R0 S0 X r s W) : p < S0 := by have := h.sb.hp; have := h.sb.hR; have := h.sb.hS; omega
theorem QB.go (h : QB S p w R0 S0 X r s W) (hps : PS p W' s') (hg : Go1 p W W') (hgd : s'.good = true → s.good = true) : QB S p w R0 S0 X r s' W' := by
  obtain ⟨x, h1, h2⟩ := h.at_
  have hp := h.pS
  exact ⟨h.sb.go hg, hps, h.hS, x, h1.of hg.size (fun b hb hl => hg.get hl (by have := h.hS b hb; omega)), fun hh => h2 (hgd hh)⟩
theorem QB.mono {S' : Nat → Prop} (h : QB S p w R0 S0 X r s W) (hS : ∀ b, S' b → S0 + 1 ≤ b) (hm : ∀ b, b < W.heap.size → S b → S' b) : QB S' p w R0 S0 X r s W := by
  obtain ⟨x, h1, h2⟩ := h.at_
  exact ⟨h.sb, h.ps, hS, x, h1.mono hm, h2⟩
theorem QB.dist (h : QB S p w R0 S0 X r s W) (b : Bool) : QB S p w R0 S0 { X with distinct := b } { r with distinct := b } s (W.setCell ⟨S0, 10, none⟩ (.bool b)) := by
  obtain ⟨x, h1, h2⟩ := h.at_
  have hg := Go1.set S0 10 W (.bool b)
  exact ⟨h.sb.set 10 (.bool b), h.ps.go hg h.pS, h.hS, { x with distinct := b }, { h1.own h.hS hg with distinct := rfl }, fun hh => by rw [h2 hh]⟩
theorem QB.items (h : QB S p w R0 S0 X r s W) {ys Y : List ItemS} {sl : Slc} (hk : KsAt kItem S W ys sl) (hy : s.good = true → ys = Y) : QB S p w R0 S0 { X with items := Y } { r with items := sl } s (W.setCell ⟨S0, 11, none⟩ sl.val) := by
  obtain ⟨x, h1, h2⟩ := h.at_
  have hg := Go1.set S0 11 W sl.val
  exact ⟨h.sb.set 11 sl.val, h.ps.go hg h.pS, h.hS, { x with items := ys }, { h1.own h.hS hg with items := hk.of kItem_ok hg.size (fun b hb hl => hg.get hl (by have := h.hS b hb; omega)) }, fun hh => by rw [h2 hh, hy hh]⟩
theorem QB.group (h : QB S p w R0 S0 X r s W) {ys Y : List Ex} {sl : Slc} (hk : KsAt kX S W ys sl) (hy : s.good = true → ys = Y) : QB S p w R0 S0 { X with group := Y } { r with group := sl } s (W.setCell ⟨S0, 37, none⟩ sl.val) := by
  obtain ⟨x, h1, h2⟩ := h.at_
  have hg := Go1.set S0 37 W sl.val
  exact ⟨h.sb.set 37 sl.val, h.ps.go hg h.pS, h.hS, { x with group := ys }, { h1.own h.hS hg with group := hk.of kX_ok hg.size (fun b hb hl => hg.get hl (by have := h.hS b hb; omega)) }, fun hh => by rw [h2 hh, hy hh]⟩
theorem QB.limit (h : QB S p w R0 S0 X r s W) (n : Int) : QB S p w R0 S0 { X with limit := n } { r with limit := n } s (W.setCell ⟨S0, 39, none⟩ (.int .i64 n)) := by
  obtain ⟨x, h1, h2⟩ := h.at_
  have hg := Go1.set S0 39 W (.int .i64 n)
  exact ⟨h.sb.set 39 (.int .i64 n), h.ps.go hg h.pS, h.hS, { x with limit := n }, { h1.own h.hS hg with limit := rfl }, fun hh => by rw [h2 hh]⟩
theorem QB.offset (h : QB S p w R0 S0 X r s W) (n : Int) : QB S p w R0 S0 { X with offset := n } { r with offset := n } s (W.setCell ⟨S0, 40, none⟩ (.int .i64 n)) := by
  obtain ⟨x, h1, h2⟩ := h.at_
  have hg := Go1.set S0 40 W (.int .i64 n)
  exact ⟨h.sb.set 40 (.int .i64 n), h.ps.go hg h.pS, h.hS, { x with offset := n }, { h1.own h.hS hg with offset := rfl }, fun hh => by rw [h2 hh]⟩
theorem QB.wher (h : QB S p w R0 S0 X r s W) {y Y : Ex} {rx : XR} (hx : Ex.At S W y rx) (hy : s.good = true → y = Y) (hW : W'.heap[S0]? = some (.cells (SR.cs { r with wher := rx }).toArray 35 (0, 0))) (hg : Go1 S0 W W') : QB S p w R0 S0 { X with wher := Y } { r with wher := rx } s W' := by
  obtain ⟨x, h1, h2⟩ := h.at_
  exact ⟨h.sb.part hW hg, h.ps.go hg h.pS, h.hS, { x with wher := y }, { h1.own h.hS hg with wher := hx.of hg.size (fun b hb hl => hg.get hl (by have := h.hS b hb; omega)) }, fun hh => by rw [h2 hh, hy hh]⟩
theorem QB.having (h : QB S p w R0 S0 X r s W) {y Y : Ex} {rx : XR} (hx : Ex.At S W y rx) (hy : s.good = true → y = Y) (hW : W'.heap[S0]? = some (.cells (SR.cs { r with having := rx }).toArray 35 (0, 0))) (hg : Go1 S0 W W') : QB S p w R0 S0 { X with having := Y } { r with having := rx } s W' := by
  obtain ⟨x, h1, h2⟩ := h.at_
  exact ⟨h.sb.part hW hg, h.ps.go hg h.pS, h.hS, { x with having := y }, { h1.own h.hS hg with having := hx.of hg.size (fun b hb hl => hg.get hl (by have := h.hS b hb; omega)) }, fun hh => by rw [h2 hh, hy hh]⟩
theorem QB.give {W5 : World} (h : QB (Ab (S0 + 1)) p w R0 S0 X r s W) (hg : Go1 R0 W W5) : Rst p w (X, s) r.val W5 := by
  obtain ⟨x, h1, h2⟩ := h.at_
  have a1 := h.sb.hS
  have a0 := h.sb.hR
  have hp := h.sb.hp
  exact ⟨r, x, rfl, (h1.of hg.size (fun b hb hl => hg.get hl (by have : S0 + 1 ≤ b := hb; omega))).mono (fun b _ hb => by have : S0 + 1 ≤ b := hb; show w.heap.size ≤ b; omega), h.ps.go hg (by omega), h.sb.g.own hg (by omega), h2⟩
end
structure QF (B p : Nat) (w : World) (R0 S0 k : Nat) (v : Value) (X : Stm) (r : SR) (s0 : Ps) (W : World) : Prop where
  sb : SB p w R0 S0 ((SR.cs r).set k v) W
  hB : S0 + 1 ≤ B
  hz : B ≤ W.heap.size
  at_ : ∃ x, StmAt (fun b => S0 + 1 ≤ b ∧ b < B) W x r ∧ (s0.good = true → x = X)
section
variable {B p : Nat} {w : World} {R0 S0 k : Nat} {v v' : Value} {X : Stm} {r : SR} {s s0 : Ps} {W W' : World}
theorem QF.pS (h : QF B p w R0 S0 k v X r s0 W) : p < S0 := by have := h.sb.hp; have := h.sb.hR; have := h.sb.hS; omega
theorem QF.go (h : QF B p w R0 S0 k v X r s0 W) (hg : Go1 p W W') : QF B p w R0 S0 k v X r s0 W' := by
  obtain ⟨x, h1, h2⟩ := h.at_
  have hp := h.pS
  exact ⟨h.sb.go hg, h.hB, Nat.le_trans h.hz hg.size, x, h1.of hg.size (fun b hb hl => hg.get hl (by omega)), h2⟩
theorem QF.frame (h : QB (Ab (S0 + 1)) p w R0 S0 X r s W) (v : Value) (hv : (SR.cs r).set k v = SR.cs r) : QF W.heap.size p w R0 S0 k v X r s W := by
  obtain ⟨x, h1, h2⟩ := h.at_
  have hl := h.sb.lt
  exact ⟨by rw [hv]; exact h.sb, by omega, Nat.le_refl _, x, h1.mono (fun b hb hs => ⟨hs, hb⟩), h2⟩
theorem QF.set (h : QF B p w R0 S0 k v X r s0 W) (v' : Value) : QF B p w R0 S0 k v' X r s0 (W.setCell ⟨S0, k, none⟩ v') := by
  obtain ⟨x, h1, h2⟩ := h.at_
  have hg := Go1.set S0 k W v'
  refine ⟨?_, h.hB, by simp; exact h.hz, x, h1.own (fun b hb => hb.1) hg, h2⟩
  have := h.sb.set k v'
  rw [List.set_set] at this
  exact this
theorem QF.push (h : QF B p w R0 S0 k v X r s0 W) (hsb : SB p w R0 S0 ((SR.cs r).set k v') W') (hk : Kp p S0 v W W') (hv : ∀ b, v.ownBlock = some b → B ≤ b) : QF B p w R0 S0 k v' X r s0 W' := by
  obtain ⟨x, h1, h2⟩ := h.at_
  have hp := h.pS
  exact ⟨hsb, h.hB, Nat.le_trans h.hz hk.size, x, h1.of hk.size (fun b hb hl => hk.block b hl (by omega) (by omega) (fun e => by have := hv b e; omega)), h2⟩
theorem QF.refs (h : QF B p w R0 S0 12 v X r s0 W) (hps : PS p W s) (hs : s.good = true → s0.good = true) {ys Y : List RefS} {sl : Slc} (hv : v = sl.val) (hk : KsAt kRef (Ab B) W ys sl) (hy : s.good = true → ys = Y) : QB (Ab (S0 + 1)) p w R0 S0 { X with refs := Y } { r with refs := sl } s W := by
  obtain ⟨x, h1, h2⟩ := h.at_
  subst hv
  have hB := h.hB
  exact ⟨h.sb, hps, fun b hb => hb, { x with refs := ys }, { h1.mono (fun b _ hb => hb.1) with refs := hk.mono kRef_ok (fun b _ hb => by have : B ≤ b := hb; show S0 + 1 ≤ b; omega) }, fun hh => by rw [h2 (hs hh), hy hh]⟩
theorem QF.order (h : QF B p w R0 S0 38 v X r s0 W) (hps : PS p W s) (hs : s.good = true → s0.good = true) {ys Y : List OrdS} {sl : Slc} (hv : v = sl.val) (hk : KsAt kOrd (Ab B) W ys sl) (hy : s.good = true → ys = Y) : QB (Ab (S0 + 1)) p w R0 S0 { X with order := Y } { r with order := sl } s W := by
  obtain ⟨x, h1, h2⟩ := h.at_
  subst hv
  have hB := h.hB
  exact ⟨h.sb, hps, fun b hb => hb, { x with order := ys }, { h1.mono (fun b _ hb => hb.1) with order := hk.mono kOrd_ok (fun b _ hb => by have : B ≤ b := hb; show S0 + 1 ≤ b; omega) }, fun hh => by rw [h2 (hs hh), hy hh]⟩
end
theorem KL.one {α β : Type} {K : Kd α β} (hK : K.Ok) {W : World} {y : β} {r : α} {cs : Array Value} (hcs : cs.toList = K.f r) {S : Nat → Prop} (hS : S W.heap.size) (hy : K.E (fun b => S b ∧ b ≠ W.heap.size) (W.alloc (.cells cs K.T)) y r) : KL K S (W.alloc (.cells cs K.T)) (.slice (some ⟨W.heap.size, 0, none⟩) 1 1) [y] := by
  refine ⟨[r], own_new hK.enc W r (Nat.zero_le _) hcs, fun b e => ?_, Es.snoc Es.nil (hK.mono (fun b _ hb => ⟨hb.1, fun e => hb.2 ?_⟩) hy)⟩
  · have : W.heap.size = b := Option.some.inj e
    rw [← this]; exact hS
  · exact (Option.some.inj e).symm
def JoRel (p N : Nat) (w : World) (R0 S0 B : Nat) (X : Stm) (r : SR) (s0 : Ps) (R : List RefS × Ps) (wr : World) : Prop :=
  ∃ v ys l0 s n, QF B p w R0 S0 12 v X r s0 wr ∧ KL kRef (Ab B) wr v ys ∧ PS p wr s ∧ (s.good = true → ys = l0) ∧ joins n l0 s = R ∧ s.size ≤ n ∧ ys.length + s.size ≤ N ∧ (s.good = true → s0.good = true)
theorem JoRel.next {p N : Nat} {w : World} {R0 S0 B : Nat} {X : Stm} {r : SR} {s0 : Ps} {R : List RefS × Ps} {W : World} {v : Value} {ys l0 : List RefS} {y : RefS} {q : RefS × Ps} {n1 m : Nat} (hqf : QF B p w R0 S0 12 v X r s0 W) (hL : KL kRef (Ab B) W v (ys ++ [y])) (hps : PS p W q.2) (hy : q.2.good = true → y = q.1) (hyl : ys = l0) (hR : joins n1 (l0 ++ [q.1]) q.2 = R) (hn : q.2.size ≤ n1) (hm : q.2.size < m) (hN : ys.length + m ≤ N) (hg : s0.good = true) : JoRel p N w R0 S0 B X r s0 R W ∧ lenAt p W < m := by
  refine ⟨⟨v, ys ++ [y], l0 ++ [q.1], q.2, n1, hqf, hL, hps, fun h => by rw [hyl, hy h], hR, hn, by simp; omega, fun _ => hg⟩, ?_⟩
  rw [lenAt_ps hps]
  exact hm
theorem joins_no {n : Nat} {l : List RefS} {s : Ps} (h : (s.is 1 ⟨#[105, 110, 110, 101, 114]⟩ || s.is 1 ⟨#[106, 111, 105, 110]⟩) = false) : joins n l s = (l, s) := by
  cases n with
  | zero => rfl
  | succ n => unfold joins; rw [h]; rfl
theorem joins_yes {n : Nat} {l : List RefS} {s : Ps} (h : (s.is 1 ⟨#[105, 110, 110, 101, 114]⟩ || s.is 1 ⟨#[106, 111, 105, 110]⟩) = true) (hn : s.size ≤ n) : ∃ m, n = m + 1 ∧ joins n l s = joins m (l ++ [(joinS s).1]) (joinS s).2 ∧ (joinS s).2.size ≤ m := by
  have hl := join_less h
  cases n with
  | zero => omega
  | succ n => exact ⟨n, rfl, by rw [joins, h]; rfl, by omega⟩
end Go.Proofs.Ytaogpifcfmjcbaa
end
section
namespace Go.Proofs.Ytaogpifcfmjcbaa
open Go.RowKit
set_option linter.unusedSimpArgs false
set_option linter.unusedVariables false
attribute [local go_sem] Rg.leads_value Rg.leads_skip Rg.leads_enter Rg.brings_value Rg.brings_skip Rg.brings_enter Rg.bringsG_value Rg.bringsG_enter Rg.once_normal Rg.once_exit Rg.once_ret Rg.once_panic Rg.once_goto Rg.bringsS_value Rg.bringsS_skip Rg.bringsS_enter Rg.still_value Rg.still_skip Rg.still_enter
mutual
def Ex.sz : Ex → Nat
  | .mk _ ks => Exs.sz ks + 1
def Exs.sz : List Ex → Nat
  | [] => 0
  | x :: xs => Ex.sz x + Exs.sz xs
end
theorem sz_get : ∀ (xs : List Ex) (k : Nat) (h : k < xs.length), Ex.sz xs[k] ≤ Exs.sz xs
  | [], k, h => by simp at h
  | x :: xs, 0, h => by show Ex.sz x ≤ Exs.sz (x :: xs); unfold Exs.sz; omega
  | x :: xs, k + 1, h => by
    have h' : k < xs.length := by simpa using h
    have := sz_get xs k h'
    show Ex.sz xs[k] ≤ Exs.sz (x :: xs)
    rw [Exs.sz]; omega
set_option maxHeartbeats 4000000 in
set_option maxRecDepth 100000 in
theorem clip_any (oa : Option Addr) (n cap : Nat) (h : n ≤ cap) (w : World) : Calls Try.prog 41 #[.slice oa n cap] w fun e w' => e = .returned (.slice oa n n) ∧ w' = w := by
  have g1 : (n : Int) ≤ (cap : Int) := by omega
  go_enter Try.func41, Try.ntmps41
  go_wp2
  go_ret
  exact ⟨rfl, rfl⟩
theorem st_mid {P : Program} {ops : Array Oper} {rest : List Oper} {o : Oper} {a : Act} {w : World} {Q : Exit → Act → World → Prop} {ty : TypeId} {x y : Operand} {S : Nat → Prop} (ho : o.op = .store ty x y) (hgd : o.guard = none)
    (b off : Nat) (cells : Array Value) (hx : a.eval x = .pointer (some ⟨b, off, none⟩)) (hy : a.eval y = .agg cells)
    (hsame : ∀ j u', cells.toList[j]? = some u' → ∃ u, w.cell? ⟨b, off + j, none⟩ = some u ∧ SameV u u') (hfr : ∀ j, w.frozen? ⟨b, j, none⟩ = false) (hS : S b)
    (hi : (P.info? ty).map (·.size) = some cells.size) (h1 : cells.all (·.oneCell') = true)
    (hK : ∀ W, Cl S w W → wpList P ops Q rest (a.put o.dst undef) W) : wpList P ops Q (o :: rest) a w :=
  wpList_store_mid hgd ty x y ho b off cells hx hy (fun j hj => ⟨by
    obtain ⟨u, hu, _⟩ := hsame j cells[j] (by simp [hj])
    rw [hu]; rfl, hfr _⟩) hi h1 (hK _ (Cl.cellsv hS _ _ _ hsame))
def RC (S : Nat → Prop) (rk : XR) (W0 : World) (u : Value) (W : World) : Prop := u = XR.val { rk with cap := rk.n } ∧ Cl S W0 W
theorem late_cl {S : Nat → Prop} {idx s : Nat} {w W : World} {rk : XR} {v : Nat → Value} (h : Late idx w (RC S rk) s v W) : Cl S w W := by
  unfold Late at h
  split at h
  · exact .of h
  · obtain ⟨W0, h1, _, h2⟩ := h; exact (Cl.of h1).trans h2
theorem same_row {S : Nat → Prop} {w W : World} {b o : Nat} {rk : XR} (hc : ∀ j u, (xF rk)[j]? = some u → w.cell? ⟨b, o + j, none⟩ = some u) (h : Cl S w W) : ∀ j u', (xF { rk with cap := rk.n })[j]? = some u' → ∃ u, W.cell? ⟨b, o + j, none⟩ = some u ∧ SameV u u' := by
  intro j u' hu'
  have hj : j < 12 := by have := (List.getElem?_eq_some_iff.1 hu').1; simpa [xF] using this
  by_cases e : j = 11
  · subst e
    simp [xF] at hu'
    subst hu'
    obtain ⟨u2, h1, h2⟩ := h.cell _ _ _ (hc 11 _ rfl)
    rcases h2 with e | ⟨oa, n, c, c', e1, e2, e3⟩
    · exact ⟨u2, h1, by rw [← e]; exact .inr ⟨_, _, _, _, rfl, rfl, Nat.le_refl _⟩⟩
    · cases e1
      exact ⟨u2, h1, by rw [e2]; exact .inr ⟨_, _, _, _, rfl, rfl, Nat.le_refl _⟩⟩
  · have hu : (xF rk)[j]? = some u' := by
      rcases j with _ | _ | _ | _ | _ | _ | _ | _ | _ | _ | _ | _ | j <;> first | exact hu' | (exfalso; omega)
    obtain ⟨u2, h1, h2⟩ := h.cell _ _ _ (hc j u' hu)
    rcases h2 with e' | ⟨oa, n, c, c', e1, e2, e3⟩
    · exact ⟨u2, h1, by rw [← e']; exact .refl _⟩
    · exact ⟨u2, h1, by rw [e1, e2]; exact .inr ⟨_, _, _, _, rfl, rfl, by
        exfalso
        rcases j with _ | _ | _ | _ | _ | _ | _ | _ | _ | _ | _ | _ | j <;> simp [xF] at hu <;> first | omega | (subst hu; cases e1)⟩⟩
set_option maxHeartbeats 8000000 in
set_option maxRecDepth 100000 in
theorem clipped_step (x : Ex) (rh : Hd) (roa : Option Addr) (rn rcap : Nat) (S : Nat → Prop) (w : World) (hx : Ex.At S w x ⟨rh, roa, rn, rcap⟩)
    (hrec : ∀ y r' w', Ex.sz y < Ex.sz x → Ex.At (fun b => S b ∧ b < w.heap.size) w' y r' → Calls Try.prog 19 #[XR.val r'] w' fun e w2 => e = .returned (XR.val { r' with cap := r'.n }) ∧ Cl (fun b => S b ∧ b < w.heap.size) w' w2) :
    Calls Try.prog 19 #[XR.val ⟨rh, roa, rn, rcap⟩] w fun e w' => e = .returned (XR.val ⟨rh, roa, rn, rn⟩) ∧ Cl S w w' := by
  have hx1 : Ex.At (fun b => S b ∧ b < w.heap.size) w x ⟨rh, roa, rn, rcap⟩ := hx.mono (fun b hb hs => ⟨hs, hb⟩)
  have hfit : rn ≤ rcap := hx.fits
  have hbd : rn ≤ 2000000 := hx.bound
  obtain ⟨wA, hwA⟩ : ∃ wA, (w.alloc (.cells (XR.cells ⟨rh, roa, rn, rcap⟩) 32)).alloc (.cells zeroX 32) = wA := ⟨_, rfl⟩
  have hGA : Gr w wA := by rw [← hwA]; exact ((Gr.refl w).alloc _).alloc _
  have hB1 : wA.heap[w.heap.size]? = some (.cells (XR.cells ⟨rh, roa, rn, rcap⟩) 32 (0, 0)) := by rw [← hwA, ((Gr.refl _).alloc _).block _ (by simp)]; exact alloc_at _ _
  have hR0 : wA.heap[w.heap.size + 1]? = some (.cells zeroX 32 (0, 0)) := by rw [← hwA]; exact alloc_at' _ _ _ (World.size_alloc _ _).symm
  have hzA : wA.heap.size = w.heap.size + 2 := by rw [← hwA]; simp
  obtain ⟨ks, hks, hn⟩ : ∃ ks : List Ex, (∀ S w r, Ex.At S w x r → ∃ rs, rs.length = ks.length ∧ XR.n r = ks.length ∧ XRow S w (XR.oa r) rs ∧ Exs.At S w ks rs) ∧ ∀ k (h : k < ks.length), Ex.sz ks[k] < Ex.sz x := by
    cases x with
    | mk hd ks =>
      refine ⟨ks, fun S w r h => ?_, fun k h => ?_⟩
      · unfold Ex.At at h
        obtain ⟨_, a, _, rs, b, c, d⟩ := h
        exact ⟨rs, b, a, c, d⟩
      · have := sz_get ks k h
        rw [Ex.sz]; omega
  have hlen : rn = ks.length := by obtain ⟨rs, _, h, _⟩ := hks _ _ _ hx; exact h
  have HLEN := hid hlen
  clear hlen
  have HX := hid hx1
  have HB := hid hB1
  have HR := hid hR0
  have HW := hid hwA
  clear hx hx1 hB1 hR0 hwA
  unfold XR.val
  go_enter Try.func19, Try.ntmps19
  go_wp2_with fail
  rw [HW.out]
  go_loopw [8] (fun s8 wr => ∃ k : Nat, s8 = .int .i64 (k : Int) ∧ k ≤ rn ∧ Cl (fun b => S b ∧ b < w.heap.size) wA wr) (fun s8 _ => rn - (intOf s8).toNat)
  · exact ⟨0, rfl, by omega, .refl _ _⟩
  · obtain ⟨k, rfl, hk, hcl⟩ := hrel
    have hzr := hcl.size
    have hB1 : wr.heap[w.heap.size]? = some (.cells (XR.cells ⟨rh, roa, rn, rcap⟩) 32 (0, 0)) := (hcl.block _ (by omega) (fun h => by omega)).trans HB.out
    have hR0 : wr.heap[w.heap.size + 1]? = some (.cells zeroX 32 (0, 0)) := (hcl.block _ (by omega) (fun h => by omega)).trans HR.out
    have HXr := hid ((HX.out.of hGA.size (fun b _ hb => hGA.block b hb)).clS hcl)
    by_cases hkn : k < rn
    · have t0 : decide ((k : Int) < (rn : Int)) = true := by rw [decide_eq_true_iff]; omega
      have g1 : (k : Int) < (rn : Int) := by omega
      have hwk : wrap64 ((k : Int) + 1) = (k : Int) + 1 := by unfold wrap64; omega
      obtain ⟨rs, hl1, hl20, hrow, hats⟩ := hks _ _ _ HXr.out
      have hl2 : rn = ks.length := hl20
      clear hl20
      have hkl : k < rs.length := by rw [hl1, ← hl2]; exact hkn
      have hkk : k < ks.length := by rw [← hl2]; exact hkn
      have hat := hats.get k hkk hkl
      rcases hrow with h0 | ⟨b, off, hoa, hbl, hSb, hfr, hr⟩
      · rw [h0] at hkl; simp at hkl
      have hoa' : roa = some ⟨b, off, none⟩ := hoa
      clear hoa
      subst hoa'
      have hrk := hr k hkl
      obtain ⟨rk, hrk0⟩ : ∃ rk, rs[k] = rk := ⟨_, rfl⟩
      rw [hrk0] at hat hrk
      have HRK := hid hrk
      have k0 := hrk 0 _ rfl
      have k1 := hrk 1 _ rfl
      have k2 := hrk 2 _ rfl
      have k3 := hrk 3 _ rfl
      have k4 := hrk 4 _ rfl
      have k5 := hrk 5 _ rfl
      have k6 := hrk 6 _ rfl
      have k7 := hrk 7 _ rfl
      have k8 := hrk 8 _ rfl
      have k9 := hrk 9 _ rfl
      have k10 := hrk 10 _ rfl
      have k11 := hrk 11 _ rfl
      simp only [Nat.add_zero] at k0
      have HAT := hid hat
      have HFR := hid hfr
      have HREC : Hid (∀ w', Ex.At (fun b => S b ∧ b < w.heap.size) w' (ks[k]'hkk) rk → _) := hid (fun w' => hrec (ks[k]'hkk) rk w' (hn k hkk))
      have hbA : b < w.heap.size := hSb.2
      have cB := Rg.blk_cells hB1
      simp only [XR.cells] at cB
      have HCL := hid hcl
      clear hrk hat hats hr hks hrec hn hB1 hR0 hcl hfr HXr hl1 hl2 hrk0 hkl
      go_wp2_with fail
      have hA4 := (Gr.refl wr).alloc (.cells rk.cells 32)
      refine Rg.region_chain 5 [4] [] (Late 4 (wr.alloc (.cells rk.cells 32)) (RC (fun b => S b ∧ b < w.heap.size) rk)) [some (.pointer (some ⟨w.heap.size, 11, none⟩)), some (.slice (some ⟨b, off, none⟩) rn rcap), some (.int .i64 (k : Int)), some (.agg #[.int .i64 rk.h.op, .int .i64 rk.h.v.t, .int .i64 rk.h.v.n, .string rk.h.v.s, .bool rk.h.v.b, .string rk.h.tab, .string rk.h.name, .int .i64 rk.h.t, .int .i64 rk.h.c, .bool rk.h.nt, .bool rk.h.st, .slice rk.oa rk.n rk.cap]), none]
        (fun v => late0 ((Gr.refl _).drew)) (by kernel_rfl) (by kernel_rfl) (by kernel_rfl) (by kernel_rfl) (fun _ _ d _ _ h => by cases d <;> exact h) ?_
      intro OPS _ v
      simp only [List.take_succ_cons, List.take_zero, Rg.wpC, Rg.wpS, Option.getD_some, Option.getD_none, Act.put, List.setIfInBounds_toArray, List.set_cons_zero, List.set_cons_succ, show List.contains [4] 0 = false from rfl, show List.contains [4] 1 = false from rfl, show List.contains [4] 2 = false from rfl, show List.contains [4] 3 = false from rfl, show List.contains [4] 4 = true from rfl, Bool.false_eq_true, if_false, if_true, Nat.reduceAdd]
      have hBl : w.heap.size < wr.heap.size := by omega
      have fB : ∀ W, Cl (fun b => S b ∧ b < w.heap.size) (wr.alloc (.cells rk.cells 32)) W → W.cell? ⟨w.heap.size, 11, none⟩ = some (.slice (some ⟨b, off, none⟩) rn rcap) ∧ ∀ i, W.cell? ⟨wr.heap.size, i, none⟩ = (rk.cells)[i]? := fun W h => by
        refine ⟨?_, fun i => ?_⟩
        · rw [World.cell?_of_block (w := wr.alloc (.cells rk.cells 32)) (h.block _ (by simp; omega) (fun h => Nat.lt_irrefl _ h.2)), World.cell?_of_block (w := wr) (hA4.block _ hBl), cB]
          rfl
        · rw [World.cell?_of_block (w := wr.alloc (.cells rk.cells 32)) (h.block _ (by simp) (fun h => by have : wr.heap.size < w.heap.size := h.2; omega)), Rg.blk_cells (alloc_at _ _)]
      refine ⟨?_, ?_, ?_, ?_, ?_, ?_⟩
      · refine sc_still (by rfl) (by rfl) (fun s' W _ hS => ?_)
        go_simp
      · refine sc_still (by rfl) (by rfl) (fun s' W _ hS => ?_)
        obtain ⟨cW, _⟩ := fB W (late_cl hS)
        go_simp
      · refine sc_still (by rfl) (by rfl) (fun s' W _ hS => ?_)
        go_simp
      · refine sc_still (by rfl) (by rfl) (fun s' W _ hS => ?_)
        obtain ⟨_, cW⟩ := fB W (late_cl hS)
        simp only [XR.cells] at cW
        go_simp
      · refine sc_new (by rfl) (by rfl) (fun W hS => ?_)
        have hg := late_0 hS
        have hH := HREC.out W ((HAT.out.of hA4.size (fun b _ hb => hA4.block b hb)).of hg.size (fun b _ hb => hg.block b hb))
        unfold XR.val at hH
        go_simp
        refine hH.mono ?_
        rintro e w' ⟨rfl, hu⟩
        exact ⟨_, rfl, late1 ⟨W, hg, by rw [upd_same]; exact ⟨rfl, hu⟩⟩⟩
      · intro W hS
        have hclW := late_cl hS
        obtain ⟨W0, hg0, hu, _⟩ := late_1 hS
        generalize v 4 = vv at *
        subst hu
        simp only [List.drop_succ_cons, List.drop_zero]
        have hclA := (Cl.of (S := fun b => S b ∧ b < w.heap.size) hA4).trans hclW
        have HSR := hid (same_row (b := b) (o := off + k * 12) (fun j u hu => HRK.out j u hu) hclA)
        have HFW := hid (fun j => (hclA.free b j (by omega)).trans (HFR.out j))
        have HFIN := hid (fun W5 (h : Cl (fun b => S b ∧ b < w.heap.size) W W5) => (HCL.out.trans hclA).trans h)
        clear hclW hS hg0 hclA fB HREC HAT hA4 HFR HRK HCL
        unfold XR.val
        go_wp2_with (guard_target =~ wpList _ _ _ (Oper.mk _ (Op.store 32 _ _) _ _ _ _ :: _) _ _; refine st_mid (S := fun b => S b ∧ b < w.heap.size) (ty := 32) rfl rfl b (off + k * 12) _ rfl rfl (HSR.out) HFW.out hSb (by kernel_rfl) (by kernel_rfl) ?_; intro W5 hW5; have HC5 := hid (HFIN.out W5 hW5))
        exact ⟨⟨k + 1, by go_num, by omega, HC5.out⟩, by simp [intOf]; omega⟩
    · have t0 : decide ((k : Int) < (rn : Int)) = false := by rw [decide_eq_false_iff_not]; omega
      have cB := Rg.blk_cells hB1
      have b0 : wr.cell? ⟨w.heap.size, 0, none⟩ = some (.int .i64 rh.op) := cB 0
      have b1 : wr.cell? ⟨w.heap.size, 1, none⟩ = some (.int .i64 rh.v.t) := cB 1
      have b2 : wr.cell? ⟨w.heap.size, 2, none⟩ = some (.int .i64 rh.v.n) := cB 2
      have b3 : wr.cell? ⟨w.heap.size, 3, none⟩ = some (.string rh.v.s) := cB 3
      have b4 : wr.cell? ⟨w.heap.size, 4, none⟩ = some (.bool rh.v.b) := cB 4
      have b5 : wr.cell? ⟨w.heap.size, 5, none⟩ = some (.string rh.tab) := cB 5
      have b6 : wr.cell? ⟨w.heap.size, 6, none⟩ = some (.string rh.name) := cB 6
      have b7 : wr.cell? ⟨w.heap.size, 7, none⟩ = some (.int .i64 rh.t) := cB 7
      have b8 : wr.cell? ⟨w.heap.size, 8, none⟩ = some (.int .i64 rh.c) := cB 8
      have b9 : wr.cell? ⟨w.heap.size, 9, none⟩ = some (.bool rh.nt) := cB 9
      have b10 : wr.cell? ⟨w.heap.size, 10, none⟩ = some (.bool rh.st) := cB 10
      have b11 : wr.cell? ⟨w.heap.size, 11, none⟩ = some (.slice roa rn rcap) := cB 11
      have f0 := Rg.blk_free hB1
      have H05 : Hid (∀ u, (wr.setCell ⟨w.heap.size, 11, none⟩ u).heap[w.heap.size + 1]? = some (.cells zeroX 32 (0, 0))) := hid (fun u => by rw [Below.heap_setCell _ _ _ _ (by simp)]; exact hR0)
      have FI : Hid (∀ u W5, Go1 (w.heap.size + 1) (wr.setCell ⟨w.heap.size, 11, none⟩ u) W5 → Cl S w W5) := hid (fun u W5 h5 => by
        have h1 : Cl S w wr := ((Cl.of hGA).trans hcl).mono (fun b _ hs => hs.1) |> fun h => h
        refine h1.new h5.os h5.tape h5.output (by have := h5.size; simpa using this) (fun b hb => ?_)
        rw [h5.get (by simp; omega) (by omega), Below.heap_setCell _ _ _ _ (by simp; omega)])
      clear hcl HXr hks hn hrec hB1 hR0 HX HB HR HW HLEN cB
      go_wp2_with (first | (go_at_call 41; refine (clip_any roa rn rcap hfit _).mono ?_; rintro e w' ⟨rfl, rfl⟩) | (guard_target =~ wpList _ _ _ (Oper.mk _ (Op.store 32 _ _) _ _ _ _ :: _) _ _; refine st_row (ty := 32) rfl rfl (w.heap.size + 1) _ rfl rfl 32 _ (H05.out _) (by kernel_rfl) rfl (by kernel_rfl) ?_; intro W5 hW5 gW5 zW5))
      (try change bodyPost _ _ _ _ _ _)
      have hT := Rg.blk_cells hW5
      refine bodyPost_ret (v := XR.val ⟨rh, roa, rn, rn⟩) (by simp [results, Try.results19, go_sem, XR.val, nul, hT]; try rfl) rfl ⟨rfl, FI.out _ W5 gW5⟩
theorem clipped_any : ∀ (N : Nat) (x : Ex), Ex.sz x ≤ N → ∀ (r : XR) (S : Nat → Prop) (w : World), Ex.At S w x r → Calls Try.prog 19 #[XR.val r] w fun e w' => e = .returned (XR.val { r with cap := r.n }) ∧ Cl S w w'
  | 0, x, h, r, S, w, hx => by cases x; rw [Ex.sz] at h; omega
  | N + 1, x, h, r, S, w, hx => clipped_step x r.h r.oa r.n r.cap S w hx (fun y r' w' hy hat => clipped_any N y (by omega) r' _ w' hat)
end Go.Proofs.Ytaogpifcfmjcbaa
end
section
namespace Go.Proofs.Ytaogpifcfmjcbaa
open Go.RowKit
set_option linter.unusedSimpArgs false
set_option linter.unusedVariables false
attribute [local go_sem] Rg.leads_value Rg.leads_skip Rg.leads_enter Rg.brings_value Rg.brings_skip Rg.brings_enter Rg.bringsG_value Rg.bringsG_enter Rg.once_normal Rg.once_exit Rg.once_ret Rg.once_panic Rg.once_goto Rg.bringsS_value Rg.bringsS_skip Rg.bringsS_enter Rg.still_value Rg.still_skip Rg.still_enter
structure Slc.Like (s s' : Slc) : Prop where
  oa : s'.oa = s.oa
  n : s'.n = s.n
  cap : s.n ≤ s'.cap
def Slc.clip (s : Slc) : Slc := { s with cap := s.n }
theorem Slc.clip_like (s : Slc) : s.Like s.clip := ⟨rfl, rfl, Nat.le_refl _⟩
theorem Slc.like_self {s : Slc} (h : s.n ≤ s.cap) : s.Like s := ⟨rfl, rfl, h⟩
theorem KsAt.like {α β : Type} {K : Kd α β} (hK : K.Ok) {S S' : Nat → Prop} {w w' : World} {ys : List β} {s s' : Slc} (h : Cl S' w w') (hx : KsAt K S w ys s) (hl : s.Like s') : KsAt K S w' ys s' := hx.cl hK h hl.oa hl.n hl.cap
structure SR.Like (r r' : SR) : Prop where
  kind : r'.kind = r.kind
  table : r'.table = r.table
  name : r'.name = r.name
  column : r'.column = r.column
  unique : r'.unique = r.unique
  cols : r.cols.Like r'.cols
  columns : r.columns.Like r'.columns
  rows : r.rows.Like r'.rows
  sets : r.sets.Like r'.sets
  explain : r'.explain = r.explain
  distinct : r'.distinct = r.distinct
  items : r.items.Like r'.items
  refs : r.refs.Like r'.refs
  wher : r.wher.Like r'.wher
  having : r.having.Like r'.having
  group : r.group.Like r'.group
  order : r.order.Like r'.order
  limit : r'.limit = r.limit
  offset : r'.offset = r.offset
theorem StmAt.cl {S S' : Nat → Prop} {w w' : World} {x : Stm} {r r' : SR} (h : Cl S' w w') (hx : StmAt S w x r) (hl : r.Like r') : StmAt S w' x r' :=
  ⟨hl.kind.trans hx.kind, hl.table.trans hx.table, hl.name.trans hx.name, hl.column.trans hx.column, hl.unique.trans hx.unique, hx.cols.like kCol_ok h hl.cols, hx.columns.like kStr_ok h hl.columns, hx.rows.like kRow_ok h hl.rows, hx.sets.like kX_ok h hl.sets, hl.explain.trans hx.explain, hl.distinct.trans hx.distinct, hx.items.like kItem_ok h hl.items, hx.refs.like kRef_ok h hl.refs, hx.wher.cl h hl.wher, hx.having.cl h hl.having, hx.group.like kX_ok h hl.group, hx.order.like kOrd_ok h hl.order, hl.limit.trans hx.limit, hl.offset.trans hx.offset⟩
theorem StmAt.fit {S : Nat → Prop} {w : World} {x : Stm} {r : SR} (hx : StmAt S w x r) : r.Like r :=
  ⟨rfl, rfl, rfl, rfl, rfl, Slc.like_self hx.cols.2.1.1, Slc.like_self hx.columns.2.1.1, Slc.like_self hx.rows.2.1.1, Slc.like_self hx.sets.2.1.1, rfl, rfl, Slc.like_self hx.items.2.1.1, Slc.like_self hx.refs.2.1.1, like_self hx.wher.fits, like_self hx.having.fits, Slc.like_self hx.group.2.1.1, Slc.like_self hx.order.2.1.1, rfl, rfl⟩
def SR.c1 (r : SR) : SR := { r with cols := r.cols.clip, columns := r.columns.clip, rows := r.rows.clip, refs := r.refs.clip }
def SR.c2 (r : SR) : SR := { r.c1 with sets := r.sets.clip, group := r.group.clip, items := r.items.clip, order := r.order.clip }
def SR.c3 (r : SR) : SR := { r.c2 with wher := { r.wher with cap := r.wher.n }, having := { r.having with cap := r.having.n } }
theorem SR.c1_like {S : Nat → Prop} {w : World} {x : Stm} {r : SR} (hx : StmAt S w x r) : r.Like r.c1 :=
  { hx.fit with cols := r.cols.clip_like, columns := r.columns.clip_like, rows := r.rows.clip_like, refs := r.refs.clip_like }
theorem SR.c3_like {S : Nat → Prop} {w : World} {x : Stm} {r : SR} (hx : StmAt S w x r) : r.Like r.c3 :=
  { hx.fit with cols := r.cols.clip_like, columns := r.columns.clip_like, rows := r.rows.clip_like, refs := r.refs.clip_like, sets := r.sets.clip_like, group := r.group.clip_like, items := r.items.clip_like, order := r.order.clip_like, wher := ⟨rfl, rfl, rfl, Nat.le_refl _⟩, having := ⟨rfl, rfl, rfl, Nat.le_refl _⟩ }
set_option maxHeartbeats 4000000 in
set_option maxRecDepth 100000 in
theorem clip_col (oa : Option Addr) (n cap : Nat) (h : n ≤ cap) (w : World) : Calls Try.prog 37 #[.slice oa n cap] w fun e w' => e = .returned (.slice oa n n) ∧ w' = w := by
  have g1 : (n : Int) ≤ (cap : Int) := by omega
  go_enter Try.func37, Try.ntmps37
  go_wp2
  go_ret
  exact ⟨rfl, rfl⟩
set_option maxHeartbeats 4000000 in
set_option maxRecDepth 100000 in
theorem clip_str (oa : Option Addr) (n cap : Nat) (h : n ≤ cap) (w : World) : Calls Try.prog 38 #[.slice oa n cap] w fun e w' => e = .returned (.slice oa n n) ∧ w' = w := by
  have g1 : (n : Int) ≤ (cap : Int) := by omega
  go_enter Try.func38, Try.ntmps38
  go_wp2
  go_ret
  exact ⟨rfl, rfl⟩
set_option maxHeartbeats 4000000 in
set_option maxRecDepth 100000 in
theorem clip_row (oa : Option Addr) (n cap : Nat) (h : n ≤ cap) (w : World) : Calls Try.prog 39 #[.slice oa n cap] w fun e w' => e = .returned (.slice oa n n) ∧ w' = w := by
  have g1 : (n : Int) ≤ (cap : Int) := by omega
  go_enter Try.func39, Try.ntmps39
  go_wp2
  go_ret
  exact ⟨rfl, rfl⟩
set_option maxHeartbeats 4000000 in
set_option maxRecDepth 100000 in
theorem clip_ref (oa : Option Addr) (n cap : Nat) (h : n ≤ cap) (w : World) : Calls Try.prog 40 #[.slice oa n cap] w fun e w' => e = .returned (.slice oa n n) ∧ w' = w := by
  have g1 : (n : Int) ≤ (cap : Int) := by omega
  go_enter Try.func40, Try.ntmps40
  go_wp2
  go_ret
  exact ⟨rfl, rfl⟩
set_option maxHeartbeats 4000000 in
set_option maxRecDepth 100000 in
theorem clip_item (oa : Option Addr) (n cap : Nat) (h : n ≤ cap) (w : World) : Calls Try.prog 42 #[.slice oa n cap] w fun e w' => e = .returned (.slice oa n n) ∧ w' = w := by
  have g1 : (n : Int) ≤ (cap : Int) := by omega
  go_enter Try.func42, Try.ntmps42
  go_wp2
  go_ret
  exact ⟨rfl, rfl⟩
set_option maxHeartbeats 4000000 in
set_option maxRecDepth 100000 in
theorem clip_ord (oa : Option Addr) (n cap : Nat) (h : n ≤ cap) (w : World) : Calls Try.prog 43 #[.slice oa n cap] w fun e w' => e = .returned (.slice oa n n) ∧ w' = w := by
  have g1 : (n : Int) ≤ (cap : Int) := by omega
  go_enter Try.func43, Try.ntmps43
  go_wp2
  go_ret
  exact ⟨rfl, rfl⟩
end Go.Proofs.Ytaogpifcfmjcbaa
end
section
namespace Go.Proofs.Ytaogpifcfmjcbaa
open Go.RowKit
set_option linter.unusedSimpArgs false
set_option linter.unusedVariables false
attribute [local go_sem] Rg.leads_value Rg.leads_skip Rg.leads_enter Rg.brings_value Rg.brings_skip Rg.brings_enter Rg.bringsG_value Rg.bringsG_enter Rg.once_normal Rg.once_exit Rg.once_ret Rg.once_panic Rg.once_goto Rg.bringsS_value Rg.bringsS_skip Rg.bringsS_enter Rg.still_value Rg.still_skip Rg.still_enter
def BxS (Bx : Nat) (rn : Nat → SR) (w0 : World) (s : Nat) (W : World) : Prop := W.heap[Bx]? = some (.cells (SR.cs (rn s)).toArray 35 (0, 0)) ∧ Go1 Bx w0 W
section
variable {Bx : Nat} {rn : Nat → SR} {w0 : World} {s : Nat} {W : World}
theorem BxS.cell (h : BxS Bx rn w0 s W) (k : Nat) : W.cell? ⟨Bx, k, none⟩ = (SR.cs (rn s))[k]? := by rw [Rg.blk_cells h.1]; simp
theorem BxS.free (h : BxS Bx rn w0 s W) : ∀ k, W.frozen? ⟨Bx, k, none⟩ = false := Rg.blk_free h.1
theorem BxS.set (h : BxS Bx rn w0 s W) {k : Nat} {u : Value} (hr : (SR.cs (rn s)).set k u = SR.cs (rn (s + 1))) : BxS Bx rn w0 (s + 1) (W.setCell ⟨Bx, k, none⟩ u) :=
  ⟨by rw [← hr]; exact cells_set k u h.1, h.2.trans (Go1.set Bx k W u)⟩
end
def r1n (r : SR) : Nat → SR
  | 0 => r
  | 1 => r
  | 2 => r
  | 3 => r
  | 4 => r
  | 5 => { r with cols := r.cols.clip }
  | 6 => { r with cols := r.cols.clip, columns := r.columns.clip }
  | _ => { r with cols := r.cols.clip, columns := r.columns.clip, rows := r.rows.clip }
def r2n (r : SR) : Nat → SR
  | 0 => r
  | 1 => r
  | 2 => r
  | 3 => r
  | 4 => r
  | 5 => { r with sets := r.sets.clip }
  | 6 => { r with sets := r.sets.clip, group := r.group.clip }
  | _ => { r with sets := r.sets.clip, group := r.group.clip, items := r.items.clip }
structure CI (S : Nat → Prop) (w : World) (r : SR) (W : World) : Prop where
  cl : Cl (fun b => S b ∧ b < w.heap.size) w W
  b : W.heap[w.heap.size]? = some (.cells (SR.cs r).toArray 35 (0, 0))
  z : W.heap[w.heap.size + 1]? = some (.cells zeroS.toArray 35 (0, 0))
section
variable {S : Nat → Prop} {w W W' : World} {r : SR}
theorem CI.lt (h : CI S w r W) : w.heap.size + 1 < W.heap.size := (Array.getElem?_eq_some_iff.1 h.z).1
theorem CI.go (h : CI S w r W) (hc : Cl (fun b => S b ∧ b < w.heap.size) W W') : CI S w r W' := by
  have hl := h.lt
  exact ⟨h.cl.trans hc, by rw [hc.block _ (by omega) (fun hh => by have := hh.2; omega)]; exact h.b, by rw [hc.block _ hl (fun hh => by have := hh.2; omega)]; exact h.z⟩
theorem CI.gr (h : CI S w r W) (hg : Gr W W') : CI S w r W' := h.go (Cl.of hg)
theorem CI.box {r' : SR} (h : CI S w r W) (hb : W'.heap[w.heap.size]? = some (.cells (SR.cs r').toArray 35 (0, 0))) (hg : Go1 w.heap.size W W') : CI S w r' W' := by
  have hl := h.lt
  exact ⟨h.cl.new hg.os hg.tape hg.output hg.size (fun b hb => hg.get (by omega) (by omega)), hb, by rw [hg.get hl (by omega)]; exact h.z⟩
theorem CI.cell (h : CI S w r W) (k : Nat) : W.cell? ⟨w.heap.size, k, none⟩ = (SR.cs r)[k]? := by rw [Rg.blk_cells h.b]; simp
theorem CI.free (h : CI S w r W) : ∀ k, W.frozen? ⟨w.heap.size, k, none⟩ = false := Rg.blk_free h.b
theorem CI.cut (h : CI S w r W) {b k : Nat} {oa : Option Addr} {n c : Nat} (hc : W.cell? ⟨b, k, none⟩ = some (.slice oa n c)) (hS : S b ∧ b < w.heap.size) : CI S w r (W.setCell ⟨b, k, none⟩ (.slice oa n n)) :=
  h.go (Cl.clip hc (Nat.le_refl _) hS)
end
structure LsAt (S : Nat → Prop) (w W : World) (LL : List (List Ex)) (g m c : Nat) : Prop where
  n : m = LL.length
  small : m ≤ 2000002
  cap : m ≤ c
  lo : w.heap.size + 2 ≤ g
  hi : g < W.heap.size
  row : ∃ rs, Es kRow (fun b => S b ∧ b < w.heap.size) W LL rs ∧ RowF kRow.f kRow.n W g 0 rs
theorem LsAt.cl {S : Nat → Prop} {w W W' : World} {LL : List (List Ex)} {g m c : Nat} (h : LsAt S w W LL g m c) (hc : Cl (fun b => S b ∧ b < w.heap.size) W W') : LsAt S w W' LL g m c := by
  obtain ⟨rs, h1, h2⟩ := h.row
  have hlo := h.lo
  refine ⟨h.n, h.small, h.cap, h.lo, Nat.lt_of_lt_of_le h.hi hc.size, rs, ⟨h1.1, fun k a b => ?_⟩, fun k hk j u hu => ?_⟩
  · have h3 : KsAt kX (fun b => S b ∧ b < w.heap.size) W LL[k] rs[k] := h1.2 k a b
    exact h3.cl kX_ok hc rfl rfl h3.2.1.1
  · rw [World.cell?_of_block (w := W) (hc.block g h.hi (fun hh => by have := hh.2; omega))]
    exact h2 k hk j u hu
theorem LsAt.get {S : Nat → Prop} {w W : World} {LL : List (List Ex)} {g m c : Nat} (h : LsAt S w W LL g m c) (k : Nat) (hk : k < LL.length) : ∃ lk : Slc, KsAt kX (fun b => S b ∧ b < w.heap.size) W LL[k] lk ∧ W.cell? ⟨g, k, none⟩ = some (.slice lk.oa lk.n lk.cap) := by
  obtain ⟨rs, h1, h2⟩ := h.row
  have hkr : k < rs.length := by rw [h1.1]; exact hk
  refine ⟨rs[k], h1.2 k hk hkr, ?_⟩
  have h3 := h2 k hkr 0 (Slc.val rs[k]) rfl
  have e : 0 + k * kRow.n + 0 = k := by show 0 + k * 1 + 0 = k; omega
  rw [e] at h3
  exact h3
theorem Es.cons {α β : Type} {K : Kd α β} {S : Nat → Prop} {w : World} {ys : List β} {rs : List α} {y : β} {r : α} (hy : K.E S w y r) (h : Es K S w ys rs) : Es K S w (y :: ys) (r :: rs) := by
  refine ⟨by simp [h.1], fun k h1 h2 => ?_⟩
  cases k with
  | zero => exact hy
  | succ k => exact h.2 k (by simpa using h1) (by simpa using h2)
theorem ks_getK {α β : Type} {K : Kd α β} {S : Nat → Prop} {W : World} {L : List β} {lk : Slc} (h : KsAt K S W L lk) (j : Nat) (hj : j < L.length) : ∃ b off rk, lk.oa = some ⟨b, off, none⟩ ∧ S b ∧ b < W.heap.size ∧ (∀ i, W.frozen? ⟨b, i, none⟩ = false) ∧ K.E S W L[j] rk ∧ ∀ i u, (K.f rk)[i]? = some u → W.cell? ⟨b, off + j * K.n + i, none⟩ = some u := by
  obtain ⟨h1, h2, rs, h3, h4⟩ := h
  have hjr : j < rs.length := by rw [h3.1]; exact hj
  rcases h4 with h4 | ⟨b, off, e, hbl, hs, hf, hr⟩
  · rw [h4] at hjr; simp at hjr
  · exact ⟨b, off, rs[j], e, hs, hbl, hf, h3.2 j hj hjr, fun i u hu => hr j hjr i u hu⟩
theorem lists_at {S : Nat → Prop} {w W : World} {x : Stm} {r : SR} (hx : StmAt (fun b => S b ∧ b < w.heap.size) W x r) (hz : w.heap.size + 2 ≤ W.heap.size) :
    ∃ g m c W', (Builtin.append_ #[25, 25] 25 #[.slice (some ⟨W.heap.size, 0, none⟩) 2 2, r.rows.val]).run Try.prog (W.alloc (.cells #[r.sets.val, r.group.val] 26)) = .ok (.slice (some ⟨g, 0, none⟩) m c) W' ∧ Gr W W' ∧ LsAt S w W' (x.sets :: x.group :: x.rows) g m c := by
  have hA := (Gr.refl W).alloc (.cells #[r.sets.val, r.group.val] 26)
  obtain ⟨WA, hWA⟩ : ∃ WA, W.alloc (.cells #[r.sets.val, r.group.val] 26) = WA := ⟨_, rfl⟩
  have hB : WA.heap[W.heap.size]? = some (.cells #[r.sets.val, r.group.val] 26 (0, 0)) := by rw [← hWA]; exact alloc_at _ _
  rw [hWA] at hA ⊢
  have hzA : W.heap.size < WA.heap.size := by rw [← hWA]; simp
  have hxA := hx.of hA.size (fun b _ hb => hA.block b hb)
  obtain ⟨hn, hfit, rs, hes, hrow⟩ := hxA.rows
  obtain ⟨i, z, i1, i2, i3, i4, i5⟩ := kt_row.info
  have olds : ∀ j u, [r.sets.val, r.group.val][j]? = some u → WA.cell? ((⟨W.heap.size, 0, none⟩ : Addr).add j) = some u := fun j u hu => by
    rw [addN, Nat.zero_add, Rg.blk_cells hB]; simpa using hu
  have hEs : Es kRow (fun b => S b ∧ b < w.heap.size) WA (x.sets :: x.group :: x.rows) (r.sets :: r.group :: rs) := Es.cons hxA.sets (Es.cons hxA.group hes)
  have hb2 := hfit.2
  by_cases h0 : r.rows.n = 0
  · have hr0 : x.rows = [] := List.eq_nil_of_length_eq_zero (by rw [← hn]; exact h0)
    have hrs : rs = [] := List.eq_nil_of_length_eq_zero (by rw [hes.1, hr0]; rfl)
    have hsrc : Src Try.prog i.size 25 r.rows.val 0 [] WA := by
      unfold Slc.val
      rw [h0]
      cases r.rows.oa with
      | none => exact Src.ofNil WA kt_row.under _
      | some ad => exact Src.ofSlice WA kt_row.under ad 0 _ [] (by simp) (fun j u hu => by simp at hu) (fun u hu => by simp at hu)
    refine ⟨W.heap.size, 2, 2, WA, run_append_nothing WA _ _ _ 26 i kt_row.under i1 _ 2 2 (Nat.le_refl _) _ hsrc, hA, ⟨by rw [hr0]; rfl, by decide, Nat.le_refl _, hz, hzA, _, hEs, ?_⟩⟩
    rw [hrs]
    intro k hk j u hu
    rcases k with _ | _ | k
    · rcases j with _ | j
      · rw [Rg.blk_cells hB]; exact hu
      · simp [kRow, lF] at hu
    · rcases j with _ | j
      · rw [Rg.blk_cells hB]; exact hu
      · simp [kRow, lF] at hu
    · simp at hk; omega
  · rcases hrow with h1 | ⟨b, off, hoa, hbl, hSb, hfr, hrf⟩
    · exfalso; apply h0; rw [hn, ← hes.1, h1]; rfl
    have hlr : rs.length = r.rows.n := by rw [hes.1, hn]
    unfold Slc.val at *
    rw [hoa]
    obtain ⟨v', w', hrun, hown, hgr⟩ := run_append_arg_grows (P := Try.prog) WA 25 25 26 i z 1 24 kt_row.under i1 i2 i3 i4 i5 (by decide) ⟨W.heap.size, 0, none⟩ 2 2 _ rfl olds ⟨b, off, none⟩ r.rows.n r.rows.cap (cellsF kRow.f rs) (by rw [kRow_ok.enc.cells_len, hlr]; rfl) (hrf.cells kRow_ok.enc) (by omega) (by unfold maxLen; omega) (by omega)
    have hg2 : Gr WA w' := ⟨hgr.os, hgr.tape, hgr.output, hgr.size, fun i hi => hgr.block i hi (by simp)⟩
    have hown' : w'.ownsRow WA.heap.size kRow.T kRow.n v' (r.sets :: r.group :: rs).length (cellsF kRow.f (r.sets :: r.group :: rs)) := by
      rw [show (r.sets :: r.group :: rs).length = 2 + r.rows.n by simp [hlr]; omega]
      exact hown
    obtain ⟨g, cap, hv, hg, hgl, hc⟩ := own_form hown' (by simp)
    obtain ⟨oa, c, hv2, hat, hc2, _⟩ := own_at kRow_ok.enc hown'
    rw [hv] at hv2
    cases hv2
    rcases (hat : AtF kRow.f kRow.n w' (some ⟨g, 0, none⟩) _) with h1 | ⟨b2, off2, e2, hb2', hrow2⟩
    · cases h1
    cases e2
    subst hv
    have e : (r.sets :: r.group :: rs).length = 2 + r.rows.n := by simp [hlr]; omega
    refine ⟨g, (r.sets :: r.group :: rs).length, cap, w', by rw [hrun], hA.trans hg2, ⟨by simp [hes.1], by rw [e]; omega, hc, by omega, hgl, _, hEs.of kRow_ok hg2.size (fun b _ hb => hg2.block b hb), hrow2⟩⟩
theorem still_load {P : Program} {w : World} {o : Oper} {a : Act} {ty : TypeId} {x : Operand} (ho : o.op = .load ty x) (b off : Nat) (hx : a.eval x = .pointer (some ⟨b, off, none⟩)) (cs : List Value) (hc : ∀ j v, cs[j]? = some v → w.cell? ⟨b, off + j, none⟩ = some v) (d : TypeDesc)
    (hu : P.underlying ty = some d) (hd : d.isRow = true) (hi : (P.info? ty).map (·.size) = some cs.length) : Rg.Still w (.agg cs.toArray) ((execOp a.eval o).run P w) := by
  unfold execOp
  simp only [ho, hx, Instr.loadAt, Instr.sureAddr, Sem.run_bind, Sem.run_pure, Result.andThen_ok, run_loadVar_mid w b off ty cs d hc hu hd hi]
  exact ⟨rfl, rfl⟩
theorem brings_store {P : Program} {w : World} {o : Oper} {a : Act} {ty : TypeId} {x y : Operand} {R : Value → World → Prop} (ho : o.op = .store ty x y) (b off : Nat) (cells : Array Value) (hx : a.eval x = .pointer (some ⟨b, off, none⟩)) (hy : a.eval y = .agg cells)
    (ht : w.there b off cells.size) (hi : (P.info? ty).map (·.size) = some cells.size) (h1 : cells.all (·.oneCell') = true) (h : R undef (w.setCells b off cells.toList)) : Rg.BringsS P R ((execOp a.eval o).run P w) := by
  unfold execOp
  simp only [ho, hx, hy, Instr.storeAt, Instr.sureAddr, Sem.run_bind, Sem.run_pure, Result.andThen_ok, run_storeVar_mid w b off ty cells ht hi h1]
  exact h
theorem it_x (r : ItR) {i : Nat} {u : Value} (h : (xF r.x)[i]? = some u) : (itF r)[1 + i]? = some u := by
  have hi := (List.getElem?_eq_some_iff.1 h).1
  unfold itF
  rw [Nat.add_comm, List.getElem?_cons_succ, List.getElem?_append_left hi]
  exact h
theorem rf_x (r : RfR) {i : Nat} {u : Value} (h : (xF r.x)[i]? = some u) : (rF r)[2 + i]? = some u := by
  have hi := (List.getElem?_eq_some_iff.1 h).1
  unfold rF
  rw [show 2 + i = i + 1 + 1 by omega, List.getElem?_cons_succ, List.getElem?_cons_succ, List.getElem?_append_left hi]
  exact h
theorem or_x (r : OrR) {i : Nat} {u : Value} (h : (xF r.x)[i]? = some u) : (oF r)[0 + i]? = some u := by
  have hi := (List.getElem?_eq_some_iff.1 h).1
  unfold oF
  rw [Nat.zero_add, List.getElem?_append_left hi]
  exact h
theorem srw (r : SR) {i : Nat} {u : Value} (h : (xF r.wher)[i]? = some u) : (SR.cs r)[13 + i]? = some u := by
  have hi := (List.getElem?_eq_some_iff.1 h).1
  have e : r.hd.length = 13 := rfl
  unfold SR.cs
  rw [List.getElem?_append_right (by omega), show 13 + i - r.hd.length = i by omega, List.getElem?_append_left hi]
  exact h
theorem srh (r : SR) {i : Nat} {u : Value} (h : (xF r.having)[i]? = some u) : (SR.cs r)[25 + i]? = some u := by
  have hi := (List.getElem?_eq_some_iff.1 h).1
  have e : r.hd.length = 13 := rfl
  have e2 : (xF r.wher).length = 12 := rfl
  unfold SR.cs
  rw [List.getElem?_append_right (by omega), List.getElem?_append_right (by omega), show 25 + i - r.hd.length - (xF r.wher).length = i by omega, List.getElem?_append_left hi]
  exact h
def XR.clp (r : XR) : XR := { r with cap := r.n }
def SR.c2w (r : SR) : SR := { r.c2 with wher := r.wher.clp }
def WS (S : Nat → Prop) (w : World) (r : SR) (s : Nat) (v : Nat → Value) (W : World) : Prop := CI S w (if s ≤ 2 then r.c2 else r.c2w) W ∧ (1 ≤ s → v 2 = XR.val r.wher.clp) ∧ (2 ≤ s → v 5 = XR.val r.having.clp)
section
variable {S : Nat → Prop} {w W W' : World} {r : SR} {v : Nat → Value} {u : Value}
theorem WS.ci {s : Nat} (h : WS S w r s v W) (hs : s ≤ 2) : CI S w r.c2 W := by have h1 := h.1; rw [if_pos hs] at h1; exact h1
theorem ws0 (h : CI S w r.c2 W) : WS S w r 0 v W := ⟨by rw [if_pos (by decide)]; exact h, fun h => absurd h (by decide), fun h => absurd h (by decide)⟩
theorem ws1 (h : CI S w r.c2 W') (hu : u = XR.val r.wher.clp) : WS S w r 1 (Rg.upd v 2 u) W' := ⟨by rw [if_pos (by decide)]; exact h, fun _ => by rw [upd_same]; exact hu, fun h => absurd h (by decide)⟩
theorem ws2 (hw : WS S w r 1 v W) (h : CI S w r.c2 W') (hu : u = XR.val r.having.clp) : WS S w r 2 (Rg.upd v 5 u) W' := ⟨by rw [if_pos (by decide)]; exact h, fun _ => by rw [← hw.2.1 (by decide)]; simp [Rg.upd], fun _ => by rw [upd_same]; exact hu⟩
theorem ws3 (hw : WS S w r 2 v W) (h : CI S w r.c2w W') : WS S w r 3 v W' := ⟨by rw [if_neg (by decide)]; exact h, fun _ => hw.2.1 (by decide), fun _ => hw.2.2 (by decide)⟩
theorem CI.part {r r' : SR} {o : Nat} {vs : List Value} (h : CI S w r W) (hp : putL (SR.cs r) o vs = SR.cs r') : CI S w r' (W.setCells w.heap.size o vs) :=
  h.box (by rw [← hp]; exact setCells_heap vs o _ _ h.b) (setCells_go vs o W)
end
theorem meas_step (N j : Nat) (h : j < N) : N - (intOf (.int .i64 ((j : Int) + 1))).toNat < N - (intOf (.int .i64 (j : Int))).toNat := by simp [intOf]; omega
theorem next_int (j : Nat) : Value.int .i64 ((j : Int) + 1) = .int .i64 ((j + 1 : Nat) : Int) := by push_cast; rfl
theorem wrap_next (N j : Nat) (h : j < N) (hN : N ≤ 2000002) : wrap64 ((j : Int) + 1) = (j : Int) + 1 := by unfold wrap64; omega
theorem lt_dec (N j : Nat) (h : j < N) : decide ((j : Int) < (N : Int)) = true := by rw [decide_eq_true_iff]; omega
theorem lt_cast (N j : Nat) (h : j < N) : (j : Int) < (N : Int) := by omega
theorem nlt_dec (N j : Nat) (h : ¬ j < N) : decide ((j : Int) < (N : Int)) = false := by rw [decide_eq_false_iff_not]; omega
end Go.Proofs.Ytaogpifcfmjcbaa
end
section
namespace Go.Proofs.Ytaogpifcfmjcbaa
open Go.RowKit
set_option linter.unusedSimpArgs false
set_option linter.unusedVariables false
attribute [local go_sem] Rg.leads_value Rg.leads_skip Rg.leads_enter Rg.brings_value Rg.brings_skip Rg.brings_enter Rg.bringsG_value Rg.bringsG_enter Rg.once_normal Rg.once_exit Rg.once_ret Rg.once_panic Rg.once_goto Rg.bringsS_value Rg.bringsS_skip Rg.bringsS_enter Rg.still_value Rg.still_skip Rg.still_enter
set_option maxHeartbeats 64000000 in
set_option maxRecDepth 100000 in
theorem clip_stm (x : Stm) (r : SR) (S : Nat → Prop) (w : World) (hx : StmAt S w x r) : Calls Try.prog 17 #[SR.val r] w fun e w' => e = .returned (SR.val r.c3) ∧ Cl S w w' := by
  have hx1 : StmAt (fun b => S b ∧ b < w.heap.size) w x r := hx.mono (fun b hb hs => ⟨hs, hb⟩)
  have HX := hid hx1
  have f1 := hx.cols.2.1.1
  have f2 := hx.columns.2.1.1
  have f3 := hx.rows.2.1.1
  have f4 := hx.refs.2.1.1
  have f5 := hx.sets.2.1.1
  have f6 := hx.group.2.1.1
  have f7 := hx.items.2.1.1
  have f8 := hx.order.2.1.1
  have F := hid (And.intro f5 (And.intro f6 (And.intro f7 f8)))
  clear hx hx1 f5 f6 f7 f8
  unfold SR.val
  go_enter Try.func17, Try.ntmps17
  go_wp2_with fail
  obtain ⟨w0, hw0⟩ : ∃ w0, (w.alloc (.cells (SR.cs r).toArray 35)).alloc (.cells zeroS.toArray 35) = w0 := ⟨_, rfl⟩
  change Code.wp _ _ _ _ ((w.alloc (.cells (SR.cs r).toArray 35)).alloc (.cells zeroS.toArray 35))
  have hA : Gr w w0 := by rw [← hw0]; exact ((Gr.refl w).alloc _).alloc _
  have hB0 : w0.heap[w.heap.size]? = some (.cells (SR.cs r).toArray 35 (0, 0)) := by rw [← hw0, ((Gr.refl _).alloc _).block _ (by simp)]; exact alloc_at _ _
  have hR0 : w0.heap[w.heap.size + 1]? = some (.cells zeroS.toArray 35 (0, 0)) := by rw [← hw0]; exact alloc_at' _ _ _ (World.size_alloc _ _).symm
  rw [hw0]
  have HA := hid hA
  have HB0 := hid hB0
  have HR0 := hid hR0
  clear hw0 hA hB0 hR0
  refine Rg.region_chain 19 [2, 5, 8, 11, 13, 15, 17] [(1, 13), (4, 13), (7, 13), (10, 13)] (fun s _ W => BxS w.heap.size (r1n r) w0 s W) [some (.pointer (some ⟨w.heap.size, 5, none⟩)), some (.slice r.cols.oa r.cols.n r.cols.cap), some (.slice r.cols.oa r.cols.n r.cols.n), some (.pointer (some ⟨w.heap.size, 6, none⟩)), some (.slice r.columns.oa r.columns.n r.columns.cap), some (.slice r.columns.oa r.columns.n r.columns.n), some (.pointer (some ⟨w.heap.size, 7, none⟩)), some (.slice r.rows.oa r.rows.n r.rows.cap), some (.slice r.rows.oa r.rows.n r.rows.n), some (.pointer (some ⟨w.heap.size, 12, none⟩)), some (.slice r.refs.oa r.refs.n r.refs.cap), some (.slice r.refs.oa r.refs.n r.refs.n), some (.pointer (some ⟨w.heap.size, 5, none⟩)), some undef, some (.pointer (some ⟨w.heap.size, 6, none⟩)), some undef, some (.pointer (some ⟨w.heap.size, 7, none⟩)), some undef, some (.pointer (some ⟨w.heap.size, 12, none⟩))]
    (fun _ => ⟨HB0.out, .of ((Gr.refl _).drew)⟩) (by kernel_rfl) (by kernel_rfl) (by kernel_rfl) (by kernel_rfl) (fun _ _ d _ _ h => by cases d <;> exact h) ?_
  intro OPS HOPS vx
  clear HOPS
  simp only [List.take_succ_cons, List.take_zero, Rg.wpC, Rg.wpS, Option.getD_some, Option.getD_none, Act.put, List.setIfInBounds_toArray, List.set_cons_zero, List.set_cons_succ, show List.contains [2, 5, 8, 11, 13, 15, 17] 0 = false from rfl, show List.contains [2, 5, 8, 11, 13, 15, 17] 1 = false from rfl, show List.contains [2, 5, 8, 11, 13, 15, 17] 2 = true from rfl, show List.contains [2, 5, 8, 11, 13, 15, 17] 3 = false from rfl, show List.contains [2, 5, 8, 11, 13, 15, 17] 4 = false from rfl, show List.contains [2, 5, 8, 11, 13, 15, 17] 5 = true from rfl, show List.contains [2, 5, 8, 11, 13, 15, 17] 6 = false from rfl, show List.contains [2, 5, 8, 11, 13, 15, 17] 7 = false from rfl, show List.contains [2, 5, 8, 11, 13, 15, 17] 8 = true from rfl, show List.contains [2, 5, 8, 11, 13, 15, 17] 9 = false from rfl, show List.contains [2, 5, 8, 11, 13, 15, 17] 10 = false from rfl, show List.contains [2, 5, 8, 11, 13, 15, 17] 11 = true from rfl, show List.contains [2, 5, 8, 11, 13, 15, 17] 12 = false from rfl, show List.contains [2, 5, 8, 11, 13, 15, 17] 13 = true from rfl, show List.contains [2, 5, 8, 11, 13, 15, 17] 14 = false from rfl, show List.contains [2, 5, 8, 11, 13, 15, 17] 15 = true from rfl, show List.contains [2, 5, 8, 11, 13, 15, 17] 16 = false from rfl, show List.contains [2, 5, 8, 11, 13, 15, 17] 17 = true from rfl, show List.contains [2, 5, 8, 11, 13, 15, 17] 18 = false from rfl, Bool.false_eq_true, if_false, if_true, Nat.reduceAdd]
  refine ⟨?_, ?_, ?_, ?_, ?_, ?_, ?_, ?_, ?_, ?_, ?_, ?_, ?_, ?_, ?_, ?_, ?_, ?_, ?_, ?_⟩
  · refine sc_still (by rfl) (by rfl) (fun s' W _ hS => ?_)
    clear hS
    go_simp
  · refine sc_still (by rfl) (by rfl) (fun s' W hlim hS => ?_)
    have hs4 : s' ≤ 4 := hlim 13 (by simp)
    have kc : W.cell? ⟨w.heap.size, 5, none⟩ = some (.slice r.cols.oa r.cols.n r.cols.cap) := by
      rcases s' with _ | _ | _ | _ | _ | s' <;> first | exact hS.cell 5 | omega
    clear hS
    go_simp
  · refine sc_call (by rfl) (by rfl) (fun W hS => ?_)
    have hK : BxS w.heap.size (r1n r) w0 (0 + 1) W := hS
    have HK := hid hK
    clear hS hK
    go_simp
    refine (clip_col _ _ _ f1 _).mono ?_
    rintro e w' ⟨rfl, hw⟩
    rw [hw]
    exact ⟨_, rfl, rfl, HK.out⟩
  · refine sc_still (by rfl) (by rfl) (fun s' W _ hS => ?_)
    clear hS
    go_simp
  · refine sc_still (by rfl) (by rfl) (fun s' W hlim hS => ?_)
    have hs4 : s' ≤ 4 := hlim 13 (by simp)
    have kc : W.cell? ⟨w.heap.size, 6, none⟩ = some (.slice r.columns.oa r.columns.n r.columns.cap) := by
      rcases s' with _ | _ | _ | _ | _ | s' <;> first | exact hS.cell 6 | omega
    clear hS
    go_simp
  · refine sc_call (by rfl) (by rfl) (fun W hS => ?_)
    have hK : BxS w.heap.size (r1n r) w0 (1 + 1) W := hS
    have HK := hid hK
    clear hS hK
    go_simp
    refine (clip_str _ _ _ f2 _).mono ?_
    rintro e w' ⟨rfl, hw⟩
    rw [hw]
    exact ⟨_, rfl, rfl, HK.out⟩
  · refine sc_still (by rfl) (by rfl) (fun s' W _ hS => ?_)
    clear hS
    go_simp
  · refine sc_still (by rfl) (by rfl) (fun s' W hlim hS => ?_)
    have hs4 : s' ≤ 4 := hlim 13 (by simp)
    have kc : W.cell? ⟨w.heap.size, 7, none⟩ = some (.slice r.rows.oa r.rows.n r.rows.cap) := by
      rcases s' with _ | _ | _ | _ | _ | s' <;> first | exact hS.cell 7 | omega
    clear hS
    go_simp
  · refine sc_call (by rfl) (by rfl) (fun W hS => ?_)
    have hK : BxS w.heap.size (r1n r) w0 (2 + 1) W := hS
    have HK := hid hK
    clear hS hK
    go_simp
    refine (clip_row _ _ _ f3 _).mono ?_
    rintro e w' ⟨rfl, hw⟩
    rw [hw]
    exact ⟨_, rfl, rfl, HK.out⟩
  · refine sc_still (by rfl) (by rfl) (fun s' W _ hS => ?_)
    clear hS
    go_simp
  · refine sc_still (by rfl) (by rfl) (fun s' W hlim hS => ?_)
    have hs4 : s' ≤ 4 := hlim 13 (by simp)
    have kc : W.cell? ⟨w.heap.size, 12, none⟩ = some (.slice r.refs.oa r.refs.n r.refs.cap) := by
      rcases s' with _ | _ | _ | _ | _ | s' <;> first | exact hS.cell 12 | omega
    clear hS
    go_simp
  · refine sc_call (by rfl) (by rfl) (fun W hS => ?_)
    have hK : BxS w.heap.size (r1n r) w0 (3 + 1) W := hS
    have HK := hid hK
    clear hS hK
    go_simp
    refine (clip_ref _ _ _ f4 _).mono ?_
    rintro e w' ⟨rfl, hw⟩
    rw [hw]
    exact ⟨_, rfl, rfl, HK.out⟩
  · refine sc_still (by rfl) (by rfl) (fun s' W _ hS => ?_)
    clear hS
    go_simp
  · refine sc_call (by rfl) (by rfl) (fun W hS => ?_)
    have hK := hid (hS.set (k := 5) (u := .slice r.cols.oa r.cols.n r.cols.n) rfl)
    have kc : ∃ u, W.cell? ⟨w.heap.size, 5, none⟩ = some u := ⟨_, hS.cell 5⟩
    obtain ⟨u0, kc⟩ := kc
    have kf := hS.free
    clear hS
    go_simp
    exact hK.out
  · refine sc_still (by rfl) (by rfl) (fun s' W _ hS => ?_)
    clear hS
    go_simp
  · refine sc_call (by rfl) (by rfl) (fun W hS => ?_)
    have hK := hid (hS.set (k := 6) (u := .slice r.columns.oa r.columns.n r.columns.n) rfl)
    have kc : ∃ u, W.cell? ⟨w.heap.size, 6, none⟩ = some u := ⟨_, hS.cell 6⟩
    obtain ⟨u0, kc⟩ := kc
    have kf := hS.free
    clear hS
    go_simp
    exact hK.out
  · refine sc_still (by rfl) (by rfl) (fun s' W _ hS => ?_)
    clear hS
    go_simp
  · refine sc_call (by rfl) (by rfl) (fun W hS => ?_)
    have hK := hid (hS.set (k := 7) (u := .slice r.rows.oa r.rows.n r.rows.n) rfl)
    have kc : ∃ u, W.cell? ⟨w.heap.size, 7, none⟩ = some u := ⟨_, hS.cell 7⟩
    obtain ⟨u0, kc⟩ := kc
    have kf := hS.free
    clear hS
    go_simp
    exact hK.out
  · refine sc_still (by rfl) (by rfl) (fun s' W _ hS => ?_)
    clear hS
    go_simp
  intro W9 hS9
  simp only [List.drop_succ_cons, List.drop_zero]
  have k12 : W9.cell? ⟨w.heap.size, 12, none⟩ = some (.slice r.refs.oa r.refs.n r.refs.cap) := hS9.cell 12
  have kf := hS9.free
  have hci : CI S w r.c1 (W9.setCell ⟨w.heap.size, 12, none⟩ (.slice r.refs.oa r.refs.n r.refs.n)) := by
    have h0 : CI S w r w0 := ⟨.of HA.out, HB0.out, HR0.out⟩
    refine h0.box ?_ (hS9.2.trans (Go1.set _ _ _ _))
    have h1 := cells_set 12 (.slice r.refs.oa r.refs.n r.refs.n) hS9.1
    exact h1
  have HCI := hid hci
  clear hS9 hci HA HB0 HR0 f1 f2 f3 f4
  go_upto_region 2 with fail
  clear k12 kf
  generalize World.setCell W9 _ _ = W1 at *
  have hx1 := HX.out.cl HCI.out.cl (SR.c1_like HX.out)
  have k8 : W1.cell? ⟨w.heap.size, 8, none⟩ = some (.slice r.sets.oa r.sets.n r.sets.cap) := HCI.out.cell 8
  have k37 : W1.cell? ⟨w.heap.size, 37, none⟩ = some (.slice r.group.oa r.group.n r.group.cap) := HCI.out.cell 37
  have hA1 := HCI.out.gr ((Gr.refl W1).alloc (.cells #[r.sets.val, r.group.val] 26))
  have k7 : (W1.alloc (.cells #[.slice r.sets.oa r.sets.n r.sets.cap, .slice r.group.oa r.group.n r.group.cap] 26)).cell? ⟨w.heap.size, 7, none⟩ = some (.slice r.rows.oa r.rows.n r.rows.n) := hA1.cell 7
  obtain ⟨g, m, c, W2, hrun, hg2, hkl⟩ := lists_at hx1 HCI.out.lt
  have HRUN := hid hrun
  have HCI2 := hid (HCI.out.gr hg2)
  have HKL := hid hkl
  have hm2 := hkl.small
  have HMC := hid hkl.cap
  generalize x.sets :: x.group :: x.rows = LL at *
  clear hA1 hrun hg2 hkl hx1 HCI
  go_wp2_with (at_builtin; refine Lib.wpList_append_run _ rfl _ _ _ _ rfl _ _ rfl rfl _ _ HRUN.out ?_)
  go_loopw [35] (fun s35 wr => ∃ k : Nat, s35 = .int .i64 (k : Int) ∧ k ≤ m ∧ CI S w r.c1 wr ∧ LsAt S w wr LL g m c) (fun s35 _ => m - (intOf s35).toNat)
  · exact ⟨0, rfl, Nat.zero_le _, HCI2.out, HKL.out⟩
  · clear HCI2 HKL k8 k37 k7 HRUN
    obtain ⟨k, rfl, hk, hci, hks⟩ := hrel
    by_cases hkm : k < m
    · have t0 : decide ((k : Int) < (m : Int)) = true := lt_dec _ _ hkm
      have g1 : (k : Int) < (m : Int) := lt_cast _ _ hkm
      have hmc : m ≤ c := HMC.out
      have hwk : wrap64 ((k : Int) + 1) = (k : Int) + 1 := wrap_next _ _ hkm (by omega)
      have HE : Hid (∀ W, CI S w r.c1 W ∧ LsAt S w W LL g m c → (∃ k' : Nat, Value.int .i64 ((k : Int) + 1) = .int .i64 (k' : Int) ∧ k' ≤ m ∧ CI S w r.c1 W ∧ LsAt S w W LL g m c) ∧ m - (intOf (.int .i64 ((k : Int) + 1))).toNat < m - (intOf (.int .i64 (k : Int))).toNat) := hid (fun W h => ⟨⟨k + 1, next_int _, hkm, h⟩, meas_step _ _ hkm⟩)
      have hkL : k < LL.length := by rw [← hks.n]; exact hkm
      obtain ⟨lk, hlk, kc⟩ := hks.get k hkL
      generalize LL[k]'hkL = L at hlk
      have HLK := hid hlk
      have HKS := hid hks
      have HCI3 := hid hci
      have hlf := hlk.2.1.1
      have hlb := hlk.2.1.2
      clear hlk hks hci hkL hk hkm HMC
      go_wp2_with fail
      clear kc t0 g1 hmc hm2
      go_loopw [41] (fun s41 wq => ∃ j : Nat, s41 = .int .i64 (j : Int) ∧ j ≤ lk.n ∧ CI S w r.c1 wq ∧ LsAt S w wq LL g m c ∧ KsAt kX (fun b => S b ∧ b < w.heap.size) wq L lk) (fun s41 _ => lk.n - (intOf s41).toNat)
      · exact ⟨0, rfl, Nat.zero_le _, HCI3.out, HKS.out, HLK.out⟩
      · clear HCI3 HKS HLK
        obtain ⟨j, rfl, hj, hci, hks, hlk⟩ := hrel
        by_cases hjn : j < lk.n
        · have t1 : decide ((j : Int) < (lk.n : Int)) = true := lt_dec _ _ hjn
          have g2 : (j : Int) < (lk.n : Int) := lt_cast _ _ hjn
          have hwj : wrap64 ((j : Int) + 1) = (j : Int) + 1 := wrap_next _ _ hjn (by omega)
          obtain ⟨b, off, rk, hoa, hSb, hbz, hfr, hat, hrk⟩ := ks_getK hlk j (by rw [← hlk.1]; exact hjn)
          obtain ⟨y, hy⟩ : ∃ y, L[j]'(by rw [← hlk.1]; exact hjn) = y := ⟨_, rfl⟩
          rw [hy] at hat
          have HREC : Hid (Calls Try.prog 19 #[.agg (xF rk).toArray] wr fun e w' => e = .returned (XR.val { rk with cap := rk.n }) ∧ Cl (fun b => S b ∧ b < w.heap.size) wr w') := hid (clipped_any (Ex.sz y) y (Nat.le_refl _) rk _ wr hat)
          have HRK : Hid (∀ i u, (xF rk)[i]? = some u → wr.cell? ⟨b, off + j * 12 + i, none⟩ = some u) := hid hrk
          have HFR := hid hfr
          have HE2 : Hid (∀ W, Cl (fun b => S b ∧ b < w.heap.size) wr W → (∃ k' : Nat, Value.int .i64 ((j : Int) + 1) = .int .i64 (k' : Int) ∧ k' ≤ lk.n ∧ CI S w r.c1 W ∧ LsAt S w W LL g m c ∧ KsAt kX (fun b => S b ∧ b < w.heap.size) W L lk) ∧ lk.n - (intOf (.int .i64 ((j : Int) + 1))).toNat < lk.n - (intOf (.int .i64 (j : Int))).toNat) := hid (fun W h => ⟨⟨j + 1, next_int _, hjn, hci.go h, hks.cl h, hlk.cl kX_ok h rfl rfl hlf⟩, meas_step _ _ hjn⟩)
          have hbz0 := hid hbz
          clear hrk hat hfr hci hks hlk hy hj hjn hbz
          rw [hoa]
          go_wp2_with (guard_target =~ wpList _ _ _ (Oper.mk _ (Op.load 32 _) _ _ _ _ :: _) _ _; refine wpList_load_mid rfl 32 _ rfl b (off + j * 12) rfl (xF rk) _ HRK.out Try.underlying32 rfl (by kernel_rfl) ?_)
          refine HREC.out.mono ?_
          rintro e w5 ⟨rfl, hcl⟩
          have HSR := hid (same_row (b := b) (o := off + j * 12) (fun i u hu => HRK.out i u hu) hcl)
          have HFW := hid (fun i => (hcl.free b i hbz0.out).trans (HFR.out i))
          have HCL := hid hcl
          clear hcl HREC HRK HFR hbz0
          go_wp2_with (guard_target =~ wpList _ _ _ (Oper.mk _ (Op.store 32 _ _) _ _ _ _ :: _) _ _; refine st_mid (S := fun b => S b ∧ b < w.heap.size) (ty := 32) rfl rfl b (off + j * 12) _ rfl rfl (HSR.out) HFW.out hSb (by kernel_rfl) (by kernel_rfl) ?_; intro W5 hW5; have HC5 := hid (HE2.out W5 (HCL.out.trans hW5)); clear hW5 HSR HFW HCL hSb HE2)
          exact HC5.out
        · have t1 : decide ((j : Int) < (lk.n : Int)) = false := nlt_dec _ _ hjn
          have HC5 := hid (HE.out wr ⟨hci, hks⟩)
          have HWK := hid hwk
          clear hci hks hlk hj hlf hlb HE
          go_wp2_with fail
          first | exact HC5.out | (rw [HWK.out]; exact HC5.out)
    · have t0 : decide ((k : Int) < (m : Int)) = false := nlt_dec _ _ hkm
      have HCI3 := hid hci
      have k7 : wr.cell? ⟨w.heap.size, 7, none⟩ = some (.slice r.rows.oa r.rows.n r.rows.n) := hci.cell 7
      clear hci hks hk hm2 HMC
      go_wp2_with fail
      clear t0 k7
      go_loopw [57] (fun s9 wq => ∃ j : Nat, s9 = .int .i64 (j : Int) ∧ j ≤ r.rows.n ∧ CI S w r.c1 wq) (fun s9 _ => r.rows.n - (intOf s9).toNat)
      · exact ⟨0, rfl, Nat.zero_le _, HCI3.out⟩
      · clear HCI3
        obtain ⟨j, rfl, hj, hci⟩ := hrel
        have hst := HX.out.cl hci.cl (SR.c1_like HX.out)
        have hbd : r.rows.n ≤ 2000000 := hst.rows.2.1.2
        by_cases hjn : j < r.rows.n
        · have t1 : decide ((j : Int) < (r.rows.n : Int)) = true := lt_dec _ _ hjn
          have g1 : (j : Int) < (r.rows.n : Int) := lt_cast _ _ hjn
          have hwj : wrap64 ((j : Int) + 1) = (j : Int) + 1 := wrap_next _ _ hjn (by omega)
          obtain ⟨b, off, rk, hoa0, hSb, hbz, hfr, hat, hrk⟩ := ks_getK (K := kRow) hst.rows j (by rw [← hst.rows.1]; exact hjn)
          have hoa : r.rows.oa = some ⟨b, off, none⟩ := hoa0
          have cB : wr.cell? ⟨w.heap.size, 7, none⟩ = some (.slice r.rows.oa r.rows.n r.rows.n) := hci.cell 7
          rw [hoa] at cB
          have HE : Hid (∀ W, CI S w r.c1 W → (∃ k' : Nat, Value.int .i64 ((j : Int) + 1) = .int .i64 (k' : Int) ∧ k' ≤ r.rows.n ∧ CI S w r.c1 W) ∧ r.rows.n - (intOf (.int .i64 ((j : Int) + 1))).toNat < r.rows.n - (intOf (.int .i64 (j : Int))).toNat) := hid (fun W h => ⟨⟨j + 1, next_int _, hjn, h⟩, meas_step _ _ hjn⟩)
          have HWJ := hid hwj
          have cK : wr.cell? ⟨b, off + j, none⟩ = some (.slice rk.oa rk.n rk.cap) := by
            have h := hrk 0 (Slc.val rk) rfl
            have e : off + j * kRow.n + 0 = off + j := by show off + j * 1 + 0 = _; omega
            rw [e] at h
            exact h
          have hlf : rk.n ≤ rk.cap := (hat : KsAt kX _ _ _ rk).2.1.1
          have fK := hfr (off + j)
          have HFI : Hid (∀ W, Gr wr W → (∃ k' : Nat, Value.int .i64 ((j : Int) + 1) = .int .i64 (k' : Int) ∧ k' ≤ r.rows.n ∧ CI S w r.c1 (W.setCell ⟨b, off + j, none⟩ (.slice rk.oa rk.n rk.n))) ∧ r.rows.n - (intOf (.int .i64 ((j : Int) + 1))).toNat < r.rows.n - (intOf (.int .i64 (j : Int))).toNat) := hid (fun W hg => HE.out _ ((hci.gr hg).cut (hg.keep cK) hSb))
          clear hrk hat hst hbd hj hjn hci HE hoa0 hSb
          go_wp2_with fail
          clear t1
          refine Rg.region_chain 10 [8] [] (fun _ _ W => Gr wr W) [some (.pointer (some ⟨w.heap.size, 7, none⟩)), some (.slice (some ⟨b, off, none⟩) r.rows.n r.rows.n), some (.int .i64 (j : Int)), some (.pointer (some ⟨w.heap.size, 7, none⟩)), some (.slice (some ⟨b, off, none⟩) r.rows.n r.rows.n), some (.int .i64 (j : Int)), some (.pointer (some ⟨b, off + j, none⟩)), some (.slice rk.oa rk.n rk.cap), some (.slice rk.oa rk.n rk.n), some (.pointer (some ⟨b, off + j, none⟩))]
            (fun _ => ((Gr.refl _).drew)) (by kernel_rfl) (by kernel_rfl) (by kernel_rfl) (by kernel_rfl) (fun _ _ d _ _ h => by cases d <;> exact h) ?_
          intro OPS HOPS v
          clear HOPS
          simp only [List.take_succ_cons, List.take_zero, Rg.wpC, Rg.wpS, Option.getD_some, Option.getD_none, Act.put, List.setIfInBounds_toArray, List.set_cons_zero, List.set_cons_succ, show List.contains [8] 0 = false from rfl, show List.contains [8] 1 = false from rfl, show List.contains [8] 2 = false from rfl, show List.contains [8] 3 = false from rfl, show List.contains [8] 4 = false from rfl, show List.contains [8] 5 = false from rfl, show List.contains [8] 6 = false from rfl, show List.contains [8] 7 = false from rfl, show List.contains [8] 8 = true from rfl, show List.contains [8] 9 = false from rfl, Bool.false_eq_true, if_false, if_true, Nat.reduceAdd]
          refine ⟨?_, ?_, ?_, ?_, ?_, ?_, ?_, ?_, ?_, ?_, ?_⟩
          iterate 8
            · refine sc_still (by rfl) (by rfl) (fun s' W _ hS => ?_)
              have hg : Gr wr W := hS
              have c1 := hg.keep cB
              have c2 := hg.keep cK
              clear hg hS cB cK
              go_simp
          · refine sc_call (by rfl) (by rfl) (fun W hS => ?_)
            have HS : Hid (Gr wr W) := hid hS
            clear hS
            go_simp
            refine (clip_any _ _ _ hlf _).mono ?_
            rintro e w' ⟨rfl, hw⟩
            rw [hw]
            exact ⟨_, rfl, rfl, HS.out⟩
          · refine sc_still (by rfl) (by rfl) (fun s' W _ hS => ?_)
            have hg : Gr wr W := hS
            have c1 := hg.keep cB
            clear hg hS cB cK
            go_simp
          intro W hS
          simp only [List.drop_succ_cons, List.drop_zero]
          have hg : Gr wr W := hS
          have c2 := hg.keep cK
          have f2 := hg.keepF hbz fK
          have HFI2 := hid (HFI.out W hg)
          clear hS hg cB cK fK HFI hbz hfr
          go_wp2_with fail
          first | exact HFI2.out | (rw [HWJ.out]; exact HFI2.out)
        · have t1 : decide ((j : Int) < (r.rows.n : Int)) = false := nlt_dec _ _ hjn
          clear hst hbd
          have HCI3 := hid hci
          have k11 : wr.cell? ⟨w.heap.size, 11, none⟩ = some (.slice r.items.oa r.items.n r.items.cap) := hci.cell 11
          clear hci hj
          go_wp2_with fail
          clear t1 k11
          go_loopw [74] (fun s9 wq => ∃ j : Nat, s9 = .int .i64 (j : Int) ∧ j ≤ r.items.n ∧ CI S w r.c1 wq) (fun s9 _ => r.items.n - (intOf s9).toNat)
          · exact ⟨0, rfl, Nat.zero_le _, HCI3.out⟩
          · clear HCI3
            obtain ⟨j, rfl, hj, hci⟩ := hrel
            have hst := HX.out.cl hci.cl (SR.c1_like HX.out)
            have hbd : r.items.n ≤ 2000000 := hst.items.2.1.2
            by_cases hjn : j < r.items.n
            · have t1 : decide ((j : Int) < (r.items.n : Int)) = true := lt_dec _ _ hjn
              have g1 : (j : Int) < (r.items.n : Int) := lt_cast _ _ hjn
              have hwj : wrap64 ((j : Int) + 1) = (j : Int) + 1 := wrap_next _ _ hjn (by omega)
              obtain ⟨b, off, rk, hoa0, hSb, hbz, hfr, hat, hrk⟩ := ks_getK (K := kItem) hst.items j (by rw [← hst.items.1]; exact hjn)
              have hoa : r.items.oa = some ⟨b, off, none⟩ := hoa0
              have cB : wr.cell? ⟨w.heap.size, 11, none⟩ = some (.slice r.items.oa r.items.n r.items.cap) := hci.cell 11
              rw [hoa] at cB
              have HE : Hid (∀ W, CI S w r.c1 W → (∃ k' : Nat, Value.int .i64 ((j : Int) + 1) = .int .i64 (k' : Int) ∧ k' ≤ r.items.n ∧ CI S w r.c1 W) ∧ r.items.n - (intOf (.int .i64 ((j : Int) + 1))).toNat < r.items.n - (intOf (.int .i64 (j : Int))).toNat) := hid (fun W h => ⟨⟨j + 1, next_int _, hjn, h⟩, meas_step _ _ hjn⟩)
              have HWJ := hid hwj
              have HRK : Hid (∀ i u, (xF rk.x)[i]? = some u → wr.cell? ⟨b, off + j * 15 + 1 + i, none⟩ = some u) := hid (fun i u hu => by
                have h := hrk (1 + i) u (it_x rk hu)
                have e : off + j * kItem.n + (1 + i) = off + j * 15 + 1 + i := by show off + j * 15 + (1 + i) = _; omega
                rw [e] at h
                exact h)
              have hatx : Ex.At (fun b => S b ∧ b < w.heap.size) wr _ rk.x := hat.2.2.2
              obtain ⟨y, hy⟩ : ∃ y, (x.items[j]'(by rw [← hst.items.1]; exact hjn)).e = y := ⟨_, rfl⟩
              rw [hy] at hatx
              obtain ⟨rx, hrx⟩ : ∃ rx, rk.x = rx := ⟨_, rfl⟩
              rw [hrx] at hatx HRK
              have HREC := hid (fun W (h : Ex.At (fun b => S b ∧ b < w.heap.size) W y rx) => clipped_any (Ex.sz y) y (Nat.le_refl _) rx _ W h)
              have HAT := hid hatx
              have HFR := hid hfr
              have HB := hid hbz
              have HCI4 := hid hci
              have HSb := hid hSb
              clear hrk hat hatx hst hbd hj hjn hci hoa0 hfr hbz hSb hy hrx
              go_wp2_with fail
              clear t1
              have CB : Hid (∀ W, Cl (fun b => S b ∧ b < w.heap.size) wr W → W.cell? ⟨w.heap.size, 11, none⟩ = some (.slice (some ⟨b, off, none⟩) r.items.n r.items.cap)) := hid (fun W h => by
                have h1 : W.cell? ⟨w.heap.size, 11, none⟩ = some (.slice r.items.oa r.items.n r.items.cap) := (HCI4.out.go h).cell 11
                rw [hoa] at h1
                exact h1)
              clear cB
              obtain ⟨vk, hvk⟩ : ∃ vk, XR.val rx = vk := ⟨_, rfl⟩
              refine Rg.region_chain 12 [9] [(8, 9)] (Late 9 wr (RC (fun b => S b ∧ b < w.heap.size) rx)) [some (.pointer (some ⟨w.heap.size, 11, none⟩)), some (.slice (some ⟨b, off, none⟩) r.items.n r.items.cap), some (.int .i64 (j : Int)), some (.pointer (some ⟨w.heap.size, 11, none⟩)), some (.slice (some ⟨b, off, none⟩) r.items.n r.items.cap), some (.int .i64 (j : Int)), some (.pointer (some ⟨b, off + j * 15, none⟩)), some (.pointer (some ⟨b, off + j * 15 + 1, none⟩)), some vk, none, some (.pointer (some ⟨b, off + j * 15, none⟩)), some (.pointer (some ⟨b, off + j * 15 + 1, none⟩))]
                (fun _ => late0 ((Gr.refl _).drew)) (by kernel_rfl) (by kernel_rfl) (by kernel_rfl) (by kernel_rfl) (fun _ _ d _ _ h => by cases d <;> exact h) ?_
              intro OPS HOPS v
              clear HOPS
              simp only [List.take_succ_cons, List.take_zero, Rg.wpC, Rg.wpS, Option.getD_some, Option.getD_none, Act.put, List.setIfInBounds_toArray, List.set_cons_zero, List.set_cons_succ, show List.contains [9] 0 = false from rfl, show List.contains [9] 1 = false from rfl, show List.contains [9] 2 = false from rfl, show List.contains [9] 3 = false from rfl, show List.contains [9] 4 = false from rfl, show List.contains [9] 5 = false from rfl, show List.contains [9] 6 = false from rfl, show List.contains [9] 7 = false from rfl, show List.contains [9] 8 = false from rfl, show List.contains [9] 9 = true from rfl, show List.contains [9] 10 = false from rfl, show List.contains [9] 11 = false from rfl, Bool.false_eq_true, if_false, if_true, Nat.reduceAdd]
              refine ⟨?_, ?_, ?_, ?_, ?_, ?_, ?_, ?_, ?_, ?_, ?_, ?_, ?_⟩
              · refine sc_still (by rfl) (by rfl) (fun s' W _ hS => ?_)
                have c1 := CB.out W (late_cl hS)
                clear hS
                go_simp
              · refine sc_still (by rfl) (by rfl) (fun s' W _ hS => ?_)
                have c1 := CB.out W (late_cl hS)
                clear hS
                go_simp
              · refine sc_still (by rfl) (by rfl) (fun s' W _ hS => ?_)
                have c1 := CB.out W (late_cl hS)
                clear hS
                go_simp
              · refine sc_still (by rfl) (by rfl) (fun s' W _ hS => ?_)
                have c1 := CB.out W (late_cl hS)
                clear hS
                go_simp
              · refine sc_still (by rfl) (by rfl) (fun s' W _ hS => ?_)
                have c1 := CB.out W (late_cl hS)
                clear hS
                go_simp
              · refine sc_still (by rfl) (by rfl) (fun s' W _ hS => ?_)
                have c1 := CB.out W (late_cl hS)
                clear hS
                go_simp
              · refine sc_still (by rfl) (by rfl) (fun s' W _ hS => ?_)
                have c1 := CB.out W (late_cl hS)
                clear hS
                go_simp
              · refine sc_still (by rfl) (by rfl) (fun s' W _ hS => ?_)
                have c1 := CB.out W (late_cl hS)
                clear hS
                go_simp
              · refine sc_still (by rfl) (by rfl) (fun s' W hlim hS => ?_)
                have hs0 : s' ≤ 0 := hlim 9 (by simp)
                obtain rfl : s' = 0 := by omega
                have hg := late_0 hS
                rw [← hvk]
                exact still_load rfl b (off + j * 15 + 1) rfl (xF rx) (fun i u hu => hg.keep (HRK.out i u hu)) _ Try.underlying32 rfl (by kernel_rfl)
              · refine sc_new (by rfl) (by rfl) (fun W hS => ?_)
                have hg := late_0 hS
                have hH := HREC.out W (HAT.out.of hg.size (fun b _ hb => hg.block b hb))
                rw [hvk] at hH
                have HG := hid hg
                clear hS hg
                go_simp
                refine hH.mono ?_
                rintro e w' ⟨rfl, hu⟩
                exact ⟨_, rfl, late1 ⟨W, HG.out, by rw [upd_same]; exact ⟨rfl, hu⟩⟩⟩
              · refine sc_still (by rfl) (by rfl) (fun s' W _ hS => ?_)
                have c1 := CB.out W (late_cl hS)
                clear hS
                go_simp
              · refine sc_still (by rfl) (by rfl) (fun s' W _ hS => ?_)
                have c1 := CB.out W (late_cl hS)
                clear hS
                go_simp
              intro W hS
              have hclW := late_cl hS
              obtain ⟨W0, hg0, hu, _⟩ := late_1 hS
              generalize v 9 = vv at *
              subst hu
              simp only [List.drop_succ_cons, List.drop_zero]
              have HSR := hid (same_row (b := b) (o := off + j * 15 + 1) (fun i u hu => HRK.out i u hu) hclW)
              have HFW := hid (fun i => (hclW.free b i HB.out).trans (HFR.out i))
              have hSb := HSb.out
              have HFI := hid (fun W5 (h : Cl (fun b => S b ∧ b < w.heap.size) W W5) => HE.out W5 (HCI4.out.go (hclW.trans h)))
              clear hclW hS hg0 HREC HAT HFR HRK HB HCI4 HE CB HSb hvk hoa
              unfold XR.val
              go_wp2_with (guard_target =~ wpList _ _ _ (Oper.mk _ (Op.store 32 _ _) _ _ _ _ :: _) _ _; refine st_mid (S := fun b => S b ∧ b < w.heap.size) (ty := 32) rfl rfl b (off + j * 15 + 1) _ rfl rfl (HSR.out) HFW.out hSb (by kernel_rfl) (by kernel_rfl) ?_; intro W5 hW5; have HC5 := hid (HFI.out W5 hW5); clear hW5 HSR HFW hSb HFI)
              first | exact HC5.out | (rw [HWJ.out]; exact HC5.out)
            · have t1 : decide ((j : Int) < (r.items.n : Int)) = false := nlt_dec _ _ hjn
              clear hst hbd
              have HCI3 := hid hci
              have k12 : wr.cell? ⟨w.heap.size, 12, none⟩ = some (.slice r.refs.oa r.refs.n r.refs.n) := hci.cell 12
              clear hci hj
              go_wp2_with fail
              clear t1 k12
              go_loopw [93] (fun s9 wq => ∃ j : Nat, s9 = .int .i64 (j : Int) ∧ j ≤ r.refs.n ∧ CI S w r.c1 wq) (fun s9 _ => r.refs.n - (intOf s9).toNat)
              · exact ⟨0, rfl, Nat.zero_le _, HCI3.out⟩
              · clear HCI3
                obtain ⟨j, rfl, hj, hci⟩ := hrel
                have hst := HX.out.cl hci.cl (SR.c1_like HX.out)
                have hbd : r.refs.n ≤ 2000000 := hst.refs.2.1.2
                by_cases hjn : j < r.refs.n
                · have t1 : decide ((j : Int) < (r.refs.n : Int)) = true := lt_dec _ _ hjn
                  have g1 : (j : Int) < (r.refs.n : Int) := lt_cast _ _ hjn
                  have hwj : wrap64 ((j : Int) + 1) = (j : Int) + 1 := wrap_next _ _ hjn (by omega)
                  obtain ⟨b, off, rk, hoa0, hSb, hbz, hfr, hat, hrk⟩ := ks_getK (K := kRef) hst.refs j (by rw [← hst.refs.1]; exact hjn)
                  have hoa : r.refs.oa = some ⟨b, off, none⟩ := hoa0
                  have cB : wr.cell? ⟨w.heap.size, 12, none⟩ = some (.slice r.refs.oa r.refs.n r.refs.n) := hci.cell 12
                  rw [hoa] at cB
                  have HE : Hid (∀ W, CI S w r.c1 W → (∃ k' : Nat, Value.int .i64 ((j : Int) + 1) = .int .i64 (k' : Int) ∧ k' ≤ r.refs.n ∧ CI S w r.c1 W) ∧ r.refs.n - (intOf (.int .i64 ((j : Int) + 1))).toNat < r.refs.n - (intOf (.int .i64 (j : Int))).toNat) := hid (fun W h => ⟨⟨j + 1, next_int _, hjn, h⟩, meas_step _ _ hjn⟩)
                  have HWJ := hid hwj
                  have HRK : Hid (∀ i u, (xF rk.x)[i]? = some u → wr.cell? ⟨b, off + j * 14 + 2 + i, none⟩ = some u) := hid (fun i u hu => by
                    have h := hrk (2 + i) u (rf_x rk hu)
                    have e : off + j * kRef.n + (2 + i) = off + j * 14 + 2 + i := by show off + j * 14 + (2 + i) = _; omega
                    rw [e] at h
                    exact h)
                  have hatx : Ex.At (fun b => S b ∧ b < w.heap.size) wr _ rk.x := hat.2.2
                  obtain ⟨y, hy⟩ : ∃ y, (x.refs[j]'(by rw [← hst.refs.1]; exact hjn)).on_ = y := ⟨_, rfl⟩
                  rw [hy] at hatx
                  obtain ⟨rx, hrx⟩ : ∃ rx, rk.x = rx := ⟨_, rfl⟩
                  rw [hrx] at hatx HRK
                  have HREC := hid (fun W (h : Ex.At (fun b => S b ∧ b < w.heap.size) W y rx) => clipped_any (Ex.sz y) y (Nat.le_refl _) rx _ W h)
                  have HAT := hid hatx
                  have HFR := hid hfr
                  have HB := hid hbz
                  have HCI4 := hid hci
                  have HSb := hid hSb
                  clear hrk hat hatx hst hbd hj hjn hci hoa0 hfr hbz hSb hy hrx
                  go_wp2_with fail
                  clear t1
                  have CB : Hid (∀ W, Cl (fun b => S b ∧ b < w.heap.size) wr W → W.cell? ⟨w.heap.size, 12, none⟩ = some (.slice (some ⟨b, off, none⟩) r.refs.n r.refs.n)) := hid (fun W h => by
                    have h1 : W.cell? ⟨w.heap.size, 12, none⟩ = some (.slice r.refs.oa r.refs.n r.refs.n) := (HCI4.out.go h).cell 12
                    rw [hoa] at h1
                    exact h1)
                  clear cB
                  obtain ⟨vk, hvk⟩ : ∃ vk, XR.val rx = vk := ⟨_, rfl⟩
                  refine Rg.region_chain 12 [9] [(8, 9)] (Late 9 wr (RC (fun b => S b ∧ b < w.heap.size) rx)) [some (.pointer (some ⟨w.heap.size, 12, none⟩)), some (.slice (some ⟨b, off, none⟩) r.refs.n r.refs.n), some (.int .i64 (j : Int)), some (.pointer (some ⟨w.heap.size, 12, none⟩)), some (.slice (some ⟨b, off, none⟩) r.refs.n r.refs.n), some (.int .i64 (j : Int)), some (.pointer (some ⟨b, off + j * 14, none⟩)), some (.pointer (some ⟨b, off + j * 14 + 2, none⟩)), some vk, none, some (.pointer (some ⟨b, off + j * 14, none⟩)), some (.pointer (some ⟨b, off + j * 14 + 2, none⟩))]
                    (fun _ => late0 ((Gr.refl _).drew)) (by kernel_rfl) (by kernel_rfl) (by kernel_rfl) (by kernel_rfl) (fun _ _ d _ _ h => by cases d <;> exact h) ?_
                  intro OPS HOPS v
                  clear HOPS
                  simp only [List.take_succ_cons, List.take_zero, Rg.wpC, Rg.wpS, Option.getD_some, Option.getD_none, Act.put, List.setIfInBounds_toArray, List.set_cons_zero, List.set_cons_succ, show List.contains [9] 0 = false from rfl, show List.contains [9] 1 = false from rfl, show List.contains [9] 2 = false from rfl, show List.contains [9] 3 = false from rfl, show List.contains [9] 4 = false from rfl, show List.contains [9] 5 = false from rfl, show List.contains [9] 6 = false from rfl, show List.contains [9] 7 = false from rfl, show List.contains [9] 8 = false from rfl, show List.contains [9] 9 = true from rfl, show List.contains [9] 10 = false from rfl, show List.contains [9] 11 = false from rfl, Bool.false_eq_true, if_false, if_true, Nat.reduceAdd]
                  refine ⟨?_, ?_, ?_, ?_, ?_, ?_, ?_, ?_, ?_, ?_, ?_, ?_, ?_⟩
                  · refine sc_still (by rfl) (by rfl) (fun s' W _ hS => ?_)
                    have c1 := CB.out W (late_cl hS)
                    clear hS
                    go_simp
                  · refine sc_still (by rfl) (by rfl) (fun s' W _ hS => ?_)
                    have c1 := CB.out W (late_cl hS)
                    clear hS
                    go_simp
                  · refine sc_still (by rfl) (by rfl) (fun s' W _ hS => ?_)
                    have c1 := CB.out W (late_cl hS)
                    clear hS
                    go_simp
                  · refine sc_still (by rfl) (by rfl) (fun s' W _ hS => ?_)
                    have c1 := CB.out W (late_cl hS)
                    clear hS
                    go_simp
                  · refine sc_still (by rfl) (by rfl) (fun s' W _ hS => ?_)
                    have c1 := CB.out W (late_cl hS)
                    clear hS
                    go_simp
                  · refine sc_still (by rfl) (by rfl) (fun s' W _ hS => ?_)
                    have c1 := CB.out W (late_cl hS)
                    clear hS
                    go_simp
                  · refine sc_still (by rfl) (by rfl) (fun s' W _ hS => ?_)
                    have c1 := CB.out W (late_cl hS)
                    clear hS
                    go_simp
                  · refine sc_still (by rfl) (by rfl) (fun s' W _ hS => ?_)
                    have c1 := CB.out W (late_cl hS)
                    clear hS
                    go_simp
                  · refine sc_still (by rfl) (by rfl) (fun s' W hlim hS => ?_)
                    have hs0 : s' ≤ 0 := hlim 9 (by simp)
                    obtain rfl : s' = 0 := by omega
                    have hg := late_0 hS
                    rw [← hvk]
                    exact still_load rfl b (off + j * 14 + 2) rfl (xF rx) (fun i u hu => hg.keep (HRK.out i u hu)) _ Try.underlying32 rfl (by kernel_rfl)
                  · refine sc_new (by rfl) (by rfl) (fun W hS => ?_)
                    have hg := late_0 hS
                    have hH := HREC.out W (HAT.out.of hg.size (fun b _ hb => hg.block b hb))
                    rw [hvk] at hH
                    have HG := hid hg
                    clear hS hg
                    go_simp
                    refine hH.mono ?_
                    rintro e w' ⟨rfl, hu⟩
                    exact ⟨_, rfl, late1 ⟨W, HG.out, by rw [upd_same]; exact ⟨rfl, hu⟩⟩⟩
                  · refine sc_still (by rfl) (by rfl) (fun s' W _ hS => ?_)
                    have c1 := CB.out W (late_cl hS)
                    clear hS
                    go_simp
                  · refine sc_still (by rfl) (by rfl) (fun s' W _ hS => ?_)
                    have c1 := CB.out W (late_cl hS)
                    clear hS
                    go_simp
                  intro W hS
                  have hclW := late_cl hS
                  obtain ⟨W0, hg0, hu, _⟩ := late_1 hS
                  generalize v 9 = vv at *
                  subst hu
                  simp only [List.drop_succ_cons, List.drop_zero]
                  have HSR := hid (same_row (b := b) (o := off + j * 14 + 2) (fun i u hu => HRK.out i u hu) hclW)
                  have HFW := hid (fun i => (hclW.free b i HB.out).trans (HFR.out i))
                  have hSb := HSb.out
                  have HFI := hid (fun W5 (h : Cl (fun b => S b ∧ b < w.heap.size) W W5) => HE.out W5 (HCI4.out.go (hclW.trans h)))
                  clear hclW hS hg0 HREC HAT HFR HRK HB HCI4 HE CB HSb hvk hoa
                  unfold XR.val
                  go_wp2_with (guard_target =~ wpList _ _ _ (Oper.mk _ (Op.store 32 _ _) _ _ _ _ :: _) _ _; refine st_mid (S := fun b => S b ∧ b < w.heap.size) (ty := 32) rfl rfl b (off + j * 14 + 2) _ rfl rfl (HSR.out) HFW.out hSb (by kernel_rfl) (by kernel_rfl) ?_; intro W5 hW5; have HC5 := hid (HFI.out W5 hW5); clear hW5 HSR HFW hSb HFI)
                  first | exact HC5.out | (rw [HWJ.out]; exact HC5.out)
                · have t1 : decide ((j : Int) < (r.refs.n : Int)) = false := nlt_dec _ _ hjn
                  clear hst hbd
                  have HCI3 := hid hci
                  have k16 : wr.cell? ⟨w.heap.size, 38, none⟩ = some (.slice r.order.oa r.order.n r.order.cap) := hci.cell 38
                  clear hci hj
                  go_wp2_with fail
                  clear t1 k16
                  go_loopw [112] (fun s9 wq => ∃ j : Nat, s9 = .int .i64 (j : Int) ∧ j ≤ r.order.n ∧ CI S w r.c1 wq) (fun s9 _ => r.order.n - (intOf s9).toNat)
                  · exact ⟨0, rfl, Nat.zero_le _, HCI3.out⟩
                  · clear HCI3
                    obtain ⟨j, rfl, hj, hci⟩ := hrel
                    have hst := HX.out.cl hci.cl (SR.c1_like HX.out)
                    have hbd : r.order.n ≤ 2000000 := hst.order.2.1.2
                    by_cases hjn : j < r.order.n
                    · have t1 : decide ((j : Int) < (r.order.n : Int)) = true := lt_dec _ _ hjn
                      have g1 : (j : Int) < (r.order.n : Int) := lt_cast _ _ hjn
                      have hwj : wrap64 ((j : Int) + 1) = (j : Int) + 1 := wrap_next _ _ hjn (by omega)
                      obtain ⟨b, off, rk, hoa0, hSb, hbz, hfr, hat, hrk⟩ := ks_getK (K := kOrd) hst.order j (by rw [← hst.order.1]; exact hjn)
                      have hoa : r.order.oa = some ⟨b, off, none⟩ := hoa0
                      have cB : wr.cell? ⟨w.heap.size, 38, none⟩ = some (.slice r.order.oa r.order.n r.order.cap) := hci.cell 38
                      rw [hoa] at cB
                      have HE : Hid (∀ W, CI S w r.c1 W → (∃ k' : Nat, Value.int .i64 ((j : Int) + 1) = .int .i64 (k' : Int) ∧ k' ≤ r.order.n ∧ CI S w r.c1 W) ∧ r.order.n - (intOf (.int .i64 ((j : Int) + 1))).toNat < r.order.n - (intOf (.int .i64 (j : Int))).toNat) := hid (fun W h => ⟨⟨j + 1, next_int _, hjn, h⟩, meas_step _ _ hjn⟩)
                      have HWJ := hid hwj
                      have HRK : Hid (∀ i u, (xF rk.x)[i]? = some u → wr.cell? ⟨b, off + j * 13 + i, none⟩ = some u) := hid (fun i u hu => by
                        have h := hrk (0 + i) u (or_x rk hu)
                        have e : off + j * kOrd.n + (0 + i) = off + j * 13 + i := by show off + j * 13 + (0 + i) = _; omega
                        rw [e] at h
                        exact h)
                      have hatx : Ex.At (fun b => S b ∧ b < w.heap.size) wr _ rk.x := hat.2
                      obtain ⟨y, hy⟩ : ∃ y, (x.order[j]'(by rw [← hst.order.1]; exact hjn)).e = y := ⟨_, rfl⟩
                      rw [hy] at hatx
                      obtain ⟨rx, hrx⟩ : ∃ rx, rk.x = rx := ⟨_, rfl⟩
                      rw [hrx] at hatx HRK
                      have HREC := hid (fun W (h : Ex.At (fun b => S b ∧ b < w.heap.size) W y rx) => clipped_any (Ex.sz y) y (Nat.le_refl _) rx _ W h)
                      have HAT := hid hatx
                      have HFR := hid hfr
                      have HB := hid hbz
                      have HCI4 := hid hci
                      have HSb := hid hSb
                      clear hrk hat hatx hst hbd hj hjn hci hoa0 hfr hbz hSb hy hrx
                      go_wp2_with fail
                      clear t1
                      have CB : Hid (∀ W, Cl (fun b => S b ∧ b < w.heap.size) wr W → W.cell? ⟨w.heap.size, 38, none⟩ = some (.slice (some ⟨b, off, none⟩) r.order.n r.order.cap)) := hid (fun W h => by
                        have h1 : W.cell? ⟨w.heap.size, 38, none⟩ = some (.slice r.order.oa r.order.n r.order.cap) := (HCI4.out.go h).cell 38
                        rw [hoa] at h1
                        exact h1)
                      clear cB
                      obtain ⟨vk, hvk⟩ : ∃ vk, XR.val rx = vk := ⟨_, rfl⟩
                      refine Rg.region_chain 12 [9] [(8, 9)] (Late 9 wr (RC (fun b => S b ∧ b < w.heap.size) rx)) [some (.pointer (some ⟨w.heap.size, 38, none⟩)), some (.slice (some ⟨b, off, none⟩) r.order.n r.order.cap), some (.int .i64 (j : Int)), some (.pointer (some ⟨w.heap.size, 38, none⟩)), some (.slice (some ⟨b, off, none⟩) r.order.n r.order.cap), some (.int .i64 (j : Int)), some (.pointer (some ⟨b, off + j * 13, none⟩)), some (.pointer (some ⟨b, off + j * 13, none⟩)), some vk, none, some (.pointer (some ⟨b, off + j * 13, none⟩)), some (.pointer (some ⟨b, off + j * 13, none⟩))]
                        (fun _ => late0 ((Gr.refl _).drew)) (by kernel_rfl) (by kernel_rfl) (by kernel_rfl) (by kernel_rfl) (fun _ _ d _ _ h => by cases d <;> exact h) ?_
                      intro OPS HOPS v
                      clear HOPS
                      simp only [List.take_succ_cons, List.take_zero, Rg.wpC, Rg.wpS, Option.getD_some, Option.getD_none, Act.put, List.setIfInBounds_toArray, List.set_cons_zero, List.set_cons_succ, show List.contains [9] 0 = false from rfl, show List.contains [9] 1 = false from rfl, show List.contains [9] 2 = false from rfl, show List.contains [9] 3 = false from rfl, show List.contains [9] 4 = false from rfl, show List.contains [9] 5 = false from rfl, show List.contains [9] 6 = false from rfl, show List.contains [9] 7 = false from rfl, show List.contains [9] 8 = false from rfl, show List.contains [9] 9 = true from rfl, show List.contains [9] 10 = false from rfl, show List.contains [9] 11 = false from rfl, Bool.false_eq_true, if_false, if_true, Nat.reduceAdd]
                      refine ⟨?_, ?_, ?_, ?_, ?_, ?_, ?_, ?_, ?_, ?_, ?_, ?_, ?_⟩
                      · refine sc_still (by rfl) (by rfl) (fun s' W _ hS => ?_)
                        have c1 := CB.out W (late_cl hS)
                        clear hS
                        go_simp
                      · refine sc_still (by rfl) (by rfl) (fun s' W _ hS => ?_)
                        have c1 := CB.out W (late_cl hS)
                        clear hS
                        go_simp
                      · refine sc_still (by rfl) (by rfl) (fun s' W _ hS => ?_)
                        have c1 := CB.out W (late_cl hS)
                        clear hS
                        go_simp
                      · refine sc_still (by rfl) (by rfl) (fun s' W _ hS => ?_)
                        have c1 := CB.out W (late_cl hS)
                        clear hS
                        go_simp
                      · refine sc_still (by rfl) (by rfl) (fun s' W _ hS => ?_)
                        have c1 := CB.out W (late_cl hS)
                        clear hS
                        go_simp
                      · refine sc_still (by rfl) (by rfl) (fun s' W _ hS => ?_)
                        have c1 := CB.out W (late_cl hS)
                        clear hS
                        go_simp
                      · refine sc_still (by rfl) (by rfl) (fun s' W _ hS => ?_)
                        have c1 := CB.out W (late_cl hS)
                        clear hS
                        go_simp
                      · refine sc_still (by rfl) (by rfl) (fun s' W _ hS => ?_)
                        have c1 := CB.out W (late_cl hS)
                        clear hS
                        go_simp
                      · refine sc_still (by rfl) (by rfl) (fun s' W hlim hS => ?_)
                        have hs0 : s' ≤ 0 := hlim 9 (by simp)
                        obtain rfl : s' = 0 := by omega
                        have hg := late_0 hS
                        rw [← hvk]
                        exact still_load rfl b (off + j * 13) rfl (xF rx) (fun i u hu => hg.keep (HRK.out i u hu)) _ Try.underlying32 rfl (by kernel_rfl)
                      · refine sc_new (by rfl) (by rfl) (fun W hS => ?_)
                        have hg := late_0 hS
                        have hH := HREC.out W (HAT.out.of hg.size (fun b _ hb => hg.block b hb))
                        rw [hvk] at hH
                        have HG := hid hg
                        clear hS hg
                        go_simp
                        refine hH.mono ?_
                        rintro e w' ⟨rfl, hu⟩
                        exact ⟨_, rfl, late1 ⟨W, HG.out, by rw [upd_same]; exact ⟨rfl, hu⟩⟩⟩
                      · refine sc_still (by rfl) (by rfl) (fun s' W _ hS => ?_)
                        have c1 := CB.out W (late_cl hS)
                        clear hS
                        go_simp
                      · refine sc_still (by rfl) (by rfl) (fun s' W _ hS => ?_)
                        have c1 := CB.out W (late_cl hS)
                        clear hS
                        go_simp
                      intro W hS
                      have hclW := late_cl hS
                      obtain ⟨W0, hg0, hu, _⟩ := late_1 hS
                      generalize v 9 = vv at *
                      subst hu
                      simp only [List.drop_succ_cons, List.drop_zero]
                      have HSR := hid (same_row (b := b) (o := off + j * 13) (fun i u hu => HRK.out i u hu) hclW)
                      have HFW := hid (fun i => (hclW.free b i HB.out).trans (HFR.out i))
                      have hSb := HSb.out
                      have HFI := hid (fun W5 (h : Cl (fun b => S b ∧ b < w.heap.size) W W5) => HE.out W5 (HCI4.out.go (hclW.trans h)))
                      clear hclW hS hg0 HREC HAT HFR HRK HB HCI4 HE CB HSb hvk hoa
                      unfold XR.val
                      go_wp2_with (guard_target =~ wpList _ _ _ (Oper.mk _ (Op.store 32 _ _) _ _ _ _ :: _) _ _; refine st_mid (S := fun b => S b ∧ b < w.heap.size) (ty := 32) rfl rfl b (off + j * 13) _ rfl rfl (HSR.out) HFW.out hSb (by kernel_rfl) (by kernel_rfl) ?_; intro W5 hW5; have HC5 := hid (HFI.out W5 hW5); clear hW5 HSR HFW hSb HFI)
                      first | exact HC5.out | (rw [HWJ.out]; exact HC5.out)
                    · have t1 : decide ((j : Int) < (r.order.n : Int)) = false := nlt_dec _ _ hjn
                      clear hst hbd
                      have HCI3 := hid hci
                      have HB0 := hid hci.b
                      have HCI0 := hid hci
                      obtain ⟨f5, f6, f7, f8⟩ := F.out
                      have hgo0 : ∀ W, W.heap[w.heap.size]? = some (.cells (SR.cs r.c2).toArray 35 (0, 0)) → Go1 w.heap.size wr W → CI S w r.c2 W := fun W h1 h2 => hci.box h1 h2
                      have HGO := hid hgo0
                      clear hci hj hgo0
                      go_wp2_with fail
                      clear t1
                      refine Rg.region_chain 19 [2, 5, 8, 11, 13, 15, 17] [(1, 13), (4, 13), (7, 13), (10, 13)] (fun s _ W => BxS w.heap.size (r2n r.c1) wr s W) [some (.pointer (some ⟨w.heap.size, 8, none⟩)), some (.slice r.sets.oa r.sets.n r.sets.cap), some (.slice r.sets.oa r.sets.n r.sets.n), some (.pointer (some ⟨w.heap.size, 37, none⟩)), some (.slice r.group.oa r.group.n r.group.cap), some (.slice r.group.oa r.group.n r.group.n), some (.pointer (some ⟨w.heap.size, 11, none⟩)), some (.slice r.items.oa r.items.n r.items.cap), some (.slice r.items.oa r.items.n r.items.n), some (.pointer (some ⟨w.heap.size, 38, none⟩)), some (.slice r.order.oa r.order.n r.order.cap), some (.slice r.order.oa r.order.n r.order.n), some (.pointer (some ⟨w.heap.size, 8, none⟩)), some undef, some (.pointer (some ⟨w.heap.size, 37, none⟩)), some undef, some (.pointer (some ⟨w.heap.size, 11, none⟩)), some undef, some (.pointer (some ⟨w.heap.size, 38, none⟩))]
                        (fun _ => ⟨HB0.out, .of ((Gr.refl _).drew)⟩) (by kernel_rfl) (by kernel_rfl) (by kernel_rfl) (by kernel_rfl) (fun _ _ d _ _ h => by cases d <;> exact h) ?_
                      intro OPS HOPS vx
                      clear HOPS
                      simp only [List.take_succ_cons, List.take_zero, Rg.wpC, Rg.wpS, Option.getD_some, Option.getD_none, Act.put, List.setIfInBounds_toArray, List.set_cons_zero, List.set_cons_succ, show List.contains [2, 5, 8, 11, 13, 15, 17] 0 = false from rfl, show List.contains [2, 5, 8, 11, 13, 15, 17] 1 = false from rfl, show List.contains [2, 5, 8, 11, 13, 15, 17] 2 = true from rfl, show List.contains [2, 5, 8, 11, 13, 15, 17] 3 = false from rfl, show List.contains [2, 5, 8, 11, 13, 15, 17] 4 = false from rfl, show List.contains [2, 5, 8, 11, 13, 15, 17] 5 = true from rfl, show List.contains [2, 5, 8, 11, 13, 15, 17] 6 = false from rfl, show List.contains [2, 5, 8, 11, 13, 15, 17] 7 = false from rfl, show List.contains [2, 5, 8, 11, 13, 15, 17] 8 = true from rfl, show List.contains [2, 5, 8, 11, 13, 15, 17] 9 = false from rfl, show List.contains [2, 5, 8, 11, 13, 15, 17] 10 = false from rfl, show List.contains [2, 5, 8, 11, 13, 15, 17] 11 = true from rfl, show List.contains [2, 5, 8, 11, 13, 15, 17] 12 = false from rfl, show List.contains [2, 5, 8, 11, 13, 15, 17] 13 = true from rfl, show List.contains [2, 5, 8, 11, 13, 15, 17] 14 = false from rfl, show List.contains [2, 5, 8, 11, 13, 15, 17] 15 = true from rfl, show List.contains [2, 5, 8, 11, 13, 15, 17] 16 = false from rfl, show List.contains [2, 5, 8, 11, 13, 15, 17] 17 = true from rfl, show List.contains [2, 5, 8, 11, 13, 15, 17] 18 = false from rfl, Bool.false_eq_true, if_false, if_true, Nat.reduceAdd]
                      refine ⟨?_, ?_, ?_, ?_, ?_, ?_, ?_, ?_, ?_, ?_, ?_, ?_, ?_, ?_, ?_, ?_, ?_, ?_, ?_, ?_⟩
                      · refine sc_still (by rfl) (by rfl) (fun s' W _ hS => ?_)
                        clear hS
                        go_simp
                      · refine sc_still (by rfl) (by rfl) (fun s' W hlim hS => ?_)
                        have hs4 : s' ≤ 4 := hlim 13 (by simp)
                        have kc : W.cell? ⟨w.heap.size, 8, none⟩ = some (.slice r.sets.oa r.sets.n r.sets.cap) := by
                          rcases s' with _ | _ | _ | _ | _ | s' <;> first | exact hS.cell 8 | omega
                        clear hS
                        go_simp
                      · refine sc_call (by rfl) (by rfl) (fun W hS => ?_)
                        have hK : BxS w.heap.size (r2n r.c1) wr (0 + 1) W := hS
                        have HK := hid hK
                        clear hS hK
                        go_simp
                        refine (clip_any _ _ _ f5 _).mono ?_
                        rintro e w' ⟨rfl, hw⟩
                        rw [hw]
                        exact ⟨_, rfl, rfl, HK.out⟩
                      · refine sc_still (by rfl) (by rfl) (fun s' W _ hS => ?_)
                        clear hS
                        go_simp
                      · refine sc_still (by rfl) (by rfl) (fun s' W hlim hS => ?_)
                        have hs4 : s' ≤ 4 := hlim 13 (by simp)
                        have kc : W.cell? ⟨w.heap.size, 37, none⟩ = some (.slice r.group.oa r.group.n r.group.cap) := by
                          rcases s' with _ | _ | _ | _ | _ | s' <;> first | exact hS.cell 37 | omega
                        clear hS
                        go_simp
                      · refine sc_call (by rfl) (by rfl) (fun W hS => ?_)
                        have hK : BxS w.heap.size (r2n r.c1) wr (1 + 1) W := hS
                        have HK := hid hK
                        clear hS hK
                        go_simp
                        refine (clip_any _ _ _ f6 _).mono ?_
                        rintro e w' ⟨rfl, hw⟩
                        rw [hw]
                        exact ⟨_, rfl, rfl, HK.out⟩
                      · refine sc_still (by rfl) (by rfl) (fun s' W _ hS => ?_)
                        clear hS
                        go_simp
                      · refine sc_still (by rfl) (by rfl) (fun s' W hlim hS => ?_)
                        have hs4 : s' ≤ 4 := hlim 13 (by simp)
                        have kc : W.cell? ⟨w.heap.size, 11, none⟩ = some (.slice r.items.oa r.items.n r.items.cap) := by
                          rcases s' with _ | _ | _ | _ | _ | s' <;> first | exact hS.cell 11 | omega
                        clear hS
                        go_simp
                      · refine sc_call (by rfl) (by rfl) (fun W hS => ?_)
                        have hK : BxS w.heap.size (r2n r.c1) wr (2 + 1) W := hS
                        have HK := hid hK
                        clear hS hK
                        go_simp
                        refine (clip_item _ _ _ f7 _).mono ?_
                        rintro e w' ⟨rfl, hw⟩
                        rw [hw]
                        exact ⟨_, rfl, rfl, HK.out⟩
                      · refine sc_still (by rfl) (by rfl) (fun s' W _ hS => ?_)
                        clear hS
                        go_simp
                      · refine sc_still (by rfl) (by rfl) (fun s' W hlim hS => ?_)
                        have hs4 : s' ≤ 4 := hlim 13 (by simp)
                        have kc : W.cell? ⟨w.heap.size, 38, none⟩ = some (.slice r.order.oa r.order.n r.order.cap) := by
                          rcases s' with _ | _ | _ | _ | _ | s' <;> first | exact hS.cell 38 | omega
                        clear hS
                        go_simp
                      · refine sc_call (by rfl) (by rfl) (fun W hS => ?_)
                        have hK : BxS w.heap.size (r2n r.c1) wr (3 + 1) W := hS
                        have HK := hid hK
                        clear hS hK
                        go_simp
                        refine (clip_ord _ _ _ f8 _).mono ?_
                        rintro e w' ⟨rfl, hw⟩
                        rw [hw]
                        exact ⟨_, rfl, rfl, HK.out⟩
                      · refine sc_still (by rfl) (by rfl) (fun s' W _ hS => ?_)
                        clear hS
                        go_simp
                      · refine sc_call (by rfl) (by rfl) (fun W hS => ?_)
                        have hK := hid (hS.set (k := 8) (u := .slice r.sets.oa r.sets.n r.sets.n) rfl)
                        have kc : ∃ u, W.cell? ⟨w.heap.size, 8, none⟩ = some u := ⟨_, hS.cell 8⟩
                        obtain ⟨u0, kc⟩ := kc
                        have kf := hS.free
                        clear hS
                        go_simp
                        exact hK.out
                      · refine sc_still (by rfl) (by rfl) (fun s' W _ hS => ?_)
                        clear hS
                        go_simp
                      · refine sc_call (by rfl) (by rfl) (fun W hS => ?_)
                        have hK := hid (hS.set (k := 37) (u := .slice r.group.oa r.group.n r.group.n) rfl)
                        have kc : ∃ u, W.cell? ⟨w.heap.size, 37, none⟩ = some u := ⟨_, hS.cell 37⟩
                        obtain ⟨u0, kc⟩ := kc
                        have kf := hS.free
                        clear hS
                        go_simp
                        exact hK.out
                      · refine sc_still (by rfl) (by rfl) (fun s' W _ hS => ?_)
                        clear hS
                        go_simp
                      · refine sc_call (by rfl) (by rfl) (fun W hS => ?_)
                        have hK := hid (hS.set (k := 11) (u := .slice r.items.oa r.items.n r.items.n) rfl)
                        have kc : ∃ u, W.cell? ⟨w.heap.size, 11, none⟩ = some u := ⟨_, hS.cell 11⟩
                        obtain ⟨u0, kc⟩ := kc
                        have kf := hS.free
                        clear hS
                        go_simp
                        exact hK.out
                      · refine sc_still (by rfl) (by rfl) (fun s' W _ hS => ?_)
                        clear hS
                        go_simp
                      intro W9 hS9
                      simp only [List.drop_succ_cons, List.drop_zero]
                      have k38 : W9.cell? ⟨w.heap.size, 38, none⟩ = some (.slice r.order.oa r.order.n r.order.cap) := hS9.cell 38
                      have kf := hS9.free
                      have HCI2 := hid (HGO.out (W9.setCell ⟨w.heap.size, 38, none⟩ (.slice r.order.oa r.order.n r.order.n)) (cells_set 38 (.slice r.order.oa r.order.n r.order.n) hS9.1) (hS9.2.trans (Go1.set _ _ _ _)))
                      clear hS9 HGO HCI0 HB0 f5 f6 f7 f8
                      go_upto_region 32 with fail
                      clear k38 kf
                      generalize World.setCell W9 _ _ = W1 at *
                      obtain ⟨vk, hvk⟩ : ∃ vk, XR.val r.wher = vk := ⟨_, rfl⟩
                      obtain ⟨vl, hvl⟩ : ∃ vl, XR.val r.having = vl := ⟨_, rfl⟩
                      have HRW := hid (fun W (h : CI S w r.c2 W) => clipped_any (Ex.sz x.wher) x.wher (Nat.le_refl _) r.wher _ W (HX.out.wher.clS h.cl))
                      have HRH := hid (fun W (h : CI S w r.c2 W) => clipped_any (Ex.sz x.having) x.having (Nat.le_refl _) r.having _ W (HX.out.having.clS h.cl))
                      refine Rg.region_chain 9 [2, 5, 7] [(1, 7), (4, 7)] (WS S w r) [some (.pointer (some ⟨w.heap.size, 13, none⟩)), some vk, none, some (.pointer (some ⟨w.heap.size, 25, none⟩)), some vl, none, some (.pointer (some ⟨w.heap.size, 13, none⟩)), some undef, some (.pointer (some ⟨w.heap.size, 25, none⟩))]
                        (fun _ => ws0 (HCI2.out.gr ((Gr.refl _).drew))) (by kernel_rfl) (by kernel_rfl) (by kernel_rfl) (by kernel_rfl) (fun _ _ d _ _ h => by cases d <;> exact h) ?_
                      intro OPS HOPS v
                      clear HOPS
                      simp only [List.take_succ_cons, List.take_zero, Rg.wpC, Rg.wpS, Option.getD_some, Option.getD_none, Act.put, List.setIfInBounds_toArray, List.set_cons_zero, List.set_cons_succ, show List.contains [2, 5, 7] 0 = false from rfl, show List.contains [2, 5, 7] 1 = false from rfl, show List.contains [2, 5, 7] 2 = true from rfl, show List.contains [2, 5, 7] 3 = false from rfl, show List.contains [2, 5, 7] 4 = false from rfl, show List.contains [2, 5, 7] 5 = true from rfl, show List.contains [2, 5, 7] 6 = false from rfl, show List.contains [2, 5, 7] 7 = true from rfl, show List.contains [2, 5, 7] 8 = false from rfl, Bool.false_eq_true, if_false, if_true, Nat.reduceAdd]
                      refine ⟨?_, ?_, ?_, ?_, ?_, ?_, ?_, ?_, ?_, ?_⟩
                      · refine sc_still (by rfl) (by rfl) (fun s' W _ hS => ?_)
                        clear hS
                        go_simp
                      · refine sc_still (by rfl) (by rfl) (fun s' W hlim hS => ?_)
                        have hs0 : s' ≤ 2 := hlim 7 (by simp)
                        have hci := hS.ci hs0
                        rw [← hvk]
                        exact still_load rfl w.heap.size 13 rfl (xF r.wher) (fun i u hu => by rw [hci.cell]; exact srw r.c2 hu) _ Try.underlying32 rfl (by kernel_rfl)
                      · refine sc_new (by rfl) (by rfl) (fun W hS => ?_)
                        have hci := hS.ci (by decide)
                        have hH := HRW.out W hci
                        rw [hvk] at hH
                        have HC := hid hci
                        have HS := hid hS
                        clear hS hci
                        go_simp
                        refine hH.mono ?_
                        rintro e w' ⟨rfl, hu⟩
                        exact ⟨_, rfl, ws1 (HC.out.go hu) rfl⟩
                      · refine sc_still (by rfl) (by rfl) (fun s' W _ hS => ?_)
                        clear hS
                        go_simp
                      · refine sc_still (by rfl) (by rfl) (fun s' W hlim hS => ?_)
                        have hs0 : s' ≤ 2 := hlim 7 (by simp)
                        have hci := hS.ci hs0
                        rw [← hvl]
                        exact still_load rfl w.heap.size 25 rfl (xF r.having) (fun i u hu => by rw [hci.cell]; exact srh r.c2 hu) _ Try.underlying32 rfl (by kernel_rfl)
                      · refine sc_new (by rfl) (by rfl) (fun W hS => ?_)
                        have hci := hS.ci (by decide)
                        have hH := HRH.out W hci
                        rw [hvl] at hH
                        have HC := hid hci
                        have HS := hid hS
                        clear hS hci
                        go_simp
                        refine hH.mono ?_
                        rintro e w' ⟨rfl, hu⟩
                        exact ⟨_, rfl, ws2 HS.out (HC.out.go hu) rfl⟩
                      · refine sc_still (by rfl) (by rfl) (fun s' W _ hS => ?_)
                        clear hS
                        go_simp
                      · refine sc_call (by rfl) (by rfl) (fun W hS => ?_)
                        have hci := hS.ci (by decide)
                        refine brings_store rfl w.heap.size 13 (xF r.wher.clp).toArray rfl (hS.2.1 (by decide)) (fun j hj => ⟨?_, hci.free _⟩) (by kernel_rfl) (by kernel_rfl) ⟨rfl, ws3 hS (hci.part (put_where r.c2 r.wher.clp))⟩
                        rw [hci.cell]
                        have h13 : (13 + j) < (SR.cs r.c2).length := by
                          have hj12 : j < 12 := hj
                          show 13 + j < 41
                          omega
                        rw [List.getElem?_eq_getElem h13]
                        rfl
                      · refine sc_still (by rfl) (by rfl) (fun s' W _ hS => ?_)
                        clear hS
                        go_simp
                      intro W hS
                      simp only [List.drop_succ_cons, List.drop_zero]
                      have hv5 := hS.2.2 (by decide)
                      have hci : CI S w r.c2w W := by have h1 := hS.1; rw [if_neg (by decide)] at h1; exact h1
                      have HB := hid hci.b
                      have HFI := hid (fun WA (h1 : WA.heap[w.heap.size]? = some (.cells (SR.cs r.c3).toArray 35 (0, 0))) (h2 : Go1 w.heap.size W WA) => hci.box h1 h2)
                      clear hS hci HRW HRH hvk hvl HCI2
                      generalize v 5 = vv at *
                      subst hv5
                      unfold XR.val
                      go_wp2_with (first | (guard_target =~ wpList _ _ _ (Oper.mk _ (Op.store 32 _ _) _ _ _ _ :: _) _ _; refine st_part (ty := 32) rfl rfl w.heap.size 25 (xF r.having.clp).toArray rfl rfl 35 _ HB.out (by kernel_rfl) (by rw [SR.len]; show 25 + 12 ≤ 41; decide) (by kernel_rfl) ?_; intro WW hWW gWW; rw [show (xF r.having.clp).toArray.toList = xF r.having.clp from rfl, put_having] at hWW; have hCX := HFI.out WW hWW gWW; have HBX := hid hCX.b; have HZX := hid hCX.z; have HLA : Hid (∀ W9, Go1 (w.heap.size + 1) WW W9 → Cl S w W9) := hid (fun W9 h9 => (hCX.cl.mono (fun b _ hs => hs.1)).new h9.os h9.tape h9.output h9.size (fun b hb => h9.get (by have := hCX.lt; omega) (by omega))); clear hCX hWW gWW HB HFI) | (guard_target =~ wpList _ _ _ (Oper.mk _ (Op.load 35 _) _ _ _ _ :: _) _ _; refine wpList_load_row rfl 35 _ rfl w.heap.size rfl 35 (SR.cs r.c3).toArray (0, 0) _ HBX.out Try.underlying35 rfl (by kernel_rfl) ?_) | (guard_target =~ wpList _ _ _ (Oper.mk _ (Op.store 35 _ _) _ _ _ _ :: _) _ _; refine st_row (ty := 35) rfl rfl (w.heap.size + 1) (SR.cs r.c3).toArray rfl rfl 35 _ HZX.out (by kernel_rfl) rfl (by kernel_rfl) ?_; intro W9 hW9 gW9 zW9))
                      (try change bodyPost _ _ _ _ _ _)
                      refine bodyPost_ret (v := SR.val r.c3) (results_cell_row (g := w.heap.size + 1) rfl _ _ _ _ _ _ rfl hW9 Try.underlying35 rfl (by kernel_rfl)) rfl ⟨rfl, HLA.out W9 gW9⟩
end Go.Proofs.Ytaogpifcfmjcbaa
end
section
namespace Go.Proofs.Ytaogpifcfmjcbaa
open Go.RowKit
set_option linter.unusedSimpArgs false
set_option linter.unusedVariables false
attribute [local go_sem] Rg.leads_value Rg.leads_skip Rg.leads_enter Rg.brings_value Rg.brings_skip Rg.brings_enter Rg.bringsG_value Rg.bringsG_enter Rg.once_normal Rg.once_exit Rg.once_ret Rg.once_panic Rg.once_goto Rg.bringsS_value Rg.bringsS_skip Rg.bringsS_enter Rg.still_value Rg.still_skip Rg.still_enter
theorem SB.give {p : Nat} {w : World} {R0 S0 : Nat} {r : SR} {wl W5 : World} {x : Stm} {q : Stm × Ps} (h : SB p w R0 S0 r.cs wl) (hx : StmAt (fun b => S0 + 1 ≤ b) wl x r) (hps : PS p wl q.2) (hq : q.2.good = true → x = q.1) (hg : Go1 R0 wl W5) : Rst p w q r.val W5 := by
  have h1 := h.hS
  have h0 := h.hR
  have hp := h.hp
  exact ⟨r, x, rfl, (hx.of hg.size (fun b hb hl => hg.get hl (by omega))).mono (fun b _ hb => by show w.heap.size ≤ b; omega), hps.go hg (by omega), h.g.own hg (by omega), hq⟩
def TbRel (p N : Nat) (w : World) (R0 S0 : Nat) (n : ByteArray) (R : List ColS × Ps) (s4 : Value) (wr : World) : Prop := ∃ b v, s4 = .bool b ∧ SB p w R0 S0 ((SR.cs { kind := 1, table := n }).set 5 v) wr ∧ SpRel kCol colS p N (Ab (S0 + 1)) R b v wr
set_option maxHeartbeats 32000000 in
set_option maxRecDepth 100000 in
theorem table_any (p : Nat) (s : Ps) (w : World) (hS : PS p w s) (hs : s.size ≤ 900000) : Calls Try.prog 33 #[.pointer (some ⟨p, 0, none⟩)] w (Pst p w (tableS s)) := by
  have hpw := hS.lt
  have hG := fun o => (Gr.refl w).alloc o
  have hS0 := fun o => hS.keep (hG o)
  have hni1 := size_name s
  obtain ⟨n, hn⟩ : ∃ n, s.name.1 = n := ⟨_, rfl⟩
  obtain ⟨s1, hs1⟩ : ∃ s1, s.name.2 = s1 := ⟨_, rfl⟩
  rw [hs1] at hni1
  obtain ⟨R, hR⟩ : ∃ R, sep colS (s1.need 4 ⟨#[40]⟩) = R := ⟨_, rfl⟩
  have eT : tableS s = ({ kind := 1, table := n, cols := R.1 }, R.2.need 4 ⟨#[41]⟩) := by unfold tableS; simp only [hn, hs1, hR]
  rw [eT]
  have HR := hid hR
  clear hR eT
  go_enter Try.func33, Try.ntmps33
  go_wp2_with fail
  refine (pname_any p s _ (hS0 _)).mono ?_
  rintro e w1 ⟨rfl, hps1, hg1⟩
  rw [hn]
  rw [hs1] at hps1
  have z1 := hg1.size
  simp only [World.size_alloc] at z1
  have H1 : Hid (∀ W5, W5.heap[w1.heap.size]? = some (.cells (SR.cs { kind := 1, table := n }).toArray 35 (0, 0)) → Go1 w1.heap.size (w1.alloc (.cells zeroS.toArray 35)) W5 → SB p w w.heap.size w1.heap.size (SR.cs { kind := 1, table := n }) W5 ∧ PS p W5 s1) := hid (fun W5 hx h5 => ⟨SB.start hpw hg1 hx h5, (hps1.keep ((Gr.refl w1).alloc _)).go h5 (by omega)⟩)
  have HA : Hid ((w1.alloc (.cells zeroS.toArray 35)).heap[w1.heap.size]? = some (.cells zeroS.toArray 35 (0, 0))) := hid (alloc_at _ _)
  clear hps1 hg1 hS0 hG hS hn hs1
  go_wp2_with (guard_target =~ wpList _ _ _ (Oper.mk _ (Op.store 35 _ _) _ _ _ _ :: _) _ _; refine st_row (ty := 35) rfl rfl w1.heap.size (SR.cs { kind := 1, table := n }).toArray rfl rfl 35 _ (HA.out) (by kernel_rfl) rfl (by kernel_rfl) ?_; intro W5 hW5 gW5 zW5; have HQ := hid (H1.out W5 hW5 gW5); clear hW5 gW5 zW5 H1 HA; generalize w1.heap.size = S0 at *)
  obtain ⟨hsb, hps⟩ := HQ.out
  clear HQ
  refine (must_any p ⟨#[40]⟩ s1 _ hps).mono ?_
  rintro e w3 ⟨rfl, hps3, hg3⟩
  have hsb3 := hsb.go hg3
  have hsz3 : (s1.need 4 ⟨#[40]⟩).size ≤ 900000 := Nat.le_trans (size_need _ _ _) (by omega)
  have hst : TbRel p 900000 w w.heap.size S0 n R (.bool true) w3 := ⟨true, .slice none 0 0, rfl, hsb3, SpRel.start hps3 hsz3 HR.out⟩
  have HST := hid hst
  have hpS : p < S0 := by omega
  generalize hR0 : w.heap.size = R0 at *
  clear hsb hps hps3 hg3 hsb3 hst HR hs z1 hsz3 hni1
  go_wp2_with fail
  go_loopw [4] (fun s4 wr => TbRel p 900000 w R0 S0 n R s4 wr) (fun s4 wr => mB s4 (lenAt p wr))
  · exact HST.out
  · clear HST
    obtain ⟨b, v, rfl, hsb, hsp⟩ := hrel
    cases b with
    | false =>
      obtain ⟨ys, hL, hps, hyg, hlen⟩ := hsp.no
      clear hsp
      go_wp2_with fail
      refine (must_any p ⟨#[41]⟩ R.2 _ hps).mono ?_
      rintro e w8 ⟨rfl, hps8, hg8⟩
      obtain ⟨sl, rfl, hks, _⟩ := (hL.go kCol_ok hg8 (ab_no (by omega))).at kCol_ok (by omega)
      have hsb8 : SB p w R0 S0 (SR.cs { kind := 1, table := n, cols := sl }) w8 := hsb.go hg8
      have hx8 : StmAt (fun b => S0 + 1 ≤ b) w8 { kind := 1, table := n, cols := ys } { kind := 1, table := n, cols := sl } := { (StmAt.zero (S := fun b => S0 + 1 ≤ b) (w := w8)) with kind := rfl, table := rfl, cols := hks }
      have HX := hid hsb8.s
      have HZ := hid hsb8.z
      have FI : Hid (∀ W9, Go1 R0 w8 W9 → Rst p w ({ kind := 1, table := n, cols := R.1 }, R.2.need 4 ⟨#[41]⟩) (SR.val { kind := 1, table := n, cols := sl }) W9) := hid (fun W9 h9 => hsb8.give hx8 hps8 (fun h => by rw [hyg (need_good h)]) h9)
      clear hsb hsb8 hps hps8 hg8 hL hks hx8 hyg
      go_wp2_with (first | (guard_target =~ wpList _ _ _ (Oper.mk _ (Op.load 35 _) _ _ _ _ :: _) _ _; refine wpList_load_row rfl 35 _ rfl S0 rfl 35 (SR.cs { kind := 1, table := n, cols := sl }).toArray (0, 0) _ HX.out Try.underlying35 rfl (by kernel_rfl) ?_) | (guard_target =~ wpList _ _ _ (Oper.mk _ (Op.store 35 _ _) _ _ _ _ :: _) _ _; refine st_row (ty := 35) rfl rfl R0 (SR.cs { kind := 1, table := n, cols := sl }).toArray rfl rfl 35 _ (HZ.out) (by kernel_rfl) rfl (by kernel_rfl) ?_; intro W9 hW9 gW9 zW9))
      (try change bodyPost _ _ _ _ _ _)
      refine bodyPost_ret (v := SR.val { kind := 1, table := n, cols := sl }) (results_cell_row (g := R0) rfl _ _ _ _ _ _ rfl hW9 Try.underlying35 rfl (by kernel_rfl)) rfl ?_
      exact ⟨_, rfl, FI.out W9 gW9⟩
    | true =>
      obtain ⟨ys, s, m, hL, hps, hR, hm, hN⟩ := hsp.yes
      clear hsp
      have HLA : Hid (mB (.bool true) (lenAt p wr) = s.size + 1) := hid (by show lenAt p wr + 1 = _; rw [lenAt_ps hps])
      go_wp2_with fail
      refine (pname_any p s _ hps).mono ?_
      rintro e w2 ⟨rfl, hps2, hg2⟩
      obtain ⟨nm, hnm⟩ : ∃ nm, s.name.1 = nm := ⟨_, rfl⟩
      obtain ⟨t1, ht1⟩ : ∃ t1, s.name.2 = t1 := ⟨_, rfl⟩
      rw [hnm]
      rw [ht1] at hps2
      have hsb2 := hsb.go hg2
      have hL2 := hL.go kCol_ok hg2 (ab_no (by omega))
      have hp2 : p < w2.heap.size := by have := hsb2.lt; omega
      have HX0 : Hid (∀ W5, W5.heap[w2.heap.size]? = some (.cells (cF ⟨nm, 0, false, false⟩).toArray 44 (0, 0)) → Go1 w2.heap.size (w2.alloc (.cells (cF ⟨⟨#[]⟩, 0, false, false⟩).toArray 44)) W5 → XB p w2 44 (cF ⟨nm, 0, false, false⟩) t1 W5) := hid (fun W5 a b => XB.start hp2 hps2 a b)
      have HA : Hid ((w2.alloc (.cells (cF ⟨⟨#[]⟩, 0, false, false⟩).toArray 44)).heap[w2.heap.size]? = some (.cells (cF ⟨⟨#[]⟩, 0, false, false⟩).toArray 44 (0, 0))) := hid (alloc_at _ _)
      have HSB := hid hsb2
      have HL := hid hL2
      have HR2 := hid hR
      have HNM : Hid (s.name = (nm, t1)) := hid (by rw [← hnm, ← ht1])
      clear hsb hL hps hps2 hg2 hsb2 hL2 hnm ht1 hR
      go_wp2_with (guard_target =~ wpList _ _ _ (Oper.mk _ (Op.store 44 _ _) _ _ _ _ :: _) _ _; refine st_row (ty := 44) rfl rfl w2.heap.size (cF ⟨nm, 0, false, false⟩).toArray rfl rfl 44 _ (HA.out) (by kernel_rfl) rfl (by kernel_rfl) ?_; intro W5 hW5 gW5 zW5; have HQ := hid (HX0.out W5 hW5 gW5); clear hW5 gW5 zW5 HX0 HA)
      have hx5 := HQ.out
      clear HQ
      refine (word_any p ⟨#[105, 110, 116]⟩ t1 _ hx5.ps).mono ?_
      rintro e wt1 ⟨rfl, hpst1, hgt1⟩
      have hxt1 := hx5.go hpst1 hgt1
      clear hx5 hpst1 hgt1
      cases hI : t1.is 1 ⟨#[105, 110, 116]⟩ with
      | true =>
        rw [may_y hI] at hxt1
        have HT : Hid (tyS t1 = (1, t1.step)) := hid (by unfold tyS; simp only [hI, if_true, Bool.false_eq_true, if_false])
        clear hI
        have k0 := hxt1.cell 0
        have k1 := hxt1.cell 1
        have k2 := hxt1.cell 2
        have k3 := hxt1.cell 3
        simp only [cF, List.getElem?_cons_zero, List.getElem?_cons_succ] at k0 k1 k2 k3
        have kf := Rg.blk_free hxt1.x
        have hx6 : XB p w2 44 (cF ⟨nm, 1, false, false⟩) t1.step (wt1.setCell ⟨w2.heap.size, 1, none⟩ (.int .i64 1)) := hxt1.set 1 (.int .i64 1)
        clear hxt1
        go_wp2_with fail
        clear k0 k1 k2 k3 kf
        generalize World.setCell _ ⟨w2.heap.size, 1, none⟩ _ = w6 at *
        generalize t1.step = t2 at *
        obtain ⟨ty, hty⟩ : ∃ ty : Int, (1 : Int) = ty := ⟨_, rfl⟩
        rw [hty] at HT hx6
        clear hty
        refine (word_any p ⟨#[110, 111, 116]⟩ t2 _ hx6.ps).mono ?_
        rintro e w7 ⟨rfl, hps7, hg7⟩
        have hx7 := hx6.go hps7 hg7
        clear hx6 hps7 hg7
        cases hN : t2.is 1 ⟨#[110, 111, 116]⟩ with
        | false =>
          rw [may_n hN] at hx7
          have HN : Hid (nnS t2 = (false, t2)) := hid (by unfold nnS; rw [hN]; rfl)
          clear hN
          have hx8 := hx7
          clear hx7
          generalize w7 = w8 at *
          go_wp2_with fail
          refine (word_any p ⟨#[117, 110, 105, 113, 117, 101]⟩ t2 _ hx8.ps).mono ?_
          rintro e w9 ⟨rfl, hps9, hg9⟩
          have hx9 := hx8.go hps9 hg9
          clear hx8 hps9 hg9
          obtain ⟨ub, hub⟩ : ∃ ub, t2.is 1 ⟨#[117, 110, 105, 113, 117, 101]⟩ = ub := ⟨_, rfl⟩
          obtain ⟨t4, ht4⟩ : ∃ t4, (t2.may 1 ⟨#[117, 110, 105, 113, 117, 101]⟩).2 = t4 := ⟨_, rfl⟩
          rw [ht4] at hx9
          rw [hub]
          have HU : Hid (Ps.word ⟨#[117, 110, 105, 113, 117, 101]⟩ t2 = (ub, t4)) := hid (by rw [← hub, ← ht4]; unfold Ps.word Ps.may; split <;> simp_all)
          clear hub ht4
          have k0 := hx9.cell 0
          have k1 := hx9.cell 1
          have k2 := hx9.cell 2
          have k3 := hx9.cell 3
          simp only [cF, List.getElem?_cons_zero, List.getElem?_cons_succ] at k0 k1 k2 k3
          have kf := Rg.blk_free hx9.x
          have hxa0 : XB p w2 44 (cF ⟨nm, ty, false, ub⟩) t4 (w9.setCell ⟨w2.heap.size, 3, none⟩ (.bool ub)) := hx9.set 3 (.bool ub)
          clear hx9
          go_wp2_with fail
          clear k0 k1 k2 k3 kf
          generalize World.setCell w9 _ _ = wa at *
          have hxa := hxa0
          clear hxa0
          refine (word_any p ⟨#[112, 114, 105, 109, 97, 114, 121]⟩ t4 _ hxa.ps).mono ?_
          rintro e wb ⟨rfl, hpsb, hgb⟩
          have hxb := hxa.go hpsb hgb
          clear hxa hpsb hgb
          cases hP : t4.is 1 ⟨#[112, 114, 105, 109, 97, 114, 121]⟩ with
          | false =>
            rw [may_n hP] at hxb
            have HQ0 : Hid (colS s = (⟨nm, ty, false, ub⟩, t4)) := hid (by unfold colS keyS; simp only [HNM.out, HT.out, HN.out, HU.out, hP, Bool.or_false, Bool.false_eq_true, if_false])
            clear hP HNM HT HN HU
            have hxz := hxb
            clear hxb
            generalize wb = wz at *
            have k0 := hxz.cell 0
            have k1 := hxz.cell 1
            have k2 := hxz.cell 2
            have k3 := hxz.cell 3
            simp only [cF, List.getElem?_cons_zero, List.getElem?_cons_succ] at k0 k1 k2 k3
            have hsbz := HSB.out.go hxz.g
            have hLz := HL.out.go kCol_ok hxz.g (ab_no (by omega))
            have k5 : wz.cell? ⟨S0, 5, none⟩ = some v := hsbz.cell 5
            obtain ⟨v', wy, hrun, k5', kfy, hsby, hLy, hpsy, ⟨g9, m9, c9, rfl⟩, _⟩ := SB.push kCol_ok kt_col 23 (k := 5) (y := ⟨nm, ty, false, ub⟩) (r := ⟨nm, ty, false, ub⟩) (cl := #[.string nm, .int .i64 ty, .bool false, .bool ub]) (fun b h => h) (fun b h => by have := hsbz.lt; show S0 + 1 ≤ b; omega) hsbz (by rw [SR.len]; decide) hLz (by omega) hxz.ps rfl rfl
            have HRUN := hid hrun
            have HSBY := hid hsby
            have HLY := hid hLy
            have HPSY := hid hpsy
            clear hsbz hLz hrun hsby hLy hpsy hxz
            go_wp2_with (at_builtin; refine Lib.wpList_append_run _ rfl _ _ _ _ rfl _ _ rfl rfl _ _ HRUN.out ?_)
            refine (sign_any' p ⟨#[44]⟩ t4 _ HPSY.out).mono ?_
            rintro e w9 ⟨rfl, hps9, hg9⟩
            have hsb9 := HSBY.out.go hg9
            have hL9 := HLY.out.go kCol_ok hg9 (ab_no (by omega))
            have hnx := SpRel.next (q := colS) (s := s) (y := ⟨nm, ty, false, ub⟩) ni_colS hL9 (by rw [HQ0.out]; exact hps9) HR2.out hm hN (fun _ => by rw [HQ0.out])
            rw [HQ0.out] at hnx
            have HNX := hid hnx
            have HSB9 := hid hsb9
            clear hsb9 hL9 hnx hps9 hg9 HRUN HSBY HLY HPSY HSB HL HR2 HQ0 k0 k1 k2 k3 k5 k5' kfy
            generalize t4.is 4 ⟨#[44]⟩ = b9 at *
            go_wp2
            exact ⟨⟨b9, _, rfl, HSB9.out, HNX.out.1⟩, by rw [HLA.out]; exact HNX.out.2⟩
          | true =>
            rw [may_y hP] at hxb
            have HQ0 : Hid (colS s = (⟨nm, ty, true, true⟩, t4.step.need 1 ⟨#[107, 101, 121]⟩)) := hid (by unfold colS keyS; simp only [HNM.out, HT.out, HN.out, HU.out, hP, Bool.or_true, if_true])
            clear hP HNM HT HN HU
            obtain ⟨t5, ht5⟩ : ∃ t5, t4.step.need 1 ⟨#[107, 101, 121]⟩ = t5 := ⟨_, rfl⟩
            rw [ht5] at HQ0
            go_wp2_with fail
            have hAb := (Gr.refl wb).alloc (.cells #[.string ⟨#[107, 101, 121]⟩] 9)
            refine (words_one p _ ⟨#[107, 101, 121]⟩ t4.step _ (hxb.ps.keep hAb) (by rw [Rg.blk_cells (alloc_at _ _)]; rfl)).mono ?_
            rintro e wc ⟨rfl, hpsc, hgc⟩
            rw [ht5] at hpsc
            have hxc := hxb.go hpsc ((Go1.of hAb).trans hgc)
            clear hxb hpsc hgc hAb ht5
            have k0 := hxc.cell 0
            have k1 := hxc.cell 1
            have k2 := hxc.cell 2
            have k3 := hxc.cell 3
            simp only [cF, List.getElem?_cons_zero, List.getElem?_cons_succ] at k0 k1 k2 k3
            have kf := Rg.blk_free hxc.x
            have hxd : XB p w2 44 (cF ⟨nm, ty, true, true⟩) t5 ((wc.setCell ⟨w2.heap.size, 2, none⟩ (.bool true)).setCell ⟨w2.heap.size, 3, none⟩ (.bool true)) := (hxc.set 2 (.bool true)).set 3 (.bool true)
            clear hxc
            go_upto_region 21 with fail
            clear k0 k1 k2 k3 kf
            generalize World.setCell _ ⟨w2.heap.size, 3, none⟩ _ = wz at *
            have hxz := hxd
            clear hxd
            have k0 := hxz.cell 0
            have k1 := hxz.cell 1
            have k2 := hxz.cell 2
            have k3 := hxz.cell 3
            simp only [cF, List.getElem?_cons_zero, List.getElem?_cons_succ] at k0 k1 k2 k3
            have hsbz := HSB.out.go hxz.g
            have hLz := HL.out.go kCol_ok hxz.g (ab_no (by omega))
            have k5 : wz.cell? ⟨S0, 5, none⟩ = some v := hsbz.cell 5
            obtain ⟨v', wy, hrun, k5', kfy, hsby, hLy, hpsy, ⟨g9, m9, c9, rfl⟩, _⟩ := SB.push kCol_ok kt_col 23 (k := 5) (y := ⟨nm, ty, true, true⟩) (r := ⟨nm, ty, true, true⟩) (cl := #[.string nm, .int .i64 ty, .bool true, .bool true]) (fun b h => h) (fun b h => by have := hsbz.lt; show S0 + 1 ≤ b; omega) hsbz (by rw [SR.len]; decide) hLz (by omega) hxz.ps rfl rfl
            have HRUN := hid hrun
            have HSBY := hid hsby
            have HLY := hid hLy
            have HPSY := hid hpsy
            clear hsbz hLz hrun hsby hLy hpsy hxz
            go_wp2_with (at_builtin; refine Lib.wpList_append_run _ rfl _ _ _ _ rfl _ _ rfl rfl _ _ HRUN.out ?_)
            refine (sign_any' p ⟨#[44]⟩ t5 _ HPSY.out).mono ?_
            rintro e w9 ⟨rfl, hps9, hg9⟩
            have hsb9 := HSBY.out.go hg9
            have hL9 := HLY.out.go kCol_ok hg9 (ab_no (by omega))
            have hnx := SpRel.next (q := colS) (s := s) (y := ⟨nm, ty, true, true⟩) ni_colS hL9 (by rw [HQ0.out]; exact hps9) HR2.out hm hN (fun _ => by rw [HQ0.out])
            rw [HQ0.out] at hnx
            have HNX := hid hnx
            have HSB9 := hid hsb9
            clear hsb9 hL9 hnx hps9 hg9 HRUN HSBY HLY HPSY HSB HL HR2 HQ0 k0 k1 k2 k3 k5 k5' kfy
            generalize t5.is 4 ⟨#[44]⟩ = b9 at *
            go_wp2
            exact ⟨⟨b9, _, rfl, HSB9.out, HNX.out.1⟩, by rw [HLA.out]; exact HNX.out.2⟩
        | true =>
          rw [may_y hN] at hx7
          have HN : Hid (nnS t2 = (true, t2.step.need 1 ⟨#[110, 117, 108, 108]⟩)) := hid (by unfold nnS; rw [hN]; rfl)
          clear hN
          obtain ⟨t3, ht3⟩ : ∃ t3, t2.step.need 1 ⟨#[110, 117, 108, 108]⟩ = t3 := ⟨_, rfl⟩
          rw [ht3] at HN
          go_wp2_with fail
          have hA7 := (Gr.refl w7).alloc (.cells #[.string ⟨#[110, 117, 108, 108]⟩] 9)
          refine (words_one p _ ⟨#[110, 117, 108, 108]⟩ t2.step _ (hx7.ps.keep hA7) (by rw [Rg.blk_cells (alloc_at _ _)]; rfl)).mono ?_
          rintro e w7b ⟨rfl, hps7b, hg7b⟩
          rw [ht3] at hps7b
          have hx7b := hx7.go hps7b ((Go1.of hA7).trans hg7b)
          clear hx7 hps7b hg7b hA7 ht3
          have k0 := hx7b.cell 0
          have k1 := hx7b.cell 1
          have k2 := hx7b.cell 2
          have k3 := hx7b.cell 3
          simp only [cF, List.getElem?_cons_zero, List.getElem?_cons_succ] at k0 k1 k2 k3
          have kf := Rg.blk_free hx7b.x
          have hx8 : XB p w2 44 (cF ⟨nm, ty, true, false⟩) t3 (w7b.setCell ⟨w2.heap.size, 2, none⟩ (.bool true)) := hx7b.set 2 (.bool true)
          clear hx7b
          go_wp2_with fail
          clear k0 k1 k2 k3 kf
          generalize World.setCell _ ⟨w2.heap.size, 2, none⟩ _ = w8 at *
          refine (word_any p ⟨#[117, 110, 105, 113, 117, 101]⟩ t3 _ hx8.ps).mono ?_
          rintro e w9 ⟨rfl, hps9, hg9⟩
          have hx9 := hx8.go hps9 hg9
          clear hx8 hps9 hg9
          obtain ⟨ub, hub⟩ : ∃ ub, t3.is 1 ⟨#[117, 110, 105, 113, 117, 101]⟩ = ub := ⟨_, rfl⟩
          obtain ⟨t4, ht4⟩ : ∃ t4, (t3.may 1 ⟨#[117, 110, 105, 113, 117, 101]⟩).2 = t4 := ⟨_, rfl⟩
          rw [ht4] at hx9
          rw [hub]
          have HU : Hid (Ps.word ⟨#[117, 110, 105, 113, 117, 101]⟩ t3 = (ub, t4)) := hid (by rw [← hub, ← ht4]; unfold Ps.word Ps.may; split <;> simp_all)
          clear hub ht4
          have k0 := hx9.cell 0
          have k1 := hx9.cell 1
          have k2 := hx9.cell 2
          have k3 := hx9.cell 3
          simp only [cF, List.getElem?_cons_zero, List.getElem?_cons_succ] at k0 k1 k2 k3
          have kf := Rg.blk_free hx9.x
          have hxa0 : XB p w2 44 (cF ⟨nm, ty, true, ub⟩) t4 (w9.setCell ⟨w2.heap.size, 3, none⟩ (.bool ub)) := hx9.set 3 (.bool ub)
          clear hx9
          go_wp2_with fail
          clear k0 k1 k2 k3 kf
          generalize World.setCell w9 _ _ = wa at *
          have hxa := hxa0
          clear hxa0
          refine (word_any p ⟨#[112, 114, 105, 109, 97, 114, 121]⟩ t4 _ hxa.ps).mono ?_
          rintro e wb ⟨rfl, hpsb, hgb⟩
          have hxb := hxa.go hpsb hgb
          clear hxa hpsb hgb
          cases hP : t4.is 1 ⟨#[112, 114, 105, 109, 97, 114, 121]⟩ with
          | false =>
            rw [may_n hP] at hxb
            have HQ0 : Hid (colS s = (⟨nm, ty, true, ub⟩, t4)) := hid (by unfold colS keyS; simp only [HNM.out, HT.out, HN.out, HU.out, hP, Bool.or_false, Bool.false_eq_true, if_false])
            clear hP HNM HT HN HU
            have hxz := hxb
            clear hxb
            generalize wb = wz at *
            have k0 := hxz.cell 0
            have k1 := hxz.cell 1
            have k2 := hxz.cell 2
            have k3 := hxz.cell 3
            simp only [cF, List.getElem?_cons_zero, List.getElem?_cons_succ] at k0 k1 k2 k3
            have hsbz := HSB.out.go hxz.g
            have hLz := HL.out.go kCol_ok hxz.g (ab_no (by omega))
            have k5 : wz.cell? ⟨S0, 5, none⟩ = some v := hsbz.cell 5
            obtain ⟨v', wy, hrun, k5', kfy, hsby, hLy, hpsy, ⟨g9, m9, c9, rfl⟩, _⟩ := SB.push kCol_ok kt_col 23 (k := 5) (y := ⟨nm, ty, true, ub⟩) (r := ⟨nm, ty, true, ub⟩) (cl := #[.string nm, .int .i64 ty, .bool true, .bool ub]) (fun b h => h) (fun b h => by have := hsbz.lt; show S0 + 1 ≤ b; omega) hsbz (by rw [SR.len]; decide) hLz (by omega) hxz.ps rfl rfl
            have HRUN := hid hrun
            have HSBY := hid hsby
            have HLY := hid hLy
            have HPSY := hid hpsy
            clear hsbz hLz hrun hsby hLy hpsy hxz
            go_wp2_with (at_builtin; refine Lib.wpList_append_run _ rfl _ _ _ _ rfl _ _ rfl rfl _ _ HRUN.out ?_)
            refine (sign_any' p ⟨#[44]⟩ t4 _ HPSY.out).mono ?_
            rintro e w9 ⟨rfl, hps9, hg9⟩
            have hsb9 := HSBY.out.go hg9
            have hL9 := HLY.out.go kCol_ok hg9 (ab_no (by omega))
            have hnx := SpRel.next (q := colS) (s := s) (y := ⟨nm, ty, true, ub⟩) ni_colS hL9 (by rw [HQ0.out]; exact hps9) HR2.out hm hN (fun _ => by rw [HQ0.out])
            rw [HQ0.out] at hnx
            have HNX := hid hnx
            have HSB9 := hid hsb9
            clear hsb9 hL9 hnx hps9 hg9 HRUN HSBY HLY HPSY HSB HL HR2 HQ0 k0 k1 k2 k3 k5 k5' kfy
            generalize t4.is 4 ⟨#[44]⟩ = b9 at *
            go_wp2
            exact ⟨⟨b9, _, rfl, HSB9.out, HNX.out.1⟩, by rw [HLA.out]; exact HNX.out.2⟩
          | true =>
            rw [may_y hP] at hxb
            have HQ0 : Hid (colS s = (⟨nm, ty, true, true⟩, t4.step.need 1 ⟨#[107, 101, 121]⟩)) := hid (by unfold colS keyS; simp only [HNM.out, HT.out, HN.out, HU.out, hP, Bool.or_true, if_true])
            clear hP HNM HT HN HU
            obtain ⟨t5, ht5⟩ : ∃ t5, t4.step.need 1 ⟨#[107, 101, 121]⟩ = t5 := ⟨_, rfl⟩
            rw [ht5] at HQ0
            go_wp2_with fail
            have hAb := (Gr.refl wb).alloc (.cells #[.string ⟨#[107, 101, 121]⟩] 9)
            refine (words_one p _ ⟨#[107, 101, 121]⟩ t4.step _ (hxb.ps.keep hAb) (by rw [Rg.blk_cells (alloc_at _ _)]; rfl)).mono ?_
            rintro e wc ⟨rfl, hpsc, hgc⟩
            rw [ht5] at hpsc
            have hxc := hxb.go hpsc ((Go1.of hAb).trans hgc)
            clear hxb hpsc hgc hAb ht5
            have k0 := hxc.cell 0
            have k1 := hxc.cell 1
            have k2 := hxc.cell 2
            have k3 := hxc.cell 3
            simp only [cF, List.getElem?_cons_zero, List.getElem?_cons_succ] at k0 k1 k2 k3
            have kf := Rg.blk_free hxc.x
            have hxd : XB p w2 44 (cF ⟨nm, ty, true, true⟩) t5 ((wc.setCell ⟨w2.heap.size, 2, none⟩ (.bool true)).setCell ⟨w2.heap.size, 3, none⟩ (.bool true)) := (hxc.set 2 (.bool true)).set 3 (.bool true)
            clear hxc
            go_upto_region 21 with fail
            clear k0 k1 k2 k3 kf
            generalize World.setCell _ ⟨w2.heap.size, 3, none⟩ _ = wz at *
            have hxz := hxd
            clear hxd
            have k0 := hxz.cell 0
            have k1 := hxz.cell 1
            have k2 := hxz.cell 2
            have k3 := hxz.cell 3
            simp only [cF, List.getElem?_cons_zero, List.getElem?_cons_succ] at k0 k1 k2 k3
            have hsbz := HSB.out.go hxz.g
            have hLz := HL.out.go kCol_ok hxz.g (ab_no (by omega))
            have k5 : wz.cell? ⟨S0, 5, none⟩ = some v := hsbz.cell 5
            obtain ⟨v', wy, hrun, k5', kfy, hsby, hLy, hpsy, ⟨g9, m9, c9, rfl⟩, _⟩ := SB.push kCol_ok kt_col 23 (k := 5) (y := ⟨nm, ty, true, true⟩) (r := ⟨nm, ty, true, true⟩) (cl := #[.string nm, .int .i64 ty, .bool true, .bool true]) (fun b h => h) (fun b h => by have := hsbz.lt; show S0 + 1 ≤ b; omega) hsbz (by rw [SR.len]; decide) hLz (by omega) hxz.ps rfl rfl
            have HRUN := hid hrun
            have HSBY := hid hsby
            have HLY := hid hLy
            have HPSY := hid hpsy
            clear hsbz hLz hrun hsby hLy hpsy hxz
            go_wp2_with (at_builtin; refine Lib.wpList_append_run _ rfl _ _ _ _ rfl _ _ rfl rfl _ _ HRUN.out ?_)
            refine (sign_any' p ⟨#[44]⟩ t5 _ HPSY.out).mono ?_
            rintro e w9 ⟨rfl, hps9, hg9⟩
            have hsb9 := HSBY.out.go hg9
            have hL9 := HLY.out.go kCol_ok hg9 (ab_no (by omega))
            have hnx := SpRel.next (q := colS) (s := s) (y := ⟨nm, ty, true, true⟩) ni_colS hL9 (by rw [HQ0.out]; exact hps9) HR2.out hm hN (fun _ => by rw [HQ0.out])
            rw [HQ0.out] at hnx
            have HNX := hid hnx
            have HSB9 := hid hsb9
            clear hsb9 hL9 hnx hps9 hg9 HRUN HSBY HLY HPSY HSB HL HR2 HQ0 k0 k1 k2 k3 k5 k5' kfy
            generalize t5.is 4 ⟨#[44]⟩ = b9 at *
            go_wp2
            exact ⟨⟨b9, _, rfl, HSB9.out, HNX.out.1⟩, by rw [HLA.out]; exact HNX.out.2⟩
      | false =>
        rw [may_n hI] at hxt1
        go_wp2_with fail
        refine (word_any p ⟨#[116, 101, 120, 116]⟩ t1 _ hxt1.ps).mono ?_
        rintro e wt2 ⟨rfl, hpst2, hgt2⟩
        have hxt2 := hxt1.go hpst2 hgt2
        clear hxt1 hpst2 hgt2
        cases hJ : t1.is 1 ⟨#[116, 101, 120, 116]⟩ with
        | true =>
          rw [may_y hJ] at hxt2
          have HT : Hid (tyS t1 = (2, t1.step)) := hid (by unfold tyS; simp only [hI, hJ, if_true, Bool.false_eq_true, if_false])
          clear hJ hI
          have k0 := hxt2.cell 0
          have k1 := hxt2.cell 1
          have k2 := hxt2.cell 2
          have k3 := hxt2.cell 3
          simp only [cF, List.getElem?_cons_zero, List.getElem?_cons_succ] at k0 k1 k2 k3
          have kf := Rg.blk_free hxt2.x
          have hx6 : XB p w2 44 (cF ⟨nm, 2, false, false⟩) t1.step (wt2.setCell ⟨w2.heap.size, 1, none⟩ (.int .i64 2)) := hxt2.set 1 (.int .i64 2)
          clear hxt2
          go_wp2_with fail
          clear k0 k1 k2 k3 kf
          generalize World.setCell _ ⟨w2.heap.size, 1, none⟩ _ = w6 at *
          generalize t1.step = t2 at *
          obtain ⟨ty, hty⟩ : ∃ ty : Int, (2 : Int) = ty := ⟨_, rfl⟩
          rw [hty] at HT hx6
          clear hty
          refine (word_any p ⟨#[110, 111, 116]⟩ t2 _ hx6.ps).mono ?_
          rintro e w7 ⟨rfl, hps7, hg7⟩
          have hx7 := hx6.go hps7 hg7
          clear hx6 hps7 hg7
          cases hN : t2.is 1 ⟨#[110, 111, 116]⟩ with
          | false =>
            rw [may_n hN] at hx7
            have HN : Hid (nnS t2 = (false, t2)) := hid (by unfold nnS; rw [hN]; rfl)
            clear hN
            have hx8 := hx7
            clear hx7
            generalize w7 = w8 at *
            go_wp2_with fail
            refine (word_any p ⟨#[117, 110, 105, 113, 117, 101]⟩ t2 _ hx8.ps).mono ?_
            rintro e w9 ⟨rfl, hps9, hg9⟩
            have hx9 := hx8.go hps9 hg9
            clear hx8 hps9 hg9
            obtain ⟨ub, hub⟩ : ∃ ub, t2.is 1 ⟨#[117, 110, 105, 113, 117, 101]⟩ = ub := ⟨_, rfl⟩
            obtain ⟨t4, ht4⟩ : ∃ t4, (t2.may 1 ⟨#[117, 110, 105, 113, 117, 101]⟩).2 = t4 := ⟨_, rfl⟩
            rw [ht4] at hx9
            rw [hub]
            have HU : Hid (Ps.word ⟨#[117, 110, 105, 113, 117, 101]⟩ t2 = (ub, t4)) := hid (by rw [← hub, ← ht4]; unfold Ps.word Ps.may; split <;> simp_all)
            clear hub ht4
            have k0 := hx9.cell 0
            have k1 := hx9.cell 1
            have k2 := hx9.cell 2
            have k3 := hx9.cell 3
            simp only [cF, List.getElem?_cons_zero, List.getElem?_cons_succ] at k0 k1 k2 k3
            have kf := Rg.blk_free hx9.x
            have hxa0 : XB p w2 44 (cF ⟨nm, ty, false, ub⟩) t4 (w9.setCell ⟨w2.heap.size, 3, none⟩ (.bool ub)) := hx9.set 3 (.bool ub)
            clear hx9
            go_wp2_with fail
            clear k0 k1 k2 k3 kf
            generalize World.setCell w9 _ _ = wa at *
            have hxa := hxa0
            clear hxa0
            refine (word_any p ⟨#[112, 114, 105, 109, 97, 114, 121]⟩ t4 _ hxa.ps).mono ?_
            rintro e wb ⟨rfl, hpsb, hgb⟩
            have hxb := hxa.go hpsb hgb
            clear hxa hpsb hgb
            cases hP : t4.is 1 ⟨#[112, 114, 105, 109, 97, 114, 121]⟩ with
            | false =>
              rw [may_n hP] at hxb
              have HQ0 : Hid (colS s = (⟨nm, ty, false, ub⟩, t4)) := hid (by unfold colS keyS; simp only [HNM.out, HT.out, HN.out, HU.out, hP, Bool.or_false, Bool.false_eq_true, if_false])
              clear hP HNM HT HN HU
              have hxz := hxb
              clear hxb
              generalize wb = wz at *
              have k0 := hxz.cell 0
              have k1 := hxz.cell 1
              have k2 := hxz.cell 2
              have k3 := hxz.cell 3
              simp only [cF, List.getElem?_cons_zero, List.getElem?_cons_succ] at k0 k1 k2 k3
              have hsbz := HSB.out.go hxz.g
              have hLz := HL.out.go kCol_ok hxz.g (ab_no (by omega))
              have k5 : wz.cell? ⟨S0, 5, none⟩ = some v := hsbz.cell 5
              obtain ⟨v', wy, hrun, k5', kfy, hsby, hLy, hpsy, ⟨g9, m9, c9, rfl⟩, _⟩ := SB.push kCol_ok kt_col 23 (k := 5) (y := ⟨nm, ty, false, ub⟩) (r := ⟨nm, ty, false, ub⟩) (cl := #[.string nm, .int .i64 ty, .bool false, .bool ub]) (fun b h => h) (fun b h => by have := hsbz.lt; show S0 + 1 ≤ b; omega) hsbz (by rw [SR.len]; decide) hLz (by omega) hxz.ps rfl rfl
              have HRUN := hid hrun
              have HSBY := hid hsby
              have HLY := hid hLy
              have HPSY := hid hpsy
              clear hsbz hLz hrun hsby hLy hpsy hxz
              go_wp2_with (at_builtin; refine Lib.wpList_append_run _ rfl _ _ _ _ rfl _ _ rfl rfl _ _ HRUN.out ?_)
              refine (sign_any' p ⟨#[44]⟩ t4 _ HPSY.out).mono ?_
              rintro e w9 ⟨rfl, hps9, hg9⟩
              have hsb9 := HSBY.out.go hg9
              have hL9 := HLY.out.go kCol_ok hg9 (ab_no (by omega))
              have hnx := SpRel.next (q := colS) (s := s) (y := ⟨nm, ty, false, ub⟩) ni_colS hL9 (by rw [HQ0.out]; exact hps9) HR2.out hm hN (fun _ => by rw [HQ0.out])
              rw [HQ0.out] at hnx
              have HNX := hid hnx
              have HSB9 := hid hsb9
              clear hsb9 hL9 hnx hps9 hg9 HRUN HSBY HLY HPSY HSB HL HR2 HQ0 k0 k1 k2 k3 k5 k5' kfy
              generalize t4.is 4 ⟨#[44]⟩ = b9 at *
              go_wp2
              exact ⟨⟨b9, _, rfl, HSB9.out, HNX.out.1⟩, by rw [HLA.out]; exact HNX.out.2⟩
            | true =>
              rw [may_y hP] at hxb
              have HQ0 : Hid (colS s = (⟨nm, ty, true, true⟩, t4.step.need 1 ⟨#[107, 101, 121]⟩)) := hid (by unfold colS keyS; simp only [HNM.out, HT.out, HN.out, HU.out, hP, Bool.or_true, if_true])
              clear hP HNM HT HN HU
              obtain ⟨t5, ht5⟩ : ∃ t5, t4.step.need 1 ⟨#[107, 101, 121]⟩ = t5 := ⟨_, rfl⟩
              rw [ht5] at HQ0
              go_wp2_with fail
              have hAb := (Gr.refl wb).alloc (.cells #[.string ⟨#[107, 101, 121]⟩] 9)
              refine (words_one p _ ⟨#[107, 101, 121]⟩ t4.step _ (hxb.ps.keep hAb) (by rw [Rg.blk_cells (alloc_at _ _)]; rfl)).mono ?_
              rintro e wc ⟨rfl, hpsc, hgc⟩
              rw [ht5] at hpsc
              have hxc := hxb.go hpsc ((Go1.of hAb).trans hgc)
              clear hxb hpsc hgc hAb ht5
              have k0 := hxc.cell 0
              have k1 := hxc.cell 1
              have k2 := hxc.cell 2
              have k3 := hxc.cell 3
              simp only [cF, List.getElem?_cons_zero, List.getElem?_cons_succ] at k0 k1 k2 k3
              have kf := Rg.blk_free hxc.x
              have hxd : XB p w2 44 (cF ⟨nm, ty, true, true⟩) t5 ((wc.setCell ⟨w2.heap.size, 2, none⟩ (.bool true)).setCell ⟨w2.heap.size, 3, none⟩ (.bool true)) := (hxc.set 2 (.bool true)).set 3 (.bool true)
              clear hxc
              go_upto_region 21 with fail
              clear k0 k1 k2 k3 kf
              generalize World.setCell _ ⟨w2.heap.size, 3, none⟩ _ = wz at *
              have hxz := hxd
              clear hxd
              have k0 := hxz.cell 0
              have k1 := hxz.cell 1
              have k2 := hxz.cell 2
              have k3 := hxz.cell 3
              simp only [cF, List.getElem?_cons_zero, List.getElem?_cons_succ] at k0 k1 k2 k3
              have hsbz := HSB.out.go hxz.g
              have hLz := HL.out.go kCol_ok hxz.g (ab_no (by omega))
              have k5 : wz.cell? ⟨S0, 5, none⟩ = some v := hsbz.cell 5
              obtain ⟨v', wy, hrun, k5', kfy, hsby, hLy, hpsy, ⟨g9, m9, c9, rfl⟩, _⟩ := SB.push kCol_ok kt_col 23 (k := 5) (y := ⟨nm, ty, true, true⟩) (r := ⟨nm, ty, true, true⟩) (cl := #[.string nm, .int .i64 ty, .bool true, .bool true]) (fun b h => h) (fun b h => by have := hsbz.lt; show S0 + 1 ≤ b; omega) hsbz (by rw [SR.len]; decide) hLz (by omega) hxz.ps rfl rfl
              have HRUN := hid hrun
              have HSBY := hid hsby
              have HLY := hid hLy
              have HPSY := hid hpsy
              clear hsbz hLz hrun hsby hLy hpsy hxz
              go_wp2_with (at_builtin; refine Lib.wpList_append_run _ rfl _ _ _ _ rfl _ _ rfl rfl _ _ HRUN.out ?_)
              refine (sign_any' p ⟨#[44]⟩ t5 _ HPSY.out).mono ?_
              rintro e w9 ⟨rfl, hps9, hg9⟩
              have hsb9 := HSBY.out.go hg9
              have hL9 := HLY.out.go kCol_ok hg9 (ab_no (by omega))
              have hnx := SpRel.next (q := colS) (s := s) (y := ⟨nm, ty, true, true⟩) ni_colS hL9 (by rw [HQ0.out]; exact hps9) HR2.out hm hN (fun _ => by rw [HQ0.out])
              rw [HQ0.out] at hnx
              have HNX := hid hnx
              have HSB9 := hid hsb9
              clear hsb9 hL9 hnx hps9 hg9 HRUN HSBY HLY HPSY HSB HL HR2 HQ0 k0 k1 k2 k3 k5 k5' kfy
              generalize t5.is 4 ⟨#[44]⟩ = b9 at *
              go_wp2
              exact ⟨⟨b9, _, rfl, HSB9.out, HNX.out.1⟩, by rw [HLA.out]; exact HNX.out.2⟩
          | true =>
            rw [may_y hN] at hx7
            have HN : Hid (nnS t2 = (true, t2.step.need 1 ⟨#[110, 117, 108, 108]⟩)) := hid (by unfold nnS; rw [hN]; rfl)
            clear hN
            obtain ⟨t3, ht3⟩ : ∃ t3, t2.step.need 1 ⟨#[110, 117, 108, 108]⟩ = t3 := ⟨_, rfl⟩
            rw [ht3] at HN
            go_wp2_with fail
            have hA7 := (Gr.refl w7).alloc (.cells #[.string ⟨#[110, 117, 108, 108]⟩] 9)
            refine (words_one p _ ⟨#[110, 117, 108, 108]⟩ t2.step _ (hx7.ps.keep hA7) (by rw [Rg.blk_cells (alloc_at _ _)]; rfl)).mono ?_
            rintro e w7b ⟨rfl, hps7b, hg7b⟩
            rw [ht3] at hps7b
            have hx7b := hx7.go hps7b ((Go1.of hA7).trans hg7b)
            clear hx7 hps7b hg7b hA7 ht3
            have k0 := hx7b.cell 0
            have k1 := hx7b.cell 1
            have k2 := hx7b.cell 2
            have k3 := hx7b.cell 3
            simp only [cF, List.getElem?_cons_zero, List.getElem?_cons_succ] at k0 k1 k2 k3
            have kf := Rg.blk_free hx7b.x
            have hx8 : XB p w2 44 (cF ⟨nm, ty, true, false⟩) t3 (w7b.setCell ⟨w2.heap.size, 2, none⟩ (.bool true)) := hx7b.set 2 (.bool true)
            clear hx7b
            go_wp2_with fail
            clear k0 k1 k2 k3 kf
            generalize World.setCell _ ⟨w2.heap.size, 2, none⟩ _ = w8 at *
            refine (word_any p ⟨#[117, 110, 105, 113, 117, 101]⟩ t3 _ hx8.ps).mono ?_
            rintro e w9 ⟨rfl, hps9, hg9⟩
            have hx9 := hx8.go hps9 hg9
            clear hx8 hps9 hg9
            obtain ⟨ub, hub⟩ : ∃ ub, t3.is 1 ⟨#[117, 110, 105, 113, 117, 101]⟩ = ub := ⟨_, rfl⟩
            obtain ⟨t4, ht4⟩ : ∃ t4, (t3.may 1 ⟨#[117, 110, 105, 113, 117, 101]⟩).2 = t4 := ⟨_, rfl⟩
            rw [ht4] at hx9
            rw [hub]
            have HU : Hid (Ps.word ⟨#[117, 110, 105, 113, 117, 101]⟩ t3 = (ub, t4)) := hid (by rw [← hub, ← ht4]; unfold Ps.word Ps.may; split <;> simp_all)
            clear hub ht4
            have k0 := hx9.cell 0
            have k1 := hx9.cell 1
            have k2 := hx9.cell 2
            have k3 := hx9.cell 3
            simp only [cF, List.getElem?_cons_zero, List.getElem?_cons_succ] at k0 k1 k2 k3
            have kf := Rg.blk_free hx9.x
            have hxa0 : XB p w2 44 (cF ⟨nm, ty, true, ub⟩) t4 (w9.setCell ⟨w2.heap.size, 3, none⟩ (.bool ub)) := hx9.set 3 (.bool ub)
            clear hx9
            go_wp2_with fail
            clear k0 k1 k2 k3 kf
            generalize World.setCell w9 _ _ = wa at *
            have hxa := hxa0
            clear hxa0
            refine (word_any p ⟨#[112, 114, 105, 109, 97, 114, 121]⟩ t4 _ hxa.ps).mono ?_
            rintro e wb ⟨rfl, hpsb, hgb⟩
            have hxb := hxa.go hpsb hgb
            clear hxa hpsb hgb
            cases hP : t4.is 1 ⟨#[112, 114, 105, 109, 97, 114, 121]⟩ with
            | false =>
              rw [may_n hP] at hxb
              have HQ0 : Hid (colS s = (⟨nm, ty, true, ub⟩, t4)) := hid (by unfold colS keyS; simp only [HNM.out, HT.out, HN.out, HU.out, hP, Bool.or_false, Bool.false_eq_true, if_false])
              clear hP HNM HT HN HU
              have hxz := hxb
              clear hxb
              generalize wb = wz at *
              have k0 := hxz.cell 0
              have k1 := hxz.cell 1
              have k2 := hxz.cell 2
              have k3 := hxz.cell 3
              simp only [cF, List.getElem?_cons_zero, List.getElem?_cons_succ] at k0 k1 k2 k3
              have hsbz := HSB.out.go hxz.g
              have hLz := HL.out.go kCol_ok hxz.g (ab_no (by omega))
              have k5 : wz.cell? ⟨S0, 5, none⟩ = some v := hsbz.cell 5
              obtain ⟨v', wy, hrun, k5', kfy, hsby, hLy, hpsy, ⟨g9, m9, c9, rfl⟩, _⟩ := SB.push kCol_ok kt_col 23 (k := 5) (y := ⟨nm, ty, true, ub⟩) (r := ⟨nm, ty, true, ub⟩) (cl := #[.string nm, .int .i64 ty, .bool true, .bool ub]) (fun b h => h) (fun b h => by have := hsbz.lt; show S0 + 1 ≤ b; omega) hsbz (by rw [SR.len]; decide) hLz (by omega) hxz.ps rfl rfl
              have HRUN := hid hrun
              have HSBY := hid hsby
              have HLY := hid hLy
              have HPSY := hid hpsy
              clear hsbz hLz hrun hsby hLy hpsy hxz
              go_wp2_with (at_builtin; refine Lib.wpList_append_run _ rfl _ _ _ _ rfl _ _ rfl rfl _ _ HRUN.out ?_)
              refine (sign_any' p ⟨#[44]⟩ t4 _ HPSY.out).mono ?_
              rintro e w9 ⟨rfl, hps9, hg9⟩
              have hsb9 := HSBY.out.go hg9
              have hL9 := HLY.out.go kCol_ok hg9 (ab_no (by omega))
              have hnx := SpRel.next (q := colS) (s := s) (y := ⟨nm, ty, true, ub⟩) ni_colS hL9 (by rw [HQ0.out]; exact hps9) HR2.out hm hN (fun _ => by rw [HQ0.out])
              rw [HQ0.out] at hnx
              have HNX := hid hnx
              have HSB9 := hid hsb9
              clear hsb9 hL9 hnx hps9 hg9 HRUN HSBY HLY HPSY HSB HL HR2 HQ0 k0 k1 k2 k3 k5 k5' kfy
              generalize t4.is 4 ⟨#[44]⟩ = b9 at *
              go_wp2
              exact ⟨⟨b9, _, rfl, HSB9.out, HNX.out.1⟩, by rw [HLA.out]; exact HNX.out.2⟩
            | true =>
              rw [may_y hP] at hxb
              have HQ0 : Hid (colS s = (⟨nm, ty, true, true⟩, t4.step.need 1 ⟨#[107, 101, 121]⟩)) := hid (by unfold colS keyS; simp only [HNM.out, HT.out, HN.out, HU.out, hP, Bool.or_true, if_true])
              clear hP HNM HT HN HU
              obtain ⟨t5, ht5⟩ : ∃ t5, t4.step.need 1 ⟨#[107, 101, 121]⟩ = t5 := ⟨_, rfl⟩
              rw [ht5] at HQ0
              go_wp2_with fail
              have hAb := (Gr.refl wb).alloc (.cells #[.string ⟨#[107, 101, 121]⟩] 9)
              refine (words_one p _ ⟨#[107, 101, 121]⟩ t4.step _ (hxb.ps.keep hAb) (by rw [Rg.blk_cells (alloc_at _ _)]; rfl)).mono ?_
              rintro e wc ⟨rfl, hpsc, hgc⟩
              rw [ht5] at hpsc
              have hxc := hxb.go hpsc ((Go1.of hAb).trans hgc)
              clear hxb hpsc hgc hAb ht5
              have k0 := hxc.cell 0
              have k1 := hxc.cell 1
              have k2 := hxc.cell 2
              have k3 := hxc.cell 3
              simp only [cF, List.getElem?_cons_zero, List.getElem?_cons_succ] at k0 k1 k2 k3
              have kf := Rg.blk_free hxc.x
              have hxd : XB p w2 44 (cF ⟨nm, ty, true, true⟩) t5 ((wc.setCell ⟨w2.heap.size, 2, none⟩ (.bool true)).setCell ⟨w2.heap.size, 3, none⟩ (.bool true)) := (hxc.set 2 (.bool true)).set 3 (.bool true)
              clear hxc
              go_upto_region 21 with fail
              clear k0 k1 k2 k3 kf
              generalize World.setCell _ ⟨w2.heap.size, 3, none⟩ _ = wz at *
              have hxz := hxd
              clear hxd
              have k0 := hxz.cell 0
              have k1 := hxz.cell 1
              have k2 := hxz.cell 2
              have k3 := hxz.cell 3
              simp only [cF, List.getElem?_cons_zero, List.getElem?_cons_succ] at k0 k1 k2 k3
              have hsbz := HSB.out.go hxz.g
              have hLz := HL.out.go kCol_ok hxz.g (ab_no (by omega))
              have k5 : wz.cell? ⟨S0, 5, none⟩ = some v := hsbz.cell 5
              obtain ⟨v', wy, hrun, k5', kfy, hsby, hLy, hpsy, ⟨g9, m9, c9, rfl⟩, _⟩ := SB.push kCol_ok kt_col 23 (k := 5) (y := ⟨nm, ty, true, true⟩) (r := ⟨nm, ty, true, true⟩) (cl := #[.string nm, .int .i64 ty, .bool true, .bool true]) (fun b h => h) (fun b h => by have := hsbz.lt; show S0 + 1 ≤ b; omega) hsbz (by rw [SR.len]; decide) hLz (by omega) hxz.ps rfl rfl
              have HRUN := hid hrun
              have HSBY := hid hsby
              have HLY := hid hLy
              have HPSY := hid hpsy
              clear hsbz hLz hrun hsby hLy hpsy hxz
              go_wp2_with (at_builtin; refine Lib.wpList_append_run _ rfl _ _ _ _ rfl _ _ rfl rfl _ _ HRUN.out ?_)
              refine (sign_any' p ⟨#[44]⟩ t5 _ HPSY.out).mono ?_
              rintro e w9 ⟨rfl, hps9, hg9⟩
              have hsb9 := HSBY.out.go hg9
              have hL9 := HLY.out.go kCol_ok hg9 (ab_no (by omega))
              have hnx := SpRel.next (q := colS) (s := s) (y := ⟨nm, ty, true, true⟩) ni_colS hL9 (by rw [HQ0.out]; exact hps9) HR2.out hm hN (fun _ => by rw [HQ0.out])
              rw [HQ0.out] at hnx
              have HNX := hid hnx
              have HSB9 := hid hsb9
              clear hsb9 hL9 hnx hps9 hg9 HRUN HSBY HLY HPSY HSB HL HR2 HQ0 k0 k1 k2 k3 k5 k5' kfy
              generalize t5.is 4 ⟨#[44]⟩ = b9 at *
              go_wp2
              exact ⟨⟨b9, _, rfl, HSB9.out, HNX.out.1⟩, by rw [HLA.out]; exact HNX.out.2⟩
        | false =>
          rw [may_n hJ] at hxt2
          go_wp2_with fail
          refine (word_any p ⟨#[98, 111, 111, 108]⟩ t1 _ hxt2.ps).mono ?_
          rintro e wt3 ⟨rfl, hpst3, hgt3⟩
          have hxt3 := hxt2.go hpst3 hgt3
          clear hxt2 hpst3 hgt3
          cases hK : t1.is 1 ⟨#[98, 111, 111, 108]⟩ with
          | true =>
            rw [may_y hK] at hxt3
            have HT : Hid (tyS t1 = (3, t1.step)) := hid (by unfold tyS; simp only [hI, hJ, hK, if_true, Bool.false_eq_true, if_false])
            clear hK hI hJ
            have k0 := hxt3.cell 0
            have k1 := hxt3.cell 1
            have k2 := hxt3.cell 2
            have k3 := hxt3.cell 3
            simp only [cF, List.getElem?_cons_zero, List.getElem?_cons_succ] at k0 k1 k2 k3
            have kf := Rg.blk_free hxt3.x
            have hx6 : XB p w2 44 (cF ⟨nm, 3, false, false⟩) t1.step (wt3.setCell ⟨w2.heap.size, 1, none⟩ (.int .i64 3)) := hxt3.set 1 (.int .i64 3)
            clear hxt3
            go_wp2_with fail
            clear k0 k1 k2 k3 kf
            generalize World.setCell _ ⟨w2.heap.size, 1, none⟩ _ = w6 at *
            generalize t1.step = t2 at *
            obtain ⟨ty, hty⟩ : ∃ ty : Int, (3 : Int) = ty := ⟨_, rfl⟩
            rw [hty] at HT hx6
            clear hty
            refine (word_any p ⟨#[110, 111, 116]⟩ t2 _ hx6.ps).mono ?_
            rintro e w7 ⟨rfl, hps7, hg7⟩
            have hx7 := hx6.go hps7 hg7
            clear hx6 hps7 hg7
            cases hN : t2.is 1 ⟨#[110, 111, 116]⟩ with
            | false =>
              rw [may_n hN] at hx7
              have HN : Hid (nnS t2 = (false, t2)) := hid (by unfold nnS; rw [hN]; rfl)
              clear hN
              have hx8 := hx7
              clear hx7
              generalize w7 = w8 at *
              go_wp2_with fail
              refine (word_any p ⟨#[117, 110, 105, 113, 117, 101]⟩ t2 _ hx8.ps).mono ?_
              rintro e w9 ⟨rfl, hps9, hg9⟩
              have hx9 := hx8.go hps9 hg9
              clear hx8 hps9 hg9
              obtain ⟨ub, hub⟩ : ∃ ub, t2.is 1 ⟨#[117, 110, 105, 113, 117, 101]⟩ = ub := ⟨_, rfl⟩
              obtain ⟨t4, ht4⟩ : ∃ t4, (t2.may 1 ⟨#[117, 110, 105, 113, 117, 101]⟩).2 = t4 := ⟨_, rfl⟩
              rw [ht4] at hx9
              rw [hub]
              have HU : Hid (Ps.word ⟨#[117, 110, 105, 113, 117, 101]⟩ t2 = (ub, t4)) := hid (by rw [← hub, ← ht4]; unfold Ps.word Ps.may; split <;> simp_all)
              clear hub ht4
              have k0 := hx9.cell 0
              have k1 := hx9.cell 1
              have k2 := hx9.cell 2
              have k3 := hx9.cell 3
              simp only [cF, List.getElem?_cons_zero, List.getElem?_cons_succ] at k0 k1 k2 k3
              have kf := Rg.blk_free hx9.x
              have hxa0 : XB p w2 44 (cF ⟨nm, ty, false, ub⟩) t4 (w9.setCell ⟨w2.heap.size, 3, none⟩ (.bool ub)) := hx9.set 3 (.bool ub)
              clear hx9
              go_wp2_with fail
              clear k0 k1 k2 k3 kf
              generalize World.setCell w9 _ _ = wa at *
              have hxa := hxa0
              clear hxa0
              refine (word_any p ⟨#[112, 114, 105, 109, 97, 114, 121]⟩ t4 _ hxa.ps).mono ?_
              rintro e wb ⟨rfl, hpsb, hgb⟩
              have hxb := hxa.go hpsb hgb
              clear hxa hpsb hgb
              cases hP : t4.is 1 ⟨#[112, 114, 105, 109, 97, 114, 121]⟩ with
              | false =>
                rw [may_n hP] at hxb
                have HQ0 : Hid (colS s = (⟨nm, ty, false, ub⟩, t4)) := hid (by unfold colS keyS; simp only [HNM.out, HT.out, HN.out, HU.out, hP, Bool.or_false, Bool.false_eq_true, if_false])
                clear hP HNM HT HN HU
                have hxz := hxb
                clear hxb
                generalize wb = wz at *
                have k0 := hxz.cell 0
                have k1 := hxz.cell 1
                have k2 := hxz.cell 2
                have k3 := hxz.cell 3
                simp only [cF, List.getElem?_cons_zero, List.getElem?_cons_succ] at k0 k1 k2 k3
                have hsbz := HSB.out.go hxz.g
                have hLz := HL.out.go kCol_ok hxz.g (ab_no (by omega))
                have k5 : wz.cell? ⟨S0, 5, none⟩ = some v := hsbz.cell 5
                obtain ⟨v', wy, hrun, k5', kfy, hsby, hLy, hpsy, ⟨g9, m9, c9, rfl⟩, _⟩ := SB.push kCol_ok kt_col 23 (k := 5) (y := ⟨nm, ty, false, ub⟩) (r := ⟨nm, ty, false, ub⟩) (cl := #[.string nm, .int .i64 ty, .bool false, .bool ub]) (fun b h => h) (fun b h => by have := hsbz.lt; show S0 + 1 ≤ b; omega) hsbz (by rw [SR.len]; decide) hLz (by omega) hxz.ps rfl rfl
                have HRUN := hid hrun
                have HSBY := hid hsby
                have HLY := hid hLy
                have HPSY := hid hpsy
                clear hsbz hLz hrun hsby hLy hpsy hxz
                go_wp2_with (at_builtin; refine Lib.wpList_append_run _ rfl _ _ _ _ rfl _ _ rfl rfl _ _ HRUN.out ?_)
                refine (sign_any' p ⟨#[44]⟩ t4 _ HPSY.out).mono ?_
                rintro e w9 ⟨rfl, hps9, hg9⟩
                have hsb9 := HSBY.out.go hg9
                have hL9 := HLY.out.go kCol_ok hg9 (ab_no (by omega))
                have hnx := SpRel.next (q := colS) (s := s) (y := ⟨nm, ty, false, ub⟩) ni_colS hL9 (by rw [HQ0.out]; exact hps9) HR2.out hm hN (fun _ => by rw [HQ0.out])
                rw [HQ0.out] at hnx
                have HNX := hid hnx
                have HSB9 := hid hsb9
                clear hsb9 hL9 hnx hps9 hg9 HRUN HSBY HLY HPSY HSB HL HR2 HQ0 k0 k1 k2 k3 k5 k5' kfy
                generalize t4.is 4 ⟨#[44]⟩ = b9 at *
                go_wp2
                exact ⟨⟨b9, _, rfl, HSB9.out, HNX.out.1⟩, by rw [HLA.out]; exact HNX.out.2⟩
              | true =>
                rw [may_y hP] at hxb
                have HQ0 : Hid (colS s = (⟨nm, ty, true, true⟩, t4.step.need 1 ⟨#[107, 101, 121]⟩)) := hid (by unfold colS keyS; simp only [HNM.out, HT.out, HN.out, HU.out, hP, Bool.or_true, if_true])
                clear hP HNM HT HN HU
                obtain ⟨t5, ht5⟩ : ∃ t5, t4.step.need 1 ⟨#[107, 101, 121]⟩ = t5 := ⟨_, rfl⟩
                rw [ht5] at HQ0
                go_wp2_with fail
                have hAb := (Gr.refl wb).alloc (.cells #[.string ⟨#[107, 101, 121]⟩] 9)
                refine (words_one p _ ⟨#[107, 101, 121]⟩ t4.step _ (hxb.ps.keep hAb) (by rw [Rg.blk_cells (alloc_at _ _)]; rfl)).mono ?_
                rintro e wc ⟨rfl, hpsc, hgc⟩
                rw [ht5] at hpsc
                have hxc := hxb.go hpsc ((Go1.of hAb).trans hgc)
                clear hxb hpsc hgc hAb ht5
                have k0 := hxc.cell 0
                have k1 := hxc.cell 1
                have k2 := hxc.cell 2
                have k3 := hxc.cell 3
                simp only [cF, List.getElem?_cons_zero, List.getElem?_cons_succ] at k0 k1 k2 k3
                have kf := Rg.blk_free hxc.x
                have hxd : XB p w2 44 (cF ⟨nm, ty, true, true⟩) t5 ((wc.setCell ⟨w2.heap.size, 2, none⟩ (.bool true)).setCell ⟨w2.heap.size, 3, none⟩ (.bool true)) := (hxc.set 2 (.bool true)).set 3 (.bool true)
                clear hxc
                go_upto_region 21 with fail
                clear k0 k1 k2 k3 kf
                generalize World.setCell _ ⟨w2.heap.size, 3, none⟩ _ = wz at *
                have hxz := hxd
                clear hxd
                have k0 := hxz.cell 0
                have k1 := hxz.cell 1
                have k2 := hxz.cell 2
                have k3 := hxz.cell 3
                simp only [cF, List.getElem?_cons_zero, List.getElem?_cons_succ] at k0 k1 k2 k3
                have hsbz := HSB.out.go hxz.g
                have hLz := HL.out.go kCol_ok hxz.g (ab_no (by omega))
                have k5 : wz.cell? ⟨S0, 5, none⟩ = some v := hsbz.cell 5
                obtain ⟨v', wy, hrun, k5', kfy, hsby, hLy, hpsy, ⟨g9, m9, c9, rfl⟩, _⟩ := SB.push kCol_ok kt_col 23 (k := 5) (y := ⟨nm, ty, true, true⟩) (r := ⟨nm, ty, true, true⟩) (cl := #[.string nm, .int .i64 ty, .bool true, .bool true]) (fun b h => h) (fun b h => by have := hsbz.lt; show S0 + 1 ≤ b; omega) hsbz (by rw [SR.len]; decide) hLz (by omega) hxz.ps rfl rfl
                have HRUN := hid hrun
                have HSBY := hid hsby
                have HLY := hid hLy
                have HPSY := hid hpsy
                clear hsbz hLz hrun hsby hLy hpsy hxz
                go_wp2_with (at_builtin; refine Lib.wpList_append_run _ rfl _ _ _ _ rfl _ _ rfl rfl _ _ HRUN.out ?_)
                refine (sign_any' p ⟨#[44]⟩ t5 _ HPSY.out).mono ?_
                rintro e w9 ⟨rfl, hps9, hg9⟩
                have hsb9 := HSBY.out.go hg9
                have hL9 := HLY.out.go kCol_ok hg9 (ab_no (by omega))
                have hnx := SpRel.next (q := colS) (s := s) (y := ⟨nm, ty, true, true⟩) ni_colS hL9 (by rw [HQ0.out]; exact hps9) HR2.out hm hN (fun _ => by rw [HQ0.out])
                rw [HQ0.out] at hnx
                have HNX := hid hnx
                have HSB9 := hid hsb9
                clear hsb9 hL9 hnx hps9 hg9 HRUN HSBY HLY HPSY HSB HL HR2 HQ0 k0 k1 k2 k3 k5 k5' kfy
                generalize t5.is 4 ⟨#[44]⟩ = b9 at *
                go_wp2
                exact ⟨⟨b9, _, rfl, HSB9.out, HNX.out.1⟩, by rw [HLA.out]; exact HNX.out.2⟩
            | true =>
              rw [may_y hN] at hx7
              have HN : Hid (nnS t2 = (true, t2.step.need 1 ⟨#[110, 117, 108, 108]⟩)) := hid (by unfold nnS; rw [hN]; rfl)
              clear hN
              obtain ⟨t3, ht3⟩ : ∃ t3, t2.step.need 1 ⟨#[110, 117, 108, 108]⟩ = t3 := ⟨_, rfl⟩
              rw [ht3] at HN
              go_wp2_with fail
              have hA7 := (Gr.refl w7).alloc (.cells #[.string ⟨#[110, 117, 108, 108]⟩] 9)
              refine (words_one p _ ⟨#[110, 117, 108, 108]⟩ t2.step _ (hx7.ps.keep hA7) (by rw [Rg.blk_cells (alloc_at _ _)]; rfl)).mono ?_
              rintro e w7b ⟨rfl, hps7b, hg7b⟩
              rw [ht3] at hps7b
              have hx7b := hx7.go hps7b ((Go1.of hA7).trans hg7b)
              clear hx7 hps7b hg7b hA7 ht3
              have k0 := hx7b.cell 0
              have k1 := hx7b.cell 1
              have k2 := hx7b.cell 2
              have k3 := hx7b.cell 3
              simp only [cF, List.getElem?_cons_zero, List.getElem?_cons_succ] at k0 k1 k2 k3
              have kf := Rg.blk_free hx7b.x
              have hx8 : XB p w2 44 (cF ⟨nm, ty, true, false⟩) t3 (w7b.setCell ⟨w2.heap.size, 2, none⟩ (.bool true)) := hx7b.set 2 (.bool true)
              clear hx7b
              go_wp2_with fail
              clear k0 k1 k2 k3 kf
              generalize World.setCell _ ⟨w2.heap.size, 2, none⟩ _ = w8 at *
              refine (word_any p ⟨#[117, 110, 105, 113, 117, 101]⟩ t3 _ hx8.ps).mono ?_
              rintro e w9 ⟨rfl, hps9, hg9⟩
              have hx9 := hx8.go hps9 hg9
              clear hx8 hps9 hg9
              obtain ⟨ub, hub⟩ : ∃ ub, t3.is 1 ⟨#[117, 110, 105, 113, 117, 101]⟩ = ub := ⟨_, rfl⟩
              obtain ⟨t4, ht4⟩ : ∃ t4, (t3.may 1 ⟨#[117, 110, 105, 113, 117, 101]⟩).2 = t4 := ⟨_, rfl⟩
              rw [ht4] at hx9
              rw [hub]
              have HU : Hid (Ps.word ⟨#[117, 110, 105, 113, 117, 101]⟩ t3 = (ub, t4)) := hid (by rw [← hub, ← ht4]; unfold Ps.word Ps.may; split <;> simp_all)
              clear hub ht4
              have k0 := hx9.cell 0
              have k1 := hx9.cell 1
              have k2 := hx9.cell 2
              have k3 := hx9.cell 3
              simp only [cF, List.getElem?_cons_zero, List.getElem?_cons_succ] at k0 k1 k2 k3
              have kf := Rg.blk_free hx9.x
              have hxa0 : XB p w2 44 (cF ⟨nm, ty, true, ub⟩) t4 (w9.setCell ⟨w2.heap.size, 3, none⟩ (.bool ub)) := hx9.set 3 (.bool ub)
              clear hx9
              go_wp2_with fail
              clear k0 k1 k2 k3 kf
              generalize World.setCell w9 _ _ = wa at *
              have hxa := hxa0
              clear hxa0
              refine (word_any p ⟨#[112, 114, 105, 109, 97, 114, 121]⟩ t4 _ hxa.ps).mono ?_
              rintro e wb ⟨rfl, hpsb, hgb⟩
              have hxb := hxa.go hpsb hgb
              clear hxa hpsb hgb
              cases hP : t4.is 1 ⟨#[112, 114, 105, 109, 97, 114, 121]⟩ with
              | false =>
                rw [may_n hP] at hxb
                have HQ0 : Hid (colS s = (⟨nm, ty, true, ub⟩, t4)) := hid (by unfold colS keyS; simp only [HNM.out, HT.out, HN.out, HU.out, hP, Bool.or_false, Bool.false_eq_true, if_false])
                clear hP HNM HT HN HU
                have hxz := hxb
                clear hxb
                generalize wb = wz at *
                have k0 := hxz.cell 0
                have k1 := hxz.cell 1
                have k2 := hxz.cell 2
                have k3 := hxz.cell 3
                simp only [cF, List.getElem?_cons_zero, List.getElem?_cons_succ] at k0 k1 k2 k3
                have hsbz := HSB.out.go hxz.g
                have hLz := HL.out.go kCol_ok hxz.g (ab_no (by omega))
                have k5 : wz.cell? ⟨S0, 5, none⟩ = some v := hsbz.cell 5
                obtain ⟨v', wy, hrun, k5', kfy, hsby, hLy, hpsy, ⟨g9, m9, c9, rfl⟩, _⟩ := SB.push kCol_ok kt_col 23 (k := 5) (y := ⟨nm, ty, true, ub⟩) (r := ⟨nm, ty, true, ub⟩) (cl := #[.string nm, .int .i64 ty, .bool true, .bool ub]) (fun b h => h) (fun b h => by have := hsbz.lt; show S0 + 1 ≤ b; omega) hsbz (by rw [SR.len]; decide) hLz (by omega) hxz.ps rfl rfl
                have HRUN := hid hrun
                have HSBY := hid hsby
                have HLY := hid hLy
                have HPSY := hid hpsy
                clear hsbz hLz hrun hsby hLy hpsy hxz
                go_wp2_with (at_builtin; refine Lib.wpList_append_run _ rfl _ _ _ _ rfl _ _ rfl rfl _ _ HRUN.out ?_)
                refine (sign_any' p ⟨#[44]⟩ t4 _ HPSY.out).mono ?_
                rintro e w9 ⟨rfl, hps9, hg9⟩
                have hsb9 := HSBY.out.go hg9
                have hL9 := HLY.out.go kCol_ok hg9 (ab_no (by omega))
                have hnx := SpRel.next (q := colS) (s := s) (y := ⟨nm, ty, true, ub⟩) ni_colS hL9 (by rw [HQ0.out]; exact hps9) HR2.out hm hN (fun _ => by rw [HQ0.out])
                rw [HQ0.out] at hnx
                have HNX := hid hnx
                have HSB9 := hid hsb9
                clear hsb9 hL9 hnx hps9 hg9 HRUN HSBY HLY HPSY HSB HL HR2 HQ0 k0 k1 k2 k3 k5 k5' kfy
                generalize t4.is 4 ⟨#[44]⟩ = b9 at *
                go_wp2
                exact ⟨⟨b9, _, rfl, HSB9.out, HNX.out.1⟩, by rw [HLA.out]; exact HNX.out.2⟩
              | true =>
                rw [may_y hP] at hxb
                have HQ0 : Hid (colS s = (⟨nm, ty, true, true⟩, t4.step.need 1 ⟨#[107, 101, 121]⟩)) := hid (by unfold colS keyS; simp only [HNM.out, HT.out, HN.out, HU.out, hP, Bool.or_true, if_true])
                clear hP HNM HT HN HU
                obtain ⟨t5, ht5⟩ : ∃ t5, t4.step.need 1 ⟨#[107, 101, 121]⟩ = t5 := ⟨_, rfl⟩
                rw [ht5] at HQ0
                go_wp2_with fail
                have hAb := (Gr.refl wb).alloc (.cells #[.string ⟨#[107, 101, 121]⟩] 9)
                refine (words_one p _ ⟨#[107, 101, 121]⟩ t4.step _ (hxb.ps.keep hAb) (by rw [Rg.blk_cells (alloc_at _ _)]; rfl)).mono ?_
                rintro e wc ⟨rfl, hpsc, hgc⟩
                rw [ht5] at hpsc
                have hxc := hxb.go hpsc ((Go1.of hAb).trans hgc)
                clear hxb hpsc hgc hAb ht5
                have k0 := hxc.cell 0
                have k1 := hxc.cell 1
                have k2 := hxc.cell 2
                have k3 := hxc.cell 3
                simp only [cF, List.getElem?_cons_zero, List.getElem?_cons_succ] at k0 k1 k2 k3
                have kf := Rg.blk_free hxc.x
                have hxd : XB p w2 44 (cF ⟨nm, ty, true, true⟩) t5 ((wc.setCell ⟨w2.heap.size, 2, none⟩ (.bool true)).setCell ⟨w2.heap.size, 3, none⟩ (.bool true)) := (hxc.set 2 (.bool true)).set 3 (.bool true)
                clear hxc
                go_upto_region 21 with fail
                clear k0 k1 k2 k3 kf
                generalize World.setCell _ ⟨w2.heap.size, 3, none⟩ _ = wz at *
                have hxz := hxd
                clear hxd
                have k0 := hxz.cell 0
                have k1 := hxz.cell 1
                have k2 := hxz.cell 2
                have k3 := hxz.cell 3
                simp only [cF, List.getElem?_cons_zero, List.getElem?_cons_succ] at k0 k1 k2 k3
                have hsbz := HSB.out.go hxz.g
                have hLz := HL.out.go kCol_ok hxz.g (ab_no (by omega))
                have k5 : wz.cell? ⟨S0, 5, none⟩ = some v := hsbz.cell 5
                obtain ⟨v', wy, hrun, k5', kfy, hsby, hLy, hpsy, ⟨g9, m9, c9, rfl⟩, _⟩ := SB.push kCol_ok kt_col 23 (k := 5) (y := ⟨nm, ty, true, true⟩) (r := ⟨nm, ty, true, true⟩) (cl := #[.string nm, .int .i64 ty, .bool true, .bool true]) (fun b h => h) (fun b h => by have := hsbz.lt; show S0 + 1 ≤ b; omega) hsbz (by rw [SR.len]; decide) hLz (by omega) hxz.ps rfl rfl
                have HRUN := hid hrun
                have HSBY := hid hsby
                have HLY := hid hLy
                have HPSY := hid hpsy
                clear hsbz hLz hrun hsby hLy hpsy hxz
                go_wp2_with (at_builtin; refine Lib.wpList_append_run _ rfl _ _ _ _ rfl _ _ rfl rfl _ _ HRUN.out ?_)
                refine (sign_any' p ⟨#[44]⟩ t5 _ HPSY.out).mono ?_
                rintro e w9 ⟨rfl, hps9, hg9⟩
                have hsb9 := HSBY.out.go hg9
                have hL9 := HLY.out.go kCol_ok hg9 (ab_no (by omega))
                have hnx := SpRel.next (q := colS) (s := s) (y := ⟨nm, ty, true, true⟩) ni_colS hL9 (by rw [HQ0.out]; exact hps9) HR2.out hm hN (fun _ => by rw [HQ0.out])
                rw [HQ0.out] at hnx
                have HNX := hid hnx
                have HSB9 := hid hsb9
                clear hsb9 hL9 hnx hps9 hg9 HRUN HSBY HLY HPSY HSB HL HR2 HQ0 k0 k1 k2 k3 k5 k5' kfy
                generalize t5.is 4 ⟨#[44]⟩ = b9 at *
                go_wp2
                exact ⟨⟨b9, _, rfl, HSB9.out, HNX.out.1⟩, by rw [HLA.out]; exact HNX.out.2⟩
          | false =>
            rw [may_n hK] at hxt3
            have HT : Hid (tyS t1 = (0, t1.fail 180)) := hid (by unfold tyS; simp only [hI, hJ, hK, Bool.false_eq_true, if_false])
            clear hI hJ hK
            go_wp2_with fail
            refine (wrong_any p t1 _ hxt3.ps).mono ?_
            rintro e w6 ⟨rfl, hps6, hg6⟩
            have hx6 := hxt3.go hps6 hg6
            clear hxt3 hps6 hg6
            generalize t1.fail 180 = t2 at *
            obtain ⟨ty, hty⟩ : ∃ ty : Int, (0 : Int) = ty := ⟨_, rfl⟩
            rw [hty] at HT hx6
            clear hty
            go_wp2_with fail
            refine (word_any p ⟨#[110, 111, 116]⟩ t2 _ hx6.ps).mono ?_
            rintro e w7 ⟨rfl, hps7, hg7⟩
            have hx7 := hx6.go hps7 hg7
            clear hx6 hps7 hg7
            cases hN : t2.is 1 ⟨#[110, 111, 116]⟩ with
            | false =>
              rw [may_n hN] at hx7
              have HN : Hid (nnS t2 = (false, t2)) := hid (by unfold nnS; rw [hN]; rfl)
              clear hN
              have hx8 := hx7
              clear hx7
              generalize w7 = w8 at *
              go_wp2_with fail
              refine (word_any p ⟨#[117, 110, 105, 113, 117, 101]⟩ t2 _ hx8.ps).mono ?_
              rintro e w9 ⟨rfl, hps9, hg9⟩
              have hx9 := hx8.go hps9 hg9
              clear hx8 hps9 hg9
              obtain ⟨ub, hub⟩ : ∃ ub, t2.is 1 ⟨#[117, 110, 105, 113, 117, 101]⟩ = ub := ⟨_, rfl⟩
              obtain ⟨t4, ht4⟩ : ∃ t4, (t2.may 1 ⟨#[117, 110, 105, 113, 117, 101]⟩).2 = t4 := ⟨_, rfl⟩
              rw [ht4] at hx9
              rw [hub]
              have HU : Hid (Ps.word ⟨#[117, 110, 105, 113, 117, 101]⟩ t2 = (ub, t4)) := hid (by rw [← hub, ← ht4]; unfold Ps.word Ps.may; split <;> simp_all)
              clear hub ht4
              have k0 := hx9.cell 0
              have k1 := hx9.cell 1
              have k2 := hx9.cell 2
              have k3 := hx9.cell 3
              simp only [cF, List.getElem?_cons_zero, List.getElem?_cons_succ] at k0 k1 k2 k3
              have kf := Rg.blk_free hx9.x
              have hxa0 : XB p w2 44 (cF ⟨nm, ty, false, ub⟩) t4 (w9.setCell ⟨w2.heap.size, 3, none⟩ (.bool ub)) := hx9.set 3 (.bool ub)
              clear hx9
              go_wp2_with fail
              clear k0 k1 k2 k3 kf
              generalize World.setCell w9 _ _ = wa at *
              have hxa := hxa0
              clear hxa0
              refine (word_any p ⟨#[112, 114, 105, 109, 97, 114, 121]⟩ t4 _ hxa.ps).mono ?_
              rintro e wb ⟨rfl, hpsb, hgb⟩
              have hxb := hxa.go hpsb hgb
              clear hxa hpsb hgb
              cases hP : t4.is 1 ⟨#[112, 114, 105, 109, 97, 114, 121]⟩ with
              | false =>
                rw [may_n hP] at hxb
                have HQ0 : Hid (colS s = (⟨nm, ty, false, ub⟩, t4)) := hid (by unfold colS keyS; simp only [HNM.out, HT.out, HN.out, HU.out, hP, Bool.or_false, Bool.false_eq_true, if_false])
                clear hP HNM HT HN HU
                have hxz := hxb
                clear hxb
                generalize wb = wz at *
                have k0 := hxz.cell 0
                have k1 := hxz.cell 1
                have k2 := hxz.cell 2
                have k3 := hxz.cell 3
                simp only [cF, List.getElem?_cons_zero, List.getElem?_cons_succ] at k0 k1 k2 k3
                have hsbz := HSB.out.go hxz.g
                have hLz := HL.out.go kCol_ok hxz.g (ab_no (by omega))
                have k5 : wz.cell? ⟨S0, 5, none⟩ = some v := hsbz.cell 5
                obtain ⟨v', wy, hrun, k5', kfy, hsby, hLy, hpsy, ⟨g9, m9, c9, rfl⟩, _⟩ := SB.push kCol_ok kt_col 23 (k := 5) (y := ⟨nm, ty, false, ub⟩) (r := ⟨nm, ty, false, ub⟩) (cl := #[.string nm, .int .i64 ty, .bool false, .bool ub]) (fun b h => h) (fun b h => by have := hsbz.lt; show S0 + 1 ≤ b; omega) hsbz (by rw [SR.len]; decide) hLz (by omega) hxz.ps rfl rfl
                have HRUN := hid hrun
                have HSBY := hid hsby
                have HLY := hid hLy
                have HPSY := hid hpsy
                clear hsbz hLz hrun hsby hLy hpsy hxz
                go_wp2_with (at_builtin; refine Lib.wpList_append_run _ rfl _ _ _ _ rfl _ _ rfl rfl _ _ HRUN.out ?_)
                refine (sign_any' p ⟨#[44]⟩ t4 _ HPSY.out).mono ?_
                rintro e w9 ⟨rfl, hps9, hg9⟩
                have hsb9 := HSBY.out.go hg9
                have hL9 := HLY.out.go kCol_ok hg9 (ab_no (by omega))
                have hnx := SpRel.next (q := colS) (s := s) (y := ⟨nm, ty, false, ub⟩) ni_colS hL9 (by rw [HQ0.out]; exact hps9) HR2.out hm hN (fun _ => by rw [HQ0.out])
                rw [HQ0.out] at hnx
                have HNX := hid hnx
                have HSB9 := hid hsb9
                clear hsb9 hL9 hnx hps9 hg9 HRUN HSBY HLY HPSY HSB HL HR2 HQ0 k0 k1 k2 k3 k5 k5' kfy
                generalize t4.is 4 ⟨#[44]⟩ = b9 at *
                go_wp2
                exact ⟨⟨b9, _, rfl, HSB9.out, HNX.out.1⟩, by rw [HLA.out]; exact HNX.out.2⟩
              | true =>
                rw [may_y hP] at hxb
                have HQ0 : Hid (colS s = (⟨nm, ty, true, true⟩, t4.step.need 1 ⟨#[107, 101, 121]⟩)) := hid (by unfold colS keyS; simp only [HNM.out, HT.out, HN.out, HU.out, hP, Bool.or_true, if_true])
                clear hP HNM HT HN HU
                obtain ⟨t5, ht5⟩ : ∃ t5, t4.step.need 1 ⟨#[107, 101, 121]⟩ = t5 := ⟨_, rfl⟩
                rw [ht5] at HQ0
                go_wp2_with fail
                have hAb := (Gr.refl wb).alloc (.cells #[.string ⟨#[107, 101, 121]⟩] 9)
                refine (words_one p _ ⟨#[107, 101, 121]⟩ t4.step _ (hxb.ps.keep hAb) (by rw [Rg.blk_cells (alloc_at _ _)]; rfl)).mono ?_
                rintro e wc ⟨rfl, hpsc, hgc⟩
                rw [ht5] at hpsc
                have hxc := hxb.go hpsc ((Go1.of hAb).trans hgc)
                clear hxb hpsc hgc hAb ht5
                have k0 := hxc.cell 0
                have k1 := hxc.cell 1
                have k2 := hxc.cell 2
                have k3 := hxc.cell 3
                simp only [cF, List.getElem?_cons_zero, List.getElem?_cons_succ] at k0 k1 k2 k3
                have kf := Rg.blk_free hxc.x
                have hxd : XB p w2 44 (cF ⟨nm, ty, true, true⟩) t5 ((wc.setCell ⟨w2.heap.size, 2, none⟩ (.bool true)).setCell ⟨w2.heap.size, 3, none⟩ (.bool true)) := (hxc.set 2 (.bool true)).set 3 (.bool true)
                clear hxc
                go_upto_region 21 with fail
                clear k0 k1 k2 k3 kf
                generalize World.setCell _ ⟨w2.heap.size, 3, none⟩ _ = wz at *
                have hxz := hxd
                clear hxd
                have k0 := hxz.cell 0
                have k1 := hxz.cell 1
                have k2 := hxz.cell 2
                have k3 := hxz.cell 3
                simp only [cF, List.getElem?_cons_zero, List.getElem?_cons_succ] at k0 k1 k2 k3
                have hsbz := HSB.out.go hxz.g
                have hLz := HL.out.go kCol_ok hxz.g (ab_no (by omega))
                have k5 : wz.cell? ⟨S0, 5, none⟩ = some v := hsbz.cell 5
                obtain ⟨v', wy, hrun, k5', kfy, hsby, hLy, hpsy, ⟨g9, m9, c9, rfl⟩, _⟩ := SB.push kCol_ok kt_col 23 (k := 5) (y := ⟨nm, ty, true, true⟩) (r := ⟨nm, ty, true, true⟩) (cl := #[.string nm, .int .i64 ty, .bool true, .bool true]) (fun b h => h) (fun b h => by have := hsbz.lt; show S0 + 1 ≤ b; omega) hsbz (by rw [SR.len]; decide) hLz (by omega) hxz.ps rfl rfl
                have HRUN := hid hrun
                have HSBY := hid hsby
                have HLY := hid hLy
                have HPSY := hid hpsy
                clear hsbz hLz hrun hsby hLy hpsy hxz
                go_wp2_with (at_builtin; refine Lib.wpList_append_run _ rfl _ _ _ _ rfl _ _ rfl rfl _ _ HRUN.out ?_)
                refine (sign_any' p ⟨#[44]⟩ t5 _ HPSY.out).mono ?_
                rintro e w9 ⟨rfl, hps9, hg9⟩
                have hsb9 := HSBY.out.go hg9
                have hL9 := HLY.out.go kCol_ok hg9 (ab_no (by omega))
                have hnx := SpRel.next (q := colS) (s := s) (y := ⟨nm, ty, true, true⟩) ni_colS hL9 (by rw [HQ0.out]; exact hps9) HR2.out hm hN (fun _ => by rw [HQ0.out])
                rw [HQ0.out] at hnx
                have HNX := hid hnx
                have HSB9 := hid hsb9
                clear hsb9 hL9 hnx hps9 hg9 HRUN HSBY HLY HPSY HSB HL HR2 HQ0 k0 k1 k2 k3 k5 k5' kfy
                generalize t5.is 4 ⟨#[44]⟩ = b9 at *
                go_wp2
                exact ⟨⟨b9, _, rfl, HSB9.out, HNX.out.1⟩, by rw [HLA.out]; exact HNX.out.2⟩
            | true =>
              rw [may_y hN] at hx7
              have HN : Hid (nnS t2 = (true, t2.step.need 1 ⟨#[110, 117, 108, 108]⟩)) := hid (by unfold nnS; rw [hN]; rfl)
              clear hN
              obtain ⟨t3, ht3⟩ : ∃ t3, t2.step.need 1 ⟨#[110, 117, 108, 108]⟩ = t3 := ⟨_, rfl⟩
              rw [ht3] at HN
              go_wp2_with fail
              have hA7 := (Gr.refl w7).alloc (.cells #[.string ⟨#[110, 117, 108, 108]⟩] 9)
              refine (words_one p _ ⟨#[110, 117, 108, 108]⟩ t2.step _ (hx7.ps.keep hA7) (by rw [Rg.blk_cells (alloc_at _ _)]; rfl)).mono ?_
              rintro e w7b ⟨rfl, hps7b, hg7b⟩
              rw [ht3] at hps7b
              have hx7b := hx7.go hps7b ((Go1.of hA7).trans hg7b)
              clear hx7 hps7b hg7b hA7 ht3
              have k0 := hx7b.cell 0
              have k1 := hx7b.cell 1
              have k2 := hx7b.cell 2
              have k3 := hx7b.cell 3
              simp only [cF, List.getElem?_cons_zero, List.getElem?_cons_succ] at k0 k1 k2 k3
              have kf := Rg.blk_free hx7b.x
              have hx8 : XB p w2 44 (cF ⟨nm, ty, true, false⟩) t3 (w7b.setCell ⟨w2.heap.size, 2, none⟩ (.bool true)) := hx7b.set 2 (.bool true)
              clear hx7b
              go_wp2_with fail
              clear k0 k1 k2 k3 kf
              generalize World.setCell _ ⟨w2.heap.size, 2, none⟩ _ = w8 at *
              refine (word_any p ⟨#[117, 110, 105, 113, 117, 101]⟩ t3 _ hx8.ps).mono ?_
              rintro e w9 ⟨rfl, hps9, hg9⟩
              have hx9 := hx8.go hps9 hg9
              clear hx8 hps9 hg9
              obtain ⟨ub, hub⟩ : ∃ ub, t3.is 1 ⟨#[117, 110, 105, 113, 117, 101]⟩ = ub := ⟨_, rfl⟩
              obtain ⟨t4, ht4⟩ : ∃ t4, (t3.may 1 ⟨#[117, 110, 105, 113, 117, 101]⟩).2 = t4 := ⟨_, rfl⟩
              rw [ht4] at hx9
              rw [hub]
              have HU : Hid (Ps.word ⟨#[117, 110, 105, 113, 117, 101]⟩ t3 = (ub, t4)) := hid (by rw [← hub, ← ht4]; unfold Ps.word Ps.may; split <;> simp_all)
              clear hub ht4
              have k0 := hx9.cell 0
              have k1 := hx9.cell 1
              have k2 := hx9.cell 2
              have k3 := hx9.cell 3
              simp only [cF, List.getElem?_cons_zero, List.getElem?_cons_succ] at k0 k1 k2 k3
              have kf := Rg.blk_free hx9.x
              have hxa0 : XB p w2 44 (cF ⟨nm, ty, true, ub⟩) t4 (w9.setCell ⟨w2.heap.size, 3, none⟩ (.bool ub)) := hx9.set 3 (.bool ub)
              clear hx9
              go_wp2_with fail
              clear k0 k1 k2 k3 kf
              generalize World.setCell w9 _ _ = wa at *
              have hxa := hxa0
              clear hxa0
              refine (word_any p ⟨#[112, 114, 105, 109, 97, 114, 121]⟩ t4 _ hxa.ps).mono ?_
              rintro e wb ⟨rfl, hpsb, hgb⟩
              have hxb := hxa.go hpsb hgb
              clear hxa hpsb hgb
              cases hP : t4.is 1 ⟨#[112, 114, 105, 109, 97, 114, 121]⟩ with
              | false =>
                rw [may_n hP] at hxb
                have HQ0 : Hid (colS s = (⟨nm, ty, true, ub⟩, t4)) := hid (by unfold colS keyS; simp only [HNM.out, HT.out, HN.out, HU.out, hP, Bool.or_false, Bool.false_eq_true, if_false])
                clear hP HNM HT HN HU
                have hxz := hxb
                clear hxb
                generalize wb = wz at *
                have k0 := hxz.cell 0
                have k1 := hxz.cell 1
                have k2 := hxz.cell 2
                have k3 := hxz.cell 3
                simp only [cF, List.getElem?_cons_zero, List.getElem?_cons_succ] at k0 k1 k2 k3
                have hsbz := HSB.out.go hxz.g
                have hLz := HL.out.go kCol_ok hxz.g (ab_no (by omega))
                have k5 : wz.cell? ⟨S0, 5, none⟩ = some v := hsbz.cell 5
                obtain ⟨v', wy, hrun, k5', kfy, hsby, hLy, hpsy, ⟨g9, m9, c9, rfl⟩, _⟩ := SB.push kCol_ok kt_col 23 (k := 5) (y := ⟨nm, ty, true, ub⟩) (r := ⟨nm, ty, true, ub⟩) (cl := #[.string nm, .int .i64 ty, .bool true, .bool ub]) (fun b h => h) (fun b h => by have := hsbz.lt; show S0 + 1 ≤ b; omega) hsbz (by rw [SR.len]; decide) hLz (by omega) hxz.ps rfl rfl
                have HRUN := hid hrun
                have HSBY := hid hsby
                have HLY := hid hLy
                have HPSY := hid hpsy
                clear hsbz hLz hrun hsby hLy hpsy hxz
                go_wp2_with (at_builtin; refine Lib.wpList_append_run _ rfl _ _ _ _ rfl _ _ rfl rfl _ _ HRUN.out ?_)
                refine (sign_any' p ⟨#[44]⟩ t4 _ HPSY.out).mono ?_
                rintro e w9 ⟨rfl, hps9, hg9⟩
                have hsb9 := HSBY.out.go hg9
                have hL9 := HLY.out.go kCol_ok hg9 (ab_no (by omega))
                have hnx := SpRel.next (q := colS) (s := s) (y := ⟨nm, ty, true, ub⟩) ni_colS hL9 (by rw [HQ0.out]; exact hps9) HR2.out hm hN (fun _ => by rw [HQ0.out])
                rw [HQ0.out] at hnx
                have HNX := hid hnx
                have HSB9 := hid hsb9
                clear hsb9 hL9 hnx hps9 hg9 HRUN HSBY HLY HPSY HSB HL HR2 HQ0 k0 k1 k2 k3 k5 k5' kfy
                generalize t4.is 4 ⟨#[44]⟩ = b9 at *
                go_wp2
                exact ⟨⟨b9, _, rfl, HSB9.out, HNX.out.1⟩, by rw [HLA.out]; exact HNX.out.2⟩
              | true =>
                rw [may_y hP] at hxb
                have HQ0 : Hid (colS s = (⟨nm, ty, true, true⟩, t4.step.need 1 ⟨#[107, 101, 121]⟩)) := hid (by unfold colS keyS; simp only [HNM.out, HT.out, HN.out, HU.out, hP, Bool.or_true, if_true])
                clear hP HNM HT HN HU
                obtain ⟨t5, ht5⟩ : ∃ t5, t4.step.need 1 ⟨#[107, 101, 121]⟩ = t5 := ⟨_, rfl⟩
                rw [ht5] at HQ0
                go_wp2_with fail
                have hAb := (Gr.refl wb).alloc (.cells #[.string ⟨#[107, 101, 121]⟩] 9)
                refine (words_one p _ ⟨#[107, 101, 121]⟩ t4.step _ (hxb.ps.keep hAb) (by rw [Rg.blk_cells (alloc_at _ _)]; rfl)).mono ?_
                rintro e wc ⟨rfl, hpsc, hgc⟩
                rw [ht5] at hpsc
                have hxc := hxb.go hpsc ((Go1.of hAb).trans hgc)
                clear hxb hpsc hgc hAb ht5
                have k0 := hxc.cell 0
                have k1 := hxc.cell 1
                have k2 := hxc.cell 2
                have k3 := hxc.cell 3
                simp only [cF, List.getElem?_cons_zero, List.getElem?_cons_succ] at k0 k1 k2 k3
                have kf := Rg.blk_free hxc.x
                have hxd : XB p w2 44 (cF ⟨nm, ty, true, true⟩) t5 ((wc.setCell ⟨w2.heap.size, 2, none⟩ (.bool true)).setCell ⟨w2.heap.size, 3, none⟩ (.bool true)) := (hxc.set 2 (.bool true)).set 3 (.bool true)
                clear hxc
                go_upto_region 21 with fail
                clear k0 k1 k2 k3 kf
                generalize World.setCell _ ⟨w2.heap.size, 3, none⟩ _ = wz at *
                have hxz := hxd
                clear hxd
                have k0 := hxz.cell 0
                have k1 := hxz.cell 1
                have k2 := hxz.cell 2
                have k3 := hxz.cell 3
                simp only [cF, List.getElem?_cons_zero, List.getElem?_cons_succ] at k0 k1 k2 k3
                have hsbz := HSB.out.go hxz.g
                have hLz := HL.out.go kCol_ok hxz.g (ab_no (by omega))
                have k5 : wz.cell? ⟨S0, 5, none⟩ = some v := hsbz.cell 5
                obtain ⟨v', wy, hrun, k5', kfy, hsby, hLy, hpsy, ⟨g9, m9, c9, rfl⟩, _⟩ := SB.push kCol_ok kt_col 23 (k := 5) (y := ⟨nm, ty, true, true⟩) (r := ⟨nm, ty, true, true⟩) (cl := #[.string nm, .int .i64 ty, .bool true, .bool true]) (fun b h => h) (fun b h => by have := hsbz.lt; show S0 + 1 ≤ b; omega) hsbz (by rw [SR.len]; decide) hLz (by omega) hxz.ps rfl rfl
                have HRUN := hid hrun
                have HSBY := hid hsby
                have HLY := hid hLy
                have HPSY := hid hpsy
                clear hsbz hLz hrun hsby hLy hpsy hxz
                go_wp2_with (at_builtin; refine Lib.wpList_append_run _ rfl _ _ _ _ rfl _ _ rfl rfl _ _ HRUN.out ?_)
                refine (sign_any' p ⟨#[44]⟩ t5 _ HPSY.out).mono ?_
                rintro e w9 ⟨rfl, hps9, hg9⟩
                have hsb9 := HSBY.out.go hg9
                have hL9 := HLY.out.go kCol_ok hg9 (ab_no (by omega))
                have hnx := SpRel.next (q := colS) (s := s) (y := ⟨nm, ty, true, true⟩) ni_colS hL9 (by rw [HQ0.out]; exact hps9) HR2.out hm hN (fun _ => by rw [HQ0.out])
                rw [HQ0.out] at hnx
                have HNX := hid hnx
                have HSB9 := hid hsb9
                clear hsb9 hL9 hnx hps9 hg9 HRUN HSBY HLY HPSY HSB HL HR2 HQ0 k0 k1 k2 k3 k5 k5' kfy
                generalize t5.is 4 ⟨#[44]⟩ = b9 at *
                go_wp2
                exact ⟨⟨b9, _, rfl, HSB9.out, HNX.out.1⟩, by rw [HLA.out]; exact HNX.out.2⟩
end Go.Proofs.Ytaogpifcfmjcbaa
end
section
namespace Go.Proofs.Ytaogpifcfmjcbaa
open Go.RowKit
set_option linter.unusedSimpArgs false
set_option linter.unusedVariables false
attribute [local go_sem] Rg.leads_value Rg.leads_skip Rg.leads_enter Rg.brings_value Rg.brings_skip Rg.brings_enter Rg.bringsG_value Rg.bringsG_enter Rg.once_normal Rg.once_exit Rg.once_ret Rg.once_panic Rg.once_goto Rg.bringsS_value Rg.bringsS_skip Rg.bringsS_enter Rg.still_value Rg.still_skip Rg.still_enter
theorem exprs_all (p : Nat) (s : Ps) (w : World) (hS : PS p w s) (hs : s.size ≤ 1000000) : Calls Try.prog 56 #[.pointer (some ⟨p, 0, none⟩)] w (Pxs p w (sep exprS s)) := exprs_whole p 1000000 (Nat.le_refl _) s w hS hs
def InRel (p N : Nat) (w : World) (R0 S0 : Nat) (n : ByteArray) (R : List ByteArray × Ps) (s4 : Value) (wr : World) : Prop := ∃ b v, s4 = .bool b ∧ SB p w R0 S0 ((SR.cs { kind := 5, table := n }).set 6 v) wr ∧ SpRel kStr Ps.name p N (Ab (S0 + 1)) R b v wr
def IrRel (p N : Nat) (w : World) (R0 S0 B1 : Nat) (n : ByteArray) (nms : List ByteArray) (sl : Slc) (R : List (List Ex) × Ps) (s5 : Value) (wr : World) : Prop := ∃ b v, s5 = .bool b ∧ B1 ≤ wr.heap.size ∧ SB p w R0 S0 ((SR.cs { kind := 5, table := n, columns := sl }).set 7 v) wr ∧ SpRel kRow rowS p N (Ab B1) R b v wr ∧ KsAt kStr (fun b => S0 + 1 ≤ b ∧ b < B1) wr nms sl
set_option maxHeartbeats 32000000 in
set_option maxRecDepth 100000 in
theorem insert_any (p : Nat) (s : Ps) (w : World) (hS : PS p w s) (hs : s.size ≤ 900000) : Calls Try.prog 26 #[.pointer (some ⟨p, 0, none⟩)] w (Pst p w (insertS s)) := by
  have hpw := hS.lt
  have hG := fun o => (Gr.refl w).alloc o
  have hS0 := fun o => hS.keep (hG o)
  obtain ⟨s0, hs0⟩ : ∃ s0, s.need 1 ⟨#[105, 110, 116, 111]⟩ = s0 := ⟨_, rfl⟩
  have hni0 : s0.size ≤ s.size := by rw [← hs0]; exact size_need _ _ _
  obtain ⟨n, hn⟩ : ∃ n, s0.name.1 = n := ⟨_, rfl⟩
  obtain ⟨s1, hs1⟩ : ∃ s1, s0.name.2 = s1 := ⟨_, rfl⟩
  have hni1 : s1.size ≤ s0.size := by rw [← hs1]; exact size_name _
  obtain ⟨C, hC⟩ : ∃ C, namesS s1 = C := ⟨_, rfl⟩
  obtain ⟨R, hR⟩ : ∃ R, sep rowS (C.2.need 1 ⟨#[118, 97, 108, 117, 101, 115]⟩) = R := ⟨_, rfl⟩
  have eT : insertS s = ({ kind := 5, table := n, columns := C.1, rows := R.1 }, R.2) := by unfold insertS; simp only [hs0, hn, hs1, hC, hR]
  rw [eT]
  have HR := hid hR
  have HC := hid hC
  clear hR hC eT
  go_enter Try.func26, Try.ntmps26
  go_wp2_with fail
  have hA0 := (Gr.refl (w.alloc (.cells zeroS.toArray 35))).alloc (.cells #[.string ⟨#[105, 110, 116, 111]⟩] 9)
  refine (words_one p _ ⟨#[105, 110, 116, 111]⟩ s _ ((hS0 _).keep hA0) (by rw [Rg.blk_cells (alloc_at' _ _ _ (by simp))]; rfl)).mono ?_
  rintro e w0 ⟨rfl, hps0, hg0⟩
  rw [hs0] at hps0
  go_wp2_with fail
  refine (pname_any p s0 _ hps0).mono ?_
  rintro e w1 ⟨rfl, hps1, hg1⟩
  rw [hn]
  rw [hs1] at hps1
  have hg01 : Go1 p (w.alloc (.cells zeroS.toArray 35)) w1 := ((Go1.of hA0).trans hg0).trans hg1
  have z1 := hg01.size
  simp only [World.size_alloc] at z1
  have H1 : Hid (∀ W5, W5.heap[w1.heap.size]? = some (.cells (SR.cs { kind := 5, table := n }).toArray 35 (0, 0)) → Go1 w1.heap.size (w1.alloc (.cells zeroS.toArray 35)) W5 → SB p w w.heap.size w1.heap.size (SR.cs { kind := 5, table := n }) W5 ∧ PS p W5 s1) := hid (fun W5 hx h5 => ⟨SB.start hpw hg01 hx h5, (hps1.keep ((Gr.refl w1).alloc _)).go h5 (by omega)⟩)
  have HA : Hid ((w1.alloc (.cells zeroS.toArray 35)).heap[w1.heap.size]? = some (.cells zeroS.toArray 35 (0, 0))) := hid (alloc_at _ _)
  clear hps0 hg0 hg01 hA0 hps1 hg1 hS0 hG hS hn hs1 hs0
  go_wp2_with (guard_target =~ wpList _ _ _ (Oper.mk _ (Op.store 35 _ _) _ _ _ _ :: _) _ _; refine st_row (ty := 35) rfl rfl w1.heap.size (SR.cs { kind := 5, table := n }).toArray rfl rfl 35 _ (HA.out) (by kernel_rfl) rfl (by kernel_rfl) ?_; intro W5 hW5 gW5 zW5; have HQ := hid (H1.out W5 hW5 gW5); clear hW5 gW5 zW5 H1 HA; generalize w1.heap.size = S0 at *)
  obtain ⟨hsb, hps⟩ := HQ.out
  clear HQ
  have hpS : p < S0 := by omega
  generalize hR0 : w.heap.size = R0 at *
  refine (sign_any' p ⟨#[40]⟩ s1 _ hps).mono ?_
  rintro e w3 ⟨rfl, hps3, hg3⟩
  have hsb3 := hsb.go hg3
  clear hsb hps hg3
  cases hB : s1.is 4 ⟨#[40]⟩ with
  | false =>
    rw [may_n hB] at hps3
    have hC2 : C = ([], s1) := by rw [← HC.out]; unfold namesS; rw [hB]; rfl
    have hpst : PS p w3 C.2 := by rw [hC2]; exact hps3
    have hct : C.2.good = true → ([] : List ByteArray) = C.1 := fun _ => by rw [hC2]
    have hszt : C.2.size ≤ 900000 := by rw [hC2]; show s1.size ≤ _; omega
    have hkt : KsAt kStr (Ab (S0 + 1)) w3 [] {} := KsAt.none
    obtain ⟨sl, hsl⟩ : ∃ sl : Slc, ({} : Slc) = sl := ⟨_, rfl⟩
    obtain ⟨nms, hnms⟩ : ∃ nms : List ByteArray, [] = nms := ⟨_, rfl⟩
    have hsbt : SB p w R0 S0 (SR.cs { kind := 5, table := n, columns := sl }) w3 := by rw [← hsl]; exact hsb3
    rw [hsl, hnms] at hkt
    rw [hnms] at hct
    clear hsb3 hps3 hsl hnms hC2 HC hB hs hni0 hni1
    generalize w3 = wt at *
    go_wp2_with fail
    have hAu := (Gr.refl wt).alloc (.cells #[.string ⟨#[118, 97, 108, 117, 101, 115]⟩] 9)
    refine (words_one p _ ⟨#[118, 97, 108, 117, 101, 115]⟩ C.2 _ (hpst.keep hAu) (by rw [Rg.blk_cells (alloc_at _ _)]; rfl)).mono ?_
    rintro e wu ⟨rfl, hpsu, hgu0⟩
    have hgu : Go1 p wt wu := (Go1.of hAu).trans hgu0
    have hsbu := hsbt.go hgu
    have hsz : (C.2.need 1 ⟨#[118, 97, 108, 117, 101, 115]⟩).size ≤ 900000 := Nat.le_trans (size_need _ _ _) hszt
    have hku := hkt.of kStr_ok hgu.size (fun b hb hl => hgu.get hl (by have : S0 + 1 ≤ b := hb; omega))
    have hku2 : KsAt kStr (fun b => S0 + 1 ≤ b ∧ b < wu.heap.size) wu nms sl := hku.mono kStr_ok (fun b hl hb => ⟨hb, hl⟩)
    obtain ⟨B1, hB1⟩ : ∃ B1, wu.heap.size = B1 := ⟨_, rfl⟩
    rw [hB1] at hku2
    have hSB1 : S0 + 1 ≤ B1 := by have := hsbu.lt; omega
    have HST : Hid (IrRel p 900000 w R0 S0 B1 n nms sl R (.bool true) wu) := hid ⟨true, .slice none 0 0, rfl, by omega, hsbu, SpRel.start hpsu hsz HR.out, hku2⟩
    have HCT : Hid (R.2.good = true → nms = C.1) := hid (fun h => hct (by
      have h1 : (sep rowS (C.2.need 1 ⟨#[118, 97, 108, 117, 101, 115]⟩)).2.good = true := by rw [HR.out]; exact h
      exact kneed_good (kb_good (kb_sep kb_rowS) h1)))
    clear hpst hsbt hkt hct hszt hAu hpsu hgu0 hgu hsbu hku hku2 hsz
    go_wp2_with fail
    go_loopw [5] (fun s5 wr => IrRel p 900000 w R0 S0 B1 n nms sl R s5 wr) (fun s5 wr => mB s5 (lenAt p wr))
    · exact HST.out
    · clear HST
      obtain ⟨b, v, rfl, hBr, hsb, hsp, hkc⟩ := hrel
      cases b with
      | false =>
        obtain ⟨ys, hL, hps, hyg, hlen⟩ := hsp.no
        clear hsp
        obtain ⟨sr, rfl, hks, _⟩ := hL.at kRow_ok (by omega)
        have hsb8 : SB p w R0 S0 (SR.cs { kind := 5, table := n, columns := sl, rows := sr }) wr := hsb
        have hx8 : StmAt (fun b => S0 + 1 ≤ b) wr { kind := 5, table := n, columns := nms, rows := ys } { kind := 5, table := n, columns := sl, rows := sr } := { (StmAt.zero (S := fun b => S0 + 1 ≤ b) (w := wr)) with kind := rfl, table := rfl, columns := hkc.mono kStr_ok (fun b _ hb => hb.1), rows := hks.mono kRow_ok (fun b _ hb => by have : B1 ≤ b := hb; omega) }
        have hq8 : R.2.good = true → ({ kind := 5, table := n, columns := nms, rows := ys } : Stm) = { kind := 5, table := n, columns := C.1, rows := R.1 } := fun h => by rw [hyg h, HCT.out h]
        clear hsb hL hks hyg hkc HCT HR
        have HX := hid hsb8.s
        have HZ := hid hsb8.z
        have FI : Hid (∀ W9, Go1 R0 _ W9 → Rst p w ({ kind := 5, table := n, columns := C.1, rows := R.1 }, R.2) (SR.val { kind := 5, table := n, columns := sl, rows := sr }) W9) := hid (fun W9 h9 => hsb8.give hx8 hps hq8 h9)
        clear hsb8 hx8 hps
        go_wp2_with (first | (guard_target =~ wpList _ _ _ (Oper.mk _ (Op.load 35 _) _ _ _ _ :: _) _ _; refine wpList_load_row rfl 35 _ rfl S0 rfl 35 (SR.cs { kind := 5, table := n, columns := sl, rows := sr }).toArray (0, 0) _ HX.out Try.underlying35 rfl (by kernel_rfl) ?_) | (guard_target =~ wpList _ _ _ (Oper.mk _ (Op.store 35 _ _) _ _ _ _ :: _) _ _; refine st_row (ty := 35) rfl rfl R0 (SR.cs { kind := 5, table := n, columns := sl, rows := sr }).toArray rfl rfl 35 _ HZ.out (by kernel_rfl) rfl (by kernel_rfl) ?_; intro W9 hW9 gW9 zW9))
        (try change bodyPost _ _ _ _ _ _)
        refine bodyPost_ret (v := SR.val { kind := 5, table := n, columns := sl, rows := sr }) (results_cell_row (g := R0) rfl _ _ _ _ _ _ rfl hW9 Try.underlying35 rfl (by kernel_rfl)) rfl ?_
        exact ⟨_, rfl, FI.out W9 gW9⟩
      | true =>
        obtain ⟨ys, s, m, hL, hps, hR, hm, hN⟩ := hsp.yes
        clear hsp
        have HLA : Hid (mB (.bool true) (lenAt p wr) = s.size + 1) := hid (by show lenAt p wr + 1 = _; rw [lenAt_ps hps])
        go_wp2_with fail
        refine (must_any p ⟨#[40]⟩ s _ hps).mono ?_
        rintro e w2 ⟨rfl, hps2, hg2⟩
        have hsb2 := hsb.go hg2
        have hL2 := hL.go kRow_ok hg2 (ab_no (by omega))
        have hkc2 := hkc.of kStr_ok hg2.size (fun b hb hl => hg2.get hl (by omega))
        have hz2 : B1 ≤ w2.heap.size := Nat.le_trans hBr hg2.size
        have hss : (s.need 4 ⟨#[40]⟩).size ≤ s.size := size_need _ _ _
        obtain ⟨s2, hs2⟩ : ∃ s2, s.need 4 ⟨#[40]⟩ = s2 := ⟨_, rfl⟩
        rw [hs2] at hps2 hss
        obtain ⟨q, hq⟩ : ∃ q, sep exprS s2 = q := ⟨_, rfl⟩
        have HRS : Hid (rowS s = (q.1, q.2.need 4 ⟨#[41]⟩)) := hid (by unfold rowS; simp only [hs2, hq])
        have HH : Hid (PuH kRow p w R0 S0 7 (Ab B1) (SR.cs { kind := 5, table := n, columns := sl }) v ys w2) := hid ⟨hsb2, hL2, fun b hb => by have : B1 ≤ b := hb; omega, fun b hb => by show B1 ≤ b; omega, by rw [SR.len]; decide, by omega⟩
        have HCL : Hid (∀ W0, Gr w2 W0 → Calls Try.prog 56 #[.pointer (some ⟨p, 0, none⟩)] W0 fun e W => ∃ u, e = .returned u ∧ RK kRow Slc.val p q W0 u W) := hid (fun W0 h => (exprs_all p s2 W0 (hps2.keep h) (by omega)).mono fun e W h => RK.row (by rw [← hq]; exact h))
        have HOWN : Hid (∀ b, v.ownBlock = some b → B1 ≤ b) := hid (fun b e => (hL2.blk e).1)
        have HKC := hid hkc2
        have HR2 := hid hR
        have hpw2 : p < w2.heap.size := by omega
        clear hsb hL hps hg2 hsb2 hL2 hkc hkc2 hps2 hs2 hq hR
        go_wp2_with fail
        refine Rg.region_chain 7 [3, 4, 5] [(1, 5)] (PuSH HH.out (Slc.val) q 3) [some (.pointer (some ⟨S0, 7, none⟩)), some v, some (.pointer (some ⟨p, 0, none⟩)), none, none, none, some (.pointer (some ⟨S0, 7, none⟩))]
          (fun _ => PuS.s0 ((Gr.refl _).drew)) (by kernel_rfl) (by kernel_rfl) (by kernel_rfl) (by kernel_rfl) (fun _ _ d _ _ h => by cases d <;> exact h) ?_
        intro OPS _ vx
        simp only [List.take_succ_cons, List.take_zero, Rg.wpC, Rg.wpS, Option.getD_some, Option.getD_none, Act.put, List.setIfInBounds_toArray, List.set_cons_zero, List.set_cons_succ, show List.contains [3, 4, 5] 0 = false from rfl, show List.contains [3, 4, 5] 1 = false from rfl, show List.contains [3, 4, 5] 2 = false from rfl, show List.contains [3, 4, 5] 3 = true from rfl, show List.contains [3, 4, 5] 4 = true from rfl, show List.contains [3, 4, 5] 5 = true from rfl, show List.contains [3, 4, 5] 6 = false from rfl, Bool.false_eq_true, if_false, if_true, Nat.reduceAdd]
        refine ⟨?_, ?_, ?_, ?_, ?_, ?_, ?_, ?_⟩
        · refine sc_still (by rfl) (by rfl) (fun s' W _ hS => ?_)
          clear hS
          go_simp
        · refine sc_still (by rfl) (by rfl) (fun s' W hlim hS => ?_)
          have hs2 : s' ≤ 2 := hlim 5 (by simp)
          have kc := PuS.cell HH.out hs2 hS
          clear hS
          go_simp
        · refine sc_still (by rfl) (by rfl) (fun s' W _ hS => ?_)
          clear hS
          go_simp
        · refine sc_new (by rfl) (by rfl) (fun W hS => ?_)
          have hg : Gr w2 W := hS
          go_simp
          refine (HCL.out W hg).mono ?_
          rintro e w' ⟨u, rfl, hu⟩
          exact ⟨u, rfl, PuS.call hS hu⟩
        · refine sc_new (by rfl) (by rfl) (fun W hS => ?_)
          obtain ⟨rr, hv, hb⟩ := PuS.g1 hS
          have HB := hid hb
          clear hS hb
          unfold Slc.val at hv
          rw [hv]
          clear hv
          go_simp
          exact HB.out _ rfl
        · refine sc_new (by rfl) (by rfl) (fun W hS => ?_)
          obtain ⟨v2, v', W', e2, hrun, hS'⟩ := PuS.append kRow_ok kt_row 25 HH.out hS
          exact brings_append (.tmp 35) (.tmp 38) 25 rfl rfl e2 hrun hS'
        · refine sc_still (by rfl) (by rfl) (fun s' W _ hS => ?_)
          clear hS
          go_simp
        intro W9 hS9
        obtain ⟨g9, m9, c9, y9, hv9, k9, kf9, hy9, hsb9, hkl9, hps9, hkp9, hmv9⟩ := PuS.g3 hS9
        clear hS9
        generalize vx 3 = vx3 at *
        generalize vx 4 = vx4 at *
        generalize vx (3 + 2) = vx5 at *
        try (generalize vx 5 = vx5 at *)
        subst hv9
        simp only [List.drop_succ_cons, List.drop_zero]
        have hkc9 := HKC.out.of kStr_ok hkp9.size (fun b hb hl => hkp9.block b hl (by omega) (by omega) (fun e => by have := HOWN.out b e; omega))
        have HSB9 := hid hsb9
        have HKL9 := hid hkl9
        have HPS9 := hid hps9
        have HKC9 := hid hkc9
        have HZ9 := hid hkp9.size
        clear hsb9 hkl9 hps9 hkc9 hkp9 hmv9 HCL HOWN HKC
        go_wp2_with fail
        clear k9 kf9
        generalize World.setCell W9 _ _ = wx at *
        refine (must_any p ⟨#[41]⟩ _ _ HPS9.out).mono ?_
        rintro e wy ⟨rfl, hpsy, hgy⟩
        have hsby := HSB9.out.go hgy
        have hkly := HKL9.out.go kRow_ok hgy (ab_no (by omega))
        have hkcy := HKC9.out.of kStr_ok hgy.size (fun b hb hl => hgy.get hl (by omega))
        have hzy := Nat.le_trans HZ9.out hgy.size
        clear HSB9 HKL9 HPS9 HKC9 HZ9 hgy
        go_wp2_with fail
        refine (sign_any' p ⟨#[44]⟩ _ _ hpsy).mono ?_
        rintro e wz ⟨rfl, hpsz, hgz⟩
        have hsbz := hsby.go hgz
        have hklz := hkly.go kRow_ok hgz (ab_no (by omega))
        have hkcz := hkcy.of kStr_ok hgz.size (fun b hb hl => hgz.get hl (by omega))
        have hzz : B1 ≤ wz.heap.size := by have := hgz.size; omega
        have hnx := SpRel.next (q := rowS) (s := s) (y := y9) ni_rowS hklz (by rw [HRS.out]; exact hpsz) HR2.out hm hN (fun h => by rw [HRS.out] at h ⊢; exact hy9 (need_good h))
        rw [HRS.out] at hnx
        have HNX := hid hnx
        have HSBZ := hid hsbz
        have HKCZ := hid hkcz
        clear hsby hkly hkcy hpsy hpsz hgz hsbz hklz hkcz hnx HR2 HRS hzy
        generalize (q.2.need 4 ⟨#[41]⟩).is 4 ⟨#[44]⟩ = b9 at *
        go_wp2
        exact ⟨⟨b9, _, rfl, hzz, HSBZ.out, HNX.out.1, HKCZ.out⟩, by rw [HLA.out]; exact HNX.out.2⟩
  | true =>
    rw [may_y hB] at hps3
    obtain ⟨R1, hR1⟩ : ∃ R1, sep Ps.name s1.step = R1 := ⟨_, rfl⟩
    have hC2 : C = (R1.1, R1.2.need 4 ⟨#[41]⟩) := by rw [← HC.out]; unfold namesS; rw [hB]; simp only [if_true, hR1]
    have hst1 := size_step s1
    have hszt : C.2.size ≤ 900000 := by
      rw [hC2]
      have h1 := ni_sep ni_name s1.step
      rw [hR1] at h1
      have h2 := size_need 4 ⟨#[41]⟩ R1.2
      show (R1.2.need 4 ⟨#[41]⟩).size ≤ _
      omega
    have HST0 : Hid (InRel p 900000 w R0 S0 n R1 (.bool true) w3) := hid ⟨true, .slice none 0 0, rfl, hsb3, SpRel.start hps3 (by omega) hR1⟩
    have HC2 := hid hC2
    clear hsb3 hps3 HC hC2 hR1 hB hst1
    go_wp2_with fail
    go_loopw [4] (fun s4 wr => InRel p 900000 w R0 S0 n R1 s4 wr) (fun s4 wr => mB s4 (lenAt p wr))
    · exact HST0.out
    · clear HST0
      obtain ⟨b, v, rfl, hsb, hsp⟩ := hrel
      cases b with
      | false =>
        obtain ⟨ys, hL, hps, hyg, hlen⟩ := hsp.no
        clear hsp
        go_wp2_with fail
        refine (must_any p ⟨#[41]⟩ R1.2 _ hps).mono ?_
        rintro e wt ⟨rfl, hpst0, hgt⟩
        obtain ⟨sl, rfl, hkt, _⟩ := (hL.go kStr_ok hgt (ab_no (by omega))).at kStr_ok (by omega)
        have hsbt : SB p w R0 S0 (SR.cs { kind := 5, table := n, columns := sl }) wt := hsb.go hgt
        have hpst : PS p wt C.2 := by rw [HC2.out]; exact hpst0
        have hct : C.2.good = true → ys = C.1 := fun h => by rw [HC2.out] at h ⊢; exact hyg (need_good h)
        clear hsb hL hps hpst0 hgt hyg HC2 hlen
        generalize ys = nms at *
        go_wp2_with fail
        have hAu := (Gr.refl wt).alloc (.cells #[.string ⟨#[118, 97, 108, 117, 101, 115]⟩] 9)
        refine (words_one p _ ⟨#[118, 97, 108, 117, 101, 115]⟩ C.2 _ (hpst.keep hAu) (by rw [Rg.blk_cells (alloc_at _ _)]; rfl)).mono ?_
        rintro e wu ⟨rfl, hpsu, hgu0⟩
        have hgu : Go1 p wt wu := (Go1.of hAu).trans hgu0
        have hsbu := hsbt.go hgu
        have hsz : (C.2.need 1 ⟨#[118, 97, 108, 117, 101, 115]⟩).size ≤ 900000 := Nat.le_trans (size_need _ _ _) hszt
        have hku := hkt.of kStr_ok hgu.size (fun b hb hl => hgu.get hl (by have : S0 + 1 ≤ b := hb; omega))
        have hku2 : KsAt kStr (fun b => S0 + 1 ≤ b ∧ b < wu.heap.size) wu nms sl := hku.mono kStr_ok (fun b hl hb => ⟨hb, hl⟩)
        obtain ⟨B1, hB1⟩ : ∃ B1, wu.heap.size = B1 := ⟨_, rfl⟩
        rw [hB1] at hku2
        have hSB1 : S0 + 1 ≤ B1 := by have := hsbu.lt; omega
        have HST : Hid (IrRel p 900000 w R0 S0 B1 n nms sl R (.bool true) wu) := hid ⟨true, .slice none 0 0, rfl, by omega, hsbu, SpRel.start hpsu hsz HR.out, hku2⟩
        have HCT : Hid (R.2.good = true → nms = C.1) := hid (fun h => hct (by
          have h1 : (sep rowS (C.2.need 1 ⟨#[118, 97, 108, 117, 101, 115]⟩)).2.good = true := by rw [HR.out]; exact h
          exact kneed_good (kb_good (kb_sep kb_rowS) h1)))
        clear hpst hsbt hkt hct hszt hAu hpsu hgu0 hgu hsbu hku hku2 hsz
        go_wp2_with fail
        go_loopw [5] (fun s5 wr => IrRel p 900000 w R0 S0 B1 n nms sl R s5 wr) (fun s5 wr => mB s5 (lenAt p wr))
        · exact HST.out
        · clear HST
          obtain ⟨b, v, rfl, hBr, hsb, hsp, hkc⟩ := hrel
          cases b with
          | false =>
            obtain ⟨ys, hL, hps, hyg, hlen⟩ := hsp.no
            clear hsp
            obtain ⟨sr, rfl, hks, _⟩ := hL.at kRow_ok (by omega)
            have hsb8 : SB p w R0 S0 (SR.cs { kind := 5, table := n, columns := sl, rows := sr }) wr := hsb
            have hx8 : StmAt (fun b => S0 + 1 ≤ b) wr { kind := 5, table := n, columns := nms, rows := ys } { kind := 5, table := n, columns := sl, rows := sr } := { (StmAt.zero (S := fun b => S0 + 1 ≤ b) (w := wr)) with kind := rfl, table := rfl, columns := hkc.mono kStr_ok (fun b _ hb => hb.1), rows := hks.mono kRow_ok (fun b _ hb => by have : B1 ≤ b := hb; omega) }
            have hq8 : R.2.good = true → ({ kind := 5, table := n, columns := nms, rows := ys } : Stm) = { kind := 5, table := n, columns := C.1, rows := R.1 } := fun h => by rw [hyg h, HCT.out h]
            clear hsb hL hks hyg hkc HCT HR
            have HX := hid hsb8.s
            have HZ := hid hsb8.z
            have FI : Hid (∀ W9, Go1 R0 _ W9 → Rst p w ({ kind := 5, table := n, columns := C.1, rows := R.1 }, R.2) (SR.val { kind := 5, table := n, columns := sl, rows := sr }) W9) := hid (fun W9 h9 => hsb8.give hx8 hps hq8 h9)
            clear hsb8 hx8 hps
            go_wp2_with (first | (guard_target =~ wpList _ _ _ (Oper.mk _ (Op.load 35 _) _ _ _ _ :: _) _ _; refine wpList_load_row rfl 35 _ rfl S0 rfl 35 (SR.cs { kind := 5, table := n, columns := sl, rows := sr }).toArray (0, 0) _ HX.out Try.underlying35 rfl (by kernel_rfl) ?_) | (guard_target =~ wpList _ _ _ (Oper.mk _ (Op.store 35 _ _) _ _ _ _ :: _) _ _; refine st_row (ty := 35) rfl rfl R0 (SR.cs { kind := 5, table := n, columns := sl, rows := sr }).toArray rfl rfl 35 _ HZ.out (by kernel_rfl) rfl (by kernel_rfl) ?_; intro W9 hW9 gW9 zW9))
            (try change bodyPost _ _ _ _ _ _)
            refine bodyPost_ret (v := SR.val { kind := 5, table := n, columns := sl, rows := sr }) (results_cell_row (g := R0) rfl _ _ _ _ _ _ rfl hW9 Try.underlying35 rfl (by kernel_rfl)) rfl ?_
            exact ⟨_, rfl, FI.out W9 gW9⟩
          | true =>
            obtain ⟨ys, s, m, hL, hps, hR, hm, hN⟩ := hsp.yes
            clear hsp
            have HLA : Hid (mB (.bool true) (lenAt p wr) = s.size + 1) := hid (by show lenAt p wr + 1 = _; rw [lenAt_ps hps])
            go_wp2_with fail
            refine (must_any p ⟨#[40]⟩ s _ hps).mono ?_
            rintro e w2 ⟨rfl, hps2, hg2⟩
            have hsb2 := hsb.go hg2
            have hL2 := hL.go kRow_ok hg2 (ab_no (by omega))
            have hkc2 := hkc.of kStr_ok hg2.size (fun b hb hl => hg2.get hl (by omega))
            have hz2 : B1 ≤ w2.heap.size := Nat.le_trans hBr hg2.size
            have hss : (s.need 4 ⟨#[40]⟩).size ≤ s.size := size_need _ _ _
            obtain ⟨s2, hs2⟩ : ∃ s2, s.need 4 ⟨#[40]⟩ = s2 := ⟨_, rfl⟩
            rw [hs2] at hps2 hss
            obtain ⟨q, hq⟩ : ∃ q, sep exprS s2 = q := ⟨_, rfl⟩
            have HRS : Hid (rowS s = (q.1, q.2.need 4 ⟨#[41]⟩)) := hid (by unfold rowS; simp only [hs2, hq])
            have HH : Hid (PuH kRow p w R0 S0 7 (Ab B1) (SR.cs { kind := 5, table := n, columns := sl }) v ys w2) := hid ⟨hsb2, hL2, fun b hb => by have : B1 ≤ b := hb; omega, fun b hb => by show B1 ≤ b; omega, by rw [SR.len]; decide, by omega⟩
            have HCL : Hid (∀ W0, Gr w2 W0 → Calls Try.prog 56 #[.pointer (some ⟨p, 0, none⟩)] W0 fun e W => ∃ u, e = .returned u ∧ RK kRow Slc.val p q W0 u W) := hid (fun W0 h => (exprs_all p s2 W0 (hps2.keep h) (by omega)).mono fun e W h => RK.row (by rw [← hq]; exact h))
            have HOWN : Hid (∀ b, v.ownBlock = some b → B1 ≤ b) := hid (fun b e => (hL2.blk e).1)
            have HKC := hid hkc2
            have HR2 := hid hR
            have hpw2 : p < w2.heap.size := by omega
            clear hsb hL hps hg2 hsb2 hL2 hkc hkc2 hps2 hs2 hq hR
            go_wp2_with fail
            refine Rg.region_chain 7 [3, 4, 5] [(1, 5)] (PuSH HH.out (Slc.val) q 3) [some (.pointer (some ⟨S0, 7, none⟩)), some v, some (.pointer (some ⟨p, 0, none⟩)), none, none, none, some (.pointer (some ⟨S0, 7, none⟩))]
              (fun _ => PuS.s0 ((Gr.refl _).drew)) (by kernel_rfl) (by kernel_rfl) (by kernel_rfl) (by kernel_rfl) (fun _ _ d _ _ h => by cases d <;> exact h) ?_
            intro OPS _ vx
            simp only [List.take_succ_cons, List.take_zero, Rg.wpC, Rg.wpS, Option.getD_some, Option.getD_none, Act.put, List.setIfInBounds_toArray, List.set_cons_zero, List.set_cons_succ, show List.contains [3, 4, 5] 0 = false from rfl, show List.contains [3, 4, 5] 1 = false from rfl, show List.contains [3, 4, 5] 2 = false from rfl, show List.contains [3, 4, 5] 3 = true from rfl, show List.contains [3, 4, 5] 4 = true from rfl, show List.contains [3, 4, 5] 5 = true from rfl, show List.contains [3, 4, 5] 6 = false from rfl, Bool.false_eq_true, if_false, if_true, Nat.reduceAdd]
            refine ⟨?_, ?_, ?_, ?_, ?_, ?_, ?_, ?_⟩
            · refine sc_still (by rfl) (by rfl) (fun s' W _ hS => ?_)
              clear hS
              go_simp
            · refine sc_still (by rfl) (by rfl) (fun s' W hlim hS => ?_)
              have hs2 : s' ≤ 2 := hlim 5 (by simp)
              have kc := PuS.cell HH.out hs2 hS
              clear hS
              go_simp
            · refine sc_still (by rfl) (by rfl) (fun s' W _ hS => ?_)
              clear hS
              go_simp
            · refine sc_new (by rfl) (by rfl) (fun W hS => ?_)
              have hg : Gr w2 W := hS
              go_simp
              refine (HCL.out W hg).mono ?_
              rintro e w' ⟨u, rfl, hu⟩
              exact ⟨u, rfl, PuS.call hS hu⟩
            · refine sc_new (by rfl) (by rfl) (fun W hS => ?_)
              obtain ⟨rr, hv, hb⟩ := PuS.g1 hS
              have HB := hid hb
              clear hS hb
              unfold Slc.val at hv
              rw [hv]
              clear hv
              go_simp
              exact HB.out _ rfl
            · refine sc_new (by rfl) (by rfl) (fun W hS => ?_)
              obtain ⟨v2, v', W', e2, hrun, hS'⟩ := PuS.append kRow_ok kt_row 25 HH.out hS
              exact brings_append (.tmp 35) (.tmp 38) 25 rfl rfl e2 hrun hS'
            · refine sc_still (by rfl) (by rfl) (fun s' W _ hS => ?_)
              clear hS
              go_simp
            intro W9 hS9
            obtain ⟨g9, m9, c9, y9, hv9, k9, kf9, hy9, hsb9, hkl9, hps9, hkp9, hmv9⟩ := PuS.g3 hS9
            clear hS9
            generalize vx 3 = vx3 at *
            generalize vx 4 = vx4 at *
            generalize vx (3 + 2) = vx5 at *
            try (generalize vx 5 = vx5 at *)
            subst hv9
            simp only [List.drop_succ_cons, List.drop_zero]
            have hkc9 := HKC.out.of kStr_ok hkp9.size (fun b hb hl => hkp9.block b hl (by omega) (by omega) (fun e => by have := HOWN.out b e; omega))
            have HSB9 := hid hsb9
            have HKL9 := hid hkl9
            have HPS9 := hid hps9
            have HKC9 := hid hkc9
            have HZ9 := hid hkp9.size
            clear hsb9 hkl9 hps9 hkc9 hkp9 hmv9 HCL HOWN HKC
            go_wp2_with fail
            clear k9 kf9
            generalize World.setCell W9 _ _ = wx at *
            refine (must_any p ⟨#[41]⟩ _ _ HPS9.out).mono ?_
            rintro e wy ⟨rfl, hpsy, hgy⟩
            have hsby := HSB9.out.go hgy
            have hkly := HKL9.out.go kRow_ok hgy (ab_no (by omega))
            have hkcy := HKC9.out.of kStr_ok hgy.size (fun b hb hl => hgy.get hl (by omega))
            have hzy := Nat.le_trans HZ9.out hgy.size
            clear HSB9 HKL9 HPS9 HKC9 HZ9 hgy
            go_wp2_with fail
            refine (sign_any' p ⟨#[44]⟩ _ _ hpsy).mono ?_
            rintro e wz ⟨rfl, hpsz, hgz⟩
            have hsbz := hsby.go hgz
            have hklz := hkly.go kRow_ok hgz (ab_no (by omega))
            have hkcz := hkcy.of kStr_ok hgz.size (fun b hb hl => hgz.get hl (by omega))
            have hzz : B1 ≤ wz.heap.size := by have := hgz.size; omega
            have hnx := SpRel.next (q := rowS) (s := s) (y := y9) ni_rowS hklz (by rw [HRS.out]; exact hpsz) HR2.out hm hN (fun h => by rw [HRS.out] at h ⊢; exact hy9 (need_good h))
            rw [HRS.out] at hnx
            have HNX := hid hnx
            have HSBZ := hid hsbz
            have HKCZ := hid hkcz
            clear hsby hkly hkcy hpsy hpsz hgz hsbz hklz hkcz hnx HR2 HRS hzy
            generalize (q.2.need 4 ⟨#[41]⟩).is 4 ⟨#[44]⟩ = b9 at *
            go_wp2
            exact ⟨⟨b9, _, rfl, hzz, HSBZ.out, HNX.out.1, HKCZ.out⟩, by rw [HLA.out]; exact HNX.out.2⟩
      | true =>
        obtain ⟨ys, s, m, hL, hps, hR, hm, hN⟩ := hsp.yes
        clear hsp
        have HLA : Hid (mB (.bool true) (lenAt p wr) = s.size + 1) := hid (by show lenAt p wr + 1 = _; rw [lenAt_ps hps])
        have hlt := hsb.lt
        have HH : Hid (PuH kStr p w R0 S0 6 (Ab (S0 + 1)) (SR.cs { kind := 5, table := n }) v ys wr) := hid ⟨hsb, hL, fun b hb => hb, fun b hb => by show S0 + 1 ≤ b; omega, by rw [SR.len]; decide, by omega⟩
        have HCL : Hid (∀ W0, Gr wr W0 → Calls Try.prog 29 #[.pointer (some ⟨p, 0, none⟩)] W0 fun e W => ∃ u, e = .returned u ∧ RK kStr .string p s.name W0 u W) := hid (fun W0 h => (pname_any p s W0 (hps.keep h)).mono fun e W h => RK.name h)
        have HR2 := hid hR
        clear hsb hL hps hR HR HC2 hlt
        go_wp2_with fail
        refine Rg.region_chain 7 [3, 4, 5] [(1, 5)] (PuSH HH.out (.string) s.name 3) [some (.pointer (some ⟨S0, 6, none⟩)), some v, some (.pointer (some ⟨p, 0, none⟩)), none, none, none, some (.pointer (some ⟨S0, 6, none⟩))]
          (fun _ => PuS.s0 ((Gr.refl _).drew)) (by kernel_rfl) (by kernel_rfl) (by kernel_rfl) (by kernel_rfl) (fun _ _ d _ _ h => by cases d <;> exact h) ?_
        intro OPS _ vx
        simp only [List.take_succ_cons, List.take_zero, Rg.wpC, Rg.wpS, Option.getD_some, Option.getD_none, Act.put, List.setIfInBounds_toArray, List.set_cons_zero, List.set_cons_succ, show List.contains [3, 4, 5] 0 = false from rfl, show List.contains [3, 4, 5] 1 = false from rfl, show List.contains [3, 4, 5] 2 = false from rfl, show List.contains [3, 4, 5] 3 = true from rfl, show List.contains [3, 4, 5] 4 = true from rfl, show List.contains [3, 4, 5] 5 = true from rfl, show List.contains [3, 4, 5] 6 = false from rfl, Bool.false_eq_true, if_false, if_true, Nat.reduceAdd]
        refine ⟨?_, ?_, ?_, ?_, ?_, ?_, ?_, ?_⟩
        · refine sc_still (by rfl) (by rfl) (fun s' W _ hS => ?_)
          clear hS
          go_simp
        · refine sc_still (by rfl) (by rfl) (fun s' W hlim hS => ?_)
          have hs2 : s' ≤ 2 := hlim 5 (by simp)
          have kc := PuS.cell HH.out hs2 hS
          clear hS
          go_simp
        · refine sc_still (by rfl) (by rfl) (fun s' W _ hS => ?_)
          clear hS
          go_simp
        · refine sc_new (by rfl) (by rfl) (fun W hS => ?_)
          have hg : Gr wr W := hS
          go_simp
          refine (HCL.out W hg).mono ?_
          rintro e w' ⟨u, rfl, hu⟩
          exact ⟨u, rfl, PuS.call hS hu⟩
        · refine sc_new (by rfl) (by rfl) (fun W hS => ?_)
          obtain ⟨rr, hv, hb⟩ := PuS.g1 hS
          have HB := hid hb
          clear hS hb
          rw [hv]
          clear hv
          go_simp
          exact HB.out _ rfl
        · refine sc_new (by rfl) (by rfl) (fun W hS => ?_)
          obtain ⟨v2, v', W', e2, hrun, hS'⟩ := PuS.append kStr_ok kt_str 24 HH.out hS
          exact brings_append (.tmp 18) (.tmp 21) 24 rfl rfl e2 hrun hS'
        · refine sc_still (by rfl) (by rfl) (fun s' W _ hS => ?_)
          clear hS
          go_simp
        intro W9 hS9
        obtain ⟨g9, m9, c9, y9, hv9, k9, kf9, hy9, hsb9, hkl9, hps9, hkp9, hmv9⟩ := PuS.g3 hS9
        clear hS9
        generalize vx 3 = vx3 at *
        generalize vx 4 = vx4 at *
        generalize vx (3 + 2) = vx5 at *
        try (generalize vx 5 = vx5 at *)
        subst hv9
        simp only [List.drop_succ_cons, List.drop_zero]
        have HSB9 := hid hsb9
        have HKL9 := hid hkl9
        have HPS9 := hid hps9
        clear hsb9 hkl9 hps9 hkp9 hmv9 HCL
        go_wp2_with fail
        clear k9 kf9
        generalize World.setCell W9 _ _ = wx at *
        refine (sign_any' p ⟨#[44]⟩ _ _ HPS9.out).mono ?_
        rintro e wz ⟨rfl, hpsz, hgz⟩
        have hsbz := HSB9.out.go hgz
        have hklz := HKL9.out.go kStr_ok hgz (ab_no (by omega))
        have hnx := SpRel.next (q := Ps.name) (s := s) (y := y9) ni_name hklz hpsz HR2.out hm hN hy9
        have HNX := hid hnx
        have HSBZ := hid hsbz
        clear hpsz hgz hsbz hklz hnx HR2 HSB9 HKL9 HPS9 hy9
        generalize s.name.2.is 4 ⟨#[44]⟩ = b9 at *
        go_wp2
        exact ⟨⟨b9, _, rfl, HSBZ.out, HNX.out.1⟩, by rw [HLA.out]; exact HNX.out.2⟩
end Go.Proofs.Ytaogpifcfmjcbaa
end

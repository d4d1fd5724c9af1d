/- Texts of this claim, put together: walks of functions and plain laws, of no condition. -/
import Derived.Test.YtbeinfhgfflneaaGreatNt5
import Derived.IntWalk
import Derived.ChangeSame
import Derived.ProofKit
import Derived.OpenShut
import Derived.Lib.SmallJoins
import Derived.SizedLaws
section
namespace Go.Proofs.YtbeinfhgfflneaaGreat
open Go.RowKit
set_option linter.unusedSimpArgs false
set_option linter.unusedVariables false
attribute [local go_sem] Rg.leads_value Rg.leads_skip Rg.leads_enter Rg.brings_value Rg.brings_skip Rg.brings_enter Rg.bringsG_value Rg.bringsG_enter Rg.once_normal Rg.once_exit Rg.once_ret Rg.once_panic Rg.once_goto
set_option maxHeartbeats 8000000 in
set_option maxRecDepth 100000 in
theorem single_built (E : Pa Ex) (p : Nat) (t : Lx.Tok) (tr : List Lx.Tok) (d : Nat) (s : Ps) (hs : s = .ok (t :: tr) d) (w : World) (hS : PS p w s) (hn_true : s.is 1 ⟨#[116, 114, 117, 101]⟩ = false) (hn_false : s.is 1 ⟨#[102, 97, 108, 115, 101]⟩ = false) (hn_null : s.is 1 ⟨#[110, 117, 108, 108]⟩ = false) (hk1 : t.tk.kind = 1) (hw4 : s.is 4 ⟨#[40]⟩ = false) (hbt : built t.tk.text = true) (hcall : ∀ w', PS p w' s → Calls Tryz.prog 134 #[.pointer (some ⟨p, 0, none⟩), .string (txt s.headT)] w' (Px p w' (callS E s.headT s))) : Calls Tryz.prog 130 #[.pointer (some ⟨p, 0, none⟩)] w (Px p w (single E s)) := by
  have hpw := hS.lt
  have hgood : s.good = true := by rw [hs]; rfl
  have hheadK : s.headK = t.tk.kind := by rw [hs]; rfl
  have hheadT : s.headT = t.tk.text := by rw [hs]; rfl
  have hheadN : s.headN = t.tk.num := by rw [hs]; rfl
  have hS2 := hS
  rw [hs] at hS2
  obtain ⟨hd, h⟩ := hS2
  obtain ⟨oa, cap, hh, hc, hat, hne⟩ := h.ex
  have r0 := Rg.blk_cells hh 0
  have r2 := Rg.blk_cells hh 2
  simp only [List.getElem?_toArray, List.getElem?_cons_zero, List.getElem?_cons_succ] at r0 r2
  obtain ⟨b, off, hoa, hb, c0, c1, c2, c3⟩ := t_get hat 0 (by simp)
  simp only [List.getElem_cons_zero, Nat.zero_mul, Nat.add_zero] at c0 c1 c2 c3
  subst hoa
  obtain ⟨n, hn⟩ : ∃ n, (t :: tr).length = n := ⟨_, rfl⟩
  have hn1 : 1 ≤ n := by rw [← hn]; simp
  rw [hn] at r0 hc
  have g2 : (0 : Int) < (n : Int) := by omega
  have hA1 := fun o => (Gr.refl w).alloc o
  have hA := fun o1 o2 => (hA1 o1).alloc o2
  have hS0 := fun o1 o2 => hS.keep (hA o1 o2)
  have eR : single E s = callS E s.headT s := by
    unfold single; rw [hheadK, hheadT]; simp only [hk1, hn_true, hn_false, hn_null, hw4, hbt]; rfl
  rw [eR]
  clear eR
  rw [hheadT] at hcall
  rw [hheadT]
  have q1 : ((t.tk.kind : Int) == 2) = false := by rw [hk1]; rfl
  have q2 : ((t.tk.kind : Int) == 3) = false := by rw [hk1]; rfl
  have q3 : ((t.tk.kind : Int) == 1) = true := by rw [hk1]; rfl
  have hb0 := fun w => built_any (txt t.tk.text) w
  rw [txt_list] at hb0
  obtain ⟨m, hm⟩ := h.gl
  have hsz : (txt t.tk.text).size ≤ 140737488355328 := by rw [txt_size]; have := h.tok.text t (by simp); omega
  have hnm := fun w' (h' : w'.cell? ⟨0, 0, none⟩ = some (.int .i64 m)) => name_any (txt t.tk.text) m w' hsz h'
  rw [txt_list] at hnm
  have hr2 : 0 < tr.length := (h.tok.tail (by omega)).pos
  have hlen2 : (t :: tr).length = tr.length + 1 := rfl
  have w1a := hn_true
  have w1b := hn_false
  have w1c := hn_null
  have h0a : ∀ o2, ((w.alloc (.cells zeroX 26)).alloc o2).heap[w.heap.size]? = some (.cells zeroX 26 (0, 0)) := fun o2 => by
    rw [((Gr.refl _).alloc _).block _ (by simp)]; exact alloc_at _ _
  have HGL : Hid (∀ o1 o2 w', Gr ((w.alloc o1).alloc o2) w' → w'.cell? ⟨0, 0, none⟩ = some (.int .i64 m)) := hid (fun o1 o2 w' hg => ((hA o1 o2).trans hg).keep hm)
  clear hn hr2 hlen2
  generalize hk0 : t.tk.kind = tk at *
  generalize ht0 : t.tk.text = tx at *
  generalize hm0 : t.tk.num = tn at *
  generalize t.pos = tp at *
  clear h hat hne hh hs hS hk0 ht0 hm0 hk1
  generalize hQ : callS E tx s = Q at *
  go_enter Tryz.func130, Tryz.ntmps130
  go_wp2_with fail
  refine (word_no p ⟨#[116, 114, 117, 101]⟩ s _ (hS0 _ _) w1a).mono ?_
  rintro e w' ⟨rfl, rfl⟩
  go_wp2_with fail
  refine (word_no p ⟨#[102, 97, 108, 115, 101]⟩ s _ (hS0 _ _) w1b).mono ?_
  rintro e w' ⟨rfl, rfl⟩
  go_wp2_with fail
  refine (word_no p ⟨#[110, 117, 108, 108]⟩ s _ (hS0 _ _) w1c).mono ?_
  rintro e w' ⟨rfl, rfl⟩
  go_wp2_with fail
  refine (is4_any p ⟨#[40]⟩ s _ (hS0 _ _)).mono ?_
  rintro e w' ⟨rfl, rfl⟩
  rw [hw4]
  go_wp2_with fail
  refine (hb0 _).mono ?_
  rintro e wb ⟨rfl, hgb⟩
  rw [hbt]
  have hgz : Gr _ wb := hgb
  have hz1 := hgz.size
  simp only [World.size_alloc] at hz1
  have hKz : ∀ i, wb.cell? ⟨w.heap.size + 1, i, none⟩ = (#[.int .i64 (tk : Int), .string (txt tx), .int .i64 (tn : Int), .int .i64 (tp : Int)] : Array Value)[i]? := fun i => by
    rw [hgz.cells _ _ (by simp)]
    rw [show w.heap.size + 1 = (w.alloc (.cells zeroX 26)).heap.size from (World.size_alloc w (.cells zeroX 26)).symm]
    exact Rg.blk_cells (alloc_at _ _) i
  go_wp2_with fail
  refine (hcall _ ((hS0 _ _).keep hgz)).mono ?_
  rintro e w6 ⟨u, rfl, r, x, rfl, hx, hps6, hg6, hgd⟩
  have h06 : w6.heap[w.heap.size]? = some (.cells zeroX 26 (0, 0)) := by
    rw [hg6.get (by omega) (by omega), hgz.block _ (by simp; omega)]; exact h0a _
  have hgo6 : Go1 p w w6 := ((Go1.of (hA _ _)).block2 hgz).trans hg6
  have FI : Hid (∀ W5, Go1 w.heap.size w6 W5 → Rx p w Q (XR.val r) W5) := hid (fun W5 h5 => giveG hpw rfl (hx.mono (fun b _ hb => by have : wb.heap.size ≤ b := hb; exact ⟨by omega, by omega⟩)) hps6 hgo6 hgd h5)
  have H05 := hid h06
  clear hps6 hg6 hgo6 h06 hx hgd hcall hgz hS0 hA hA1 h0a
  unfold XR.val
  go_wp2_with (guard_target =~ wpList _ _ _ (Oper.mk _ (Op.store 26 _ _) _ _ _ _ :: _) _ _; refine st_row (ty := 26) rfl rfl w.heap.size _ rfl rfl 26 _ (H05.out) (by kernel_rfl) rfl (by kernel_rfl) ?_; intro W5 hW5 gW5 zW5)
  (try change bodyPost _ _ _ _ _ _)
  have hT := Rg.blk_cells hW5
  refine bodyPost_ret (v := XR.val r) (by simp [results, Tryz.results130, go_sem, XR.val, nul, hT]; try rfl) rfl ⟨_, rfl, FI.out W5 gW5⟩
set_option maxHeartbeats 8000000 in
set_option maxRecDepth 100000 in
theorem single_next (E : Pa Ex) (p : Nat) (t : Lx.Tok) (tr : List Lx.Tok) (d : Nat) (s : Ps) (hs : s = .ok (t :: tr) d) (w : World) (hS : PS p w s) (hn_true : s.is 1 ⟨#[116, 114, 117, 101]⟩ = false) (hn_false : s.is 1 ⟨#[102, 97, 108, 115, 101]⟩ = false) (hn_null : s.is 1 ⟨#[110, 117, 108, 108]⟩ = false) (hk1 : t.tk.kind = 1) (hw4 : s.is 4 ⟨#[40]⟩ = false) (hbt : built t.tk.text = false) (hnb : nameB t.tk.text = true) (htl : s.tail.is 4 ⟨#[40]⟩ = true) (hcall : ∀ w', PS p w' s → Calls Tryz.prog 134 #[.pointer (some ⟨p, 0, none⟩), .string (txt s.headT)] w' (Px p w' (callS E s.headT s))) : Calls Tryz.prog 130 #[.pointer (some ⟨p, 0, none⟩)] w (Px p w (single E s)) := by
  have hpw := hS.lt
  have hgood : s.good = true := by rw [hs]; rfl
  have hheadK : s.headK = t.tk.kind := by rw [hs]; rfl
  have hheadT : s.headT = t.tk.text := by rw [hs]; rfl
  have hheadN : s.headN = t.tk.num := by rw [hs]; rfl
  have hS2 := hS
  rw [hs] at hS2
  obtain ⟨hd, h⟩ := hS2
  obtain ⟨oa, cap, hh, hc, hat, hne⟩ := h.ex
  have r0 := Rg.blk_cells hh 0
  have r2 := Rg.blk_cells hh 2
  simp only [List.getElem?_toArray, List.getElem?_cons_zero, List.getElem?_cons_succ] at r0 r2
  obtain ⟨b, off, hoa, hb, c0, c1, c2, c3⟩ := t_get hat 0 (by simp)
  simp only [List.getElem_cons_zero, Nat.zero_mul, Nat.add_zero] at c0 c1 c2 c3
  subst hoa
  obtain ⟨n, hn⟩ : ∃ n, (t :: tr).length = n := ⟨_, rfl⟩
  have hn1 : 1 ≤ n := by rw [← hn]; simp
  rw [hn] at r0 hc
  have g2 : (0 : Int) < (n : Int) := by omega
  have hA1 := fun o => (Gr.refl w).alloc o
  have hA := fun o1 o2 => (hA1 o1).alloc o2
  have hS0 := fun o1 o2 => hS.keep (hA o1 o2)
  have eR : single E s = callS E s.headT s := by
    unfold single; rw [hheadK, hheadT]; simp only [hk1, hn_true, hn_false, hn_null, hw4, hbt, hnb, htl]; rfl
  rw [eR]
  clear eR
  rw [hheadT] at hcall
  rw [hheadT]
  have q1 : ((t.tk.kind : Int) == 2) = false := by rw [hk1]; rfl
  have q2 : ((t.tk.kind : Int) == 3) = false := by rw [hk1]; rfl
  have q3 : ((t.tk.kind : Int) == 1) = true := by rw [hk1]; rfl
  have hb0 := fun w => built_any (txt t.tk.text) w
  rw [txt_list] at hb0
  obtain ⟨m, hm⟩ := h.gl
  have hsz : (txt t.tk.text).size ≤ 140737488355328 := by rw [txt_size]; have := h.tok.text t (by simp); omega
  have hnm := fun w' (h' : w'.cell? ⟨0, 0, none⟩ = some (.int .i64 m)) => name_any (txt t.tk.text) m w' hsz h'
  rw [txt_list] at hnm
  have hr2 : 0 < tr.length := (h.tok.tail (by omega)).pos
  have hlen2 : (t :: tr).length = tr.length + 1 := rfl
  obtain ⟨t2, tr2, htr⟩ : ∃ t2 tr2, tr = t2 :: tr2 := by cases tr with
    | nil => simp at hr2
    | cons t2 tr2 => exact ⟨t2, tr2, rfl⟩
  subst htr
  obtain ⟨b', off', hoa', _, d0, d1, _, _⟩ := t_get hat 1 (by simp)
  cases hoa'
  simp only [List.getElem_cons_succ, List.getElem_cons_zero, Nat.one_mul] at d0 d1
  have w1a := hn_true
  have w1b := hn_false
  have w1c := hn_null
  have h0a : ∀ o2, ((w.alloc (.cells zeroX 26)).alloc o2).heap[w.heap.size]? = some (.cells zeroX 26 (0, 0)) := fun o2 => by
    rw [((Gr.refl _).alloc _).block _ (by simp)]; exact alloc_at _ _
  have HGL : Hid (∀ o1 o2 w', Gr ((w.alloc o1).alloc o2) w' → w'.cell? ⟨0, 0, none⟩ = some (.int .i64 m)) := hid (fun o1 o2 w' hg => ((hA o1 o2).trans hg).keep hm)
  have n2 : (1 : Int) < (n : Int) := by rw [← hn]; simp; omega
  have n3 : 2 ≤ n := by rw [← hn]; simp
  have htl2 : (t2.tk.kind == 4 && t2.tk.text == (⟨#[40]⟩ : ByteArray).data.toList) = true := by rw [hs] at htl; exact htl
  simp only [Bool.and_eq_true] at htl2
  have k2 : ((t2.tk.kind : Int) == 4) = true := by rw [show (4 : Int) = ((4 : Nat) : Int) from rfl, ibeq']; exact htl2.1
  have x2 : ((txt t2.tk.text).toList == [40]) = true := by rw [ByteArray.toList_eq, txt_list]; exact htl2.2
  clear htl2
  generalize t2.tk.kind = tk2 at *
  generalize hx2 : txt t2.tk.text = tx2 at *
  clear hx2 hr2 hlen2 hn
  generalize hk0 : t.tk.kind = tk at *
  generalize ht0 : t.tk.text = tx at *
  generalize hm0 : t.tk.num = tn at *
  generalize t.pos = tp at *
  clear h hat hne hh hs hS hk0 ht0 hm0 hk1
  generalize hQ : callS E tx s = Q at *
  go_enter Tryz.func130, Tryz.ntmps130
  go_wp2_with fail
  refine (word_no p ⟨#[116, 114, 117, 101]⟩ s _ (hS0 _ _) w1a).mono ?_
  rintro e w' ⟨rfl, rfl⟩
  go_wp2_with fail
  refine (word_no p ⟨#[102, 97, 108, 115, 101]⟩ s _ (hS0 _ _) w1b).mono ?_
  rintro e w' ⟨rfl, rfl⟩
  go_wp2_with fail
  refine (word_no p ⟨#[110, 117, 108, 108]⟩ s _ (hS0 _ _) w1c).mono ?_
  rintro e w' ⟨rfl, rfl⟩
  go_wp2_with fail
  refine (is4_any p ⟨#[40]⟩ s _ (hS0 _ _)).mono ?_
  rintro e w' ⟨rfl, rfl⟩
  rw [hw4]
  go_wp2_with fail
  refine (hb0 _).mono ?_
  rintro e wb ⟨rfl, hgb⟩
  rw [hbt]
  have hgl := HGL.out _ _ wb hgb
  have hz0 := hgb.size
  simp only [World.size_alloc] at hz0
  have hKb : ∀ i, wb.cell? ⟨w.heap.size + 1, i, none⟩ = (#[.int .i64 (tk : Int), .string (txt tx), .int .i64 (tn : Int), .int .i64 (tp : Int)] : Array Value)[i]? := fun i => by
    rw [hgb.cells _ _ (by simp)]
    rw [show w.heap.size + 1 = (w.alloc (.cells zeroX 26)).heap.size from (World.size_alloc w (.cells zeroX 26)).symm]
    exact Rg.blk_cells (alloc_at _ _) i
  go_wp2_with fail
  refine (hnm _ hgl).mono ?_
  rintro e wn ⟨rfl, hgn⟩
  rw [hnb]
  have hgbn : Gr _ wn := Gr.trans hgb hgn
  have r0n := ((hA _ _).trans hgbn).keep r0
  have d0n := ((hA _ _).trans hgbn).keep d0
  have d1n := ((hA _ _).trans hgbn).keep d1
  have hgz : Gr _ wn := hgbn
  have hz1 := hgz.size
  simp only [World.size_alloc] at hz1
  have hKz : ∀ i, wn.cell? ⟨w.heap.size + 1, i, none⟩ = (#[.int .i64 (tk : Int), .string (txt tx), .int .i64 (tn : Int), .int .i64 (tp : Int)] : Array Value)[i]? := fun i => by
    rw [hgz.cells _ _ (by simp)]
    rw [show w.heap.size + 1 = (w.alloc (.cells zeroX 26)).heap.size from (World.size_alloc w (.cells zeroX 26)).symm]
    exact Rg.blk_cells (alloc_at _ _) i
  go_wp2_with fail
  refine (hcall _ ((hS0 _ _).keep hgz)).mono ?_
  rintro e w6 ⟨u, rfl, r, x, rfl, hx, hps6, hg6, hgd⟩
  have h06 : w6.heap[w.heap.size]? = some (.cells zeroX 26 (0, 0)) := by
    rw [hg6.get (by omega) (by omega), hgz.block _ (by simp; omega)]; exact h0a _
  have hgo6 : Go1 p w w6 := ((Go1.of (hA _ _)).block2 hgz).trans hg6
  have FI : Hid (∀ W5, Go1 w.heap.size w6 W5 → Rx p w Q (XR.val r) W5) := hid (fun W5 h5 => giveG hpw rfl (hx.mono (fun b _ hb => by have : wn.heap.size ≤ b := hb; exact ⟨by omega, by omega⟩)) hps6 hgo6 hgd h5)
  have H05 := hid h06
  clear hps6 hg6 hgo6 h06 hx hgd hcall hgz hS0 hA hA1 h0a
  unfold XR.val
  go_wp2_with (guard_target =~ wpList _ _ _ (Oper.mk _ (Op.store 26 _ _) _ _ _ _ :: _) _ _; refine st_row (ty := 26) rfl rfl w.heap.size _ rfl rfl 26 _ (H05.out) (by kernel_rfl) rfl (by kernel_rfl) ?_; intro W5 hW5 gW5 zW5)
  (try change bodyPost _ _ _ _ _ _)
  have hT := Rg.blk_cells hW5
  refine bodyPost_ret (v := XR.val r) (by simp [results, Tryz.results130, go_sem, XR.val, nul, hT]; try rfl) rfl ⟨_, rfl, FI.out W5 gW5⟩
set_option maxHeartbeats 8000000 in
set_option maxRecDepth 100000 in
theorem single_nokind (E : Pa Ex) (p : Nat) (t : Lx.Tok) (tr : List Lx.Tok) (d : Nat) (s : Ps) (hs : s = .ok (t :: tr) d) (w : World) (hS : PS p w s) (hn_true : s.is 1 ⟨#[116, 114, 117, 101]⟩ = false) (hn_false : s.is 1 ⟨#[102, 97, 108, 115, 101]⟩ = false) (hn_null : s.is 1 ⟨#[110, 117, 108, 108]⟩ = false)  (hw4 : s.is 4 ⟨#[40]⟩ = false) (hk2 : t.tk.kind ≠ 2) (hk3 : t.tk.kind ≠ 3) (hk1 : t.tk.kind ≠ 1) : Calls Tryz.prog 130 #[.pointer (some ⟨p, 0, none⟩)] w (Px p w (single E s)) := by
  have hpw := hS.lt
  have hgood : s.good = true := by rw [hs]; rfl
  have hheadK : s.headK = t.tk.kind := by rw [hs]; rfl
  have hheadT : s.headT = t.tk.text := by rw [hs]; rfl
  have hheadN : s.headN = t.tk.num := by rw [hs]; rfl
  have hS2 := hS
  rw [hs] at hS2
  obtain ⟨hd, h⟩ := hS2
  obtain ⟨oa, cap, hh, hc, hat, hne⟩ := h.ex
  have r0 := Rg.blk_cells hh 0
  have r2 := Rg.blk_cells hh 2
  simp only [List.getElem?_toArray, List.getElem?_cons_zero, List.getElem?_cons_succ] at r0 r2
  obtain ⟨b, off, hoa, hb, c0, c1, c2, c3⟩ := t_get hat 0 (by simp)
  simp only [List.getElem_cons_zero, Nat.zero_mul, Nat.add_zero] at c0 c1 c2 c3
  subst hoa
  obtain ⟨n, hn⟩ : ∃ n, (t :: tr).length = n := ⟨_, rfl⟩
  have hn1 : 1 ≤ n := by rw [← hn]; simp
  rw [hn] at r0 hc
  have g2 : (0 : Int) < (n : Int) := by omega
  have hA1 := fun o => (Gr.refl w).alloc o
  have hA := fun o1 o2 => (hA1 o1).alloc o2
  have hS0 := fun o1 o2 => hS.keep (hA o1 o2)
  have eR : single E s = nameS s := by
    have e1 : (t.tk.kind == 1) = false := by simpa using hk1
    have e2 : (t.tk.kind == 2) = false := by simpa using hk2
    have e3 : (t.tk.kind == 3) = false := by simpa using hk3
    unfold single; rw [hheadK, e1, e2, e3, hn_true, hn_false, hn_null, hw4]; rfl
  rw [eR]
  clear eR
  have q1 : ((t.tk.kind : Int) == 2) = false := by rw [show (2 : Int) = ((2 : Nat) : Int) from rfl, ibeq']; simpa using hk2
  have q2 : ((t.tk.kind : Int) == 3) = false := by rw [show (3 : Int) = ((3 : Nat) : Int) from rfl, ibeq']; simpa using hk3
  have q3 : ((t.tk.kind : Int) == 1) = false := by rw [show (1 : Int) = ((1 : Nat) : Int) from rfl, ibeq']; simpa using hk1
  have w1a := hn_true
  have w1b := hn_false
  have w1c := hn_null
  have h0a : ∀ o2, ((w.alloc (.cells zeroX 26)).alloc o2).heap[w.heap.size]? = some (.cells zeroX 26 (0, 0)) := fun o2 => by
    rw [((Gr.refl _).alloc _).block _ (by simp)]; exact alloc_at _ _
  generalize hk0 : t.tk.kind = tk at *
  generalize ht0 : t.tk.text = tx at *
  generalize hm0 : t.tk.num = tn at *
  generalize t.pos = tp at *
  clear h hat hne hh hn hs hS hk0 ht0 hm0
  go_enter Tryz.func130, Tryz.ntmps130
  go_wp2_with fail
  refine (word_no p ⟨#[116, 114, 117, 101]⟩ s _ (hS0 _ _) w1a).mono ?_
  rintro e w' ⟨rfl, rfl⟩
  go_wp2_with fail
  refine (word_no p ⟨#[102, 97, 108, 115, 101]⟩ s _ (hS0 _ _) w1b).mono ?_
  rintro e w' ⟨rfl, rfl⟩
  go_wp2_with fail
  refine (word_no p ⟨#[110, 117, 108, 108]⟩ s _ (hS0 _ _) w1c).mono ?_
  rintro e w' ⟨rfl, rfl⟩
  go_wp2_with fail
  refine (is4_any p ⟨#[40]⟩ s _ (hS0 _ _)).mono ?_
  rintro e w' ⟨rfl, rfl⟩
  rw [hw4]
  have hps0 := hS0
  have hgo0 := fun o1 o2 => Go1.of (p := p) (hA o1 o2)
  go_wp2_with fail
  refine (pname_any p s _ (hS0 _ _)).mono ?_
  rintro e w5 ⟨rfl, hps5, hg5⟩
  have z5 := hg5.size
  simp only [World.size_alloc] at z5
  have h05 : w5.heap[w.heap.size]? = some (.cells zeroX 26 (0, 0)) := by
    rw [hg5.get (by simp; omega) (by omega)]; exact h0a _
  have hgo5 : Go1 p w w5 := (Go1.of (hA _ _)).trans hg5
  obtain ⟨n1, hn1'⟩ : ∃ n1, s.name.1 = n1 := ⟨_, rfl⟩
  obtain ⟨s5, hs5⟩ : ∃ s5, s.name.2 = s5 := ⟨_, rfl⟩
  obtain ⟨R, hR0⟩ : ∃ R, nameS s = R := ⟨_, rfl⟩
  have HR : Hid (R = (if s5.is 4 ⟨#[46]⟩ then (let m := s5.step.name; (.mk { op := 2, tab := n1, name := m.1 } [], m.2)) else (.mk { op := 2, name := n1 } [], s5))) := hid (by rw [← hR0, ← hs5, ← hn1']; rfl)
  rw [hn1']
  rw [hs5] at hps5
  clear hg5 hS0 hA hA1 h0a hn1' hs5
  go_wp2_with fail
  refine (sign_any' p ⟨#[46]⟩ s5 _ hps5).mono ?_
  rintro e w6 ⟨rfl, hps6, hg6⟩
  have z6 := hg6.size
  have h06 : w6.heap[w.heap.size]? = some (.cells zeroX 26 (0, 0)) := by
    rw [hg6.get (by omega) (by omega)]; exact h05
  have hgo6 := hgo5.trans hg6
  clear hg6 hps5 hgo5 h05
  cases hB : s5.is 4 ⟨#[46]⟩ with
  | true =>
    rw [show (s5.may 4 ⟨#[46]⟩).2 = s5.step by simp [Ps.may, hB]] at hps6
    go_wp2_with fail
    refine (pname_any p s5.step _ hps6).mono ?_
    rintro e w7 ⟨rfl, hps7, hg7⟩
    have FI : Hid (∀ W5, Go1 w.heap.size w7 W5 → Rx p w (nameS s) (XR.val ⟨{ op := 2, tab := n1, name := s5.step.name.1 }, none, 0, 0⟩) W5) := hid (fun W5 h5 => by
      rw [hR0, HR.out, hB]
      exact giveG (R := (.mk { op := 2, tab := n1, name := s5.step.name.1 } [], s5.step.name.2)) hpw rfl (formZ (S := fun b => w.heap.size ≤ b ∧ b ≠ w.heap.size)) hps7 (hgo6.trans hg7) (fun _ => rfl) h5)
    have H05 : Hid (w7.heap[w.heap.size]? = some (.cells zeroX 26 (0, 0))) := hid (by rw [hg7.get (by omega) (by omega)]; exact h06)
    clear hps6 hps7 hg7 hgo6 h06 HR hR0
    generalize s5.step.name.1 = n2 at *
    go_wp2_with (guard_target =~ wpList _ _ _ (Oper.mk _ (Op.store 26 _ _) _ _ _ _ :: _) _ _; refine st_row (ty := 26) rfl rfl w.heap.size _ rfl rfl 26 _ (H05.out) (by kernel_rfl) rfl (by kernel_rfl) ?_; intro W5 hW5 gW5 zW5)
    (try change bodyPost _ _ _ _ _ _)
    have hT := Rg.blk_cells hW5
    refine bodyPost_ret (v := XR.val ⟨{ op := 2, tab := n1, name := n2 }, none, 0, 0⟩) (by simp [results, Tryz.results130, go_sem, XR.val, nul, hT]; try rfl) rfl ⟨_, rfl, FI.out W5 gW5⟩
  | false =>
    rw [show (s5.may 4 ⟨#[46]⟩).2 = s5 by simp [Ps.may, hB]] at hps6
    have FI : Hid (∀ W5, Go1 w.heap.size w6 W5 → Rx p w (nameS s) (XR.val ⟨{ op := 2, name := n1 }, none, 0, 0⟩) W5) := hid (fun W5 h5 => by
      rw [hR0, HR.out, hB]
      exact giveG (R := (.mk { op := 2, name := n1 } [], s5)) hpw rfl (formZ (S := fun b => w.heap.size ≤ b ∧ b ≠ w.heap.size)) hps6 hgo6 (fun _ => rfl) h5)
    have H05 := hid h06
    clear hps6 hgo6 h06 HR hR0
    go_wp2_with (guard_target =~ wpList _ _ _ (Oper.mk _ (Op.store 26 _ _) _ _ _ _ :: _) _ _; refine st_row (ty := 26) rfl rfl w.heap.size _ rfl rfl 26 _ (H05.out) (by kernel_rfl) rfl (by kernel_rfl) ?_; intro W5 hW5 gW5 zW5)
    (try change bodyPost _ _ _ _ _ _)
    have hT := Rg.blk_cells hW5
    refine bodyPost_ret (v := XR.val ⟨{ op := 2, name := n1 }, none, 0, 0⟩) (by simp [results, Tryz.results130, go_sem, XR.val, nul, hT]; try rfl) rfl ⟨_, rfl, FI.out W5 gW5⟩
set_option maxHeartbeats 8000000 in
set_option maxRecDepth 100000 in
theorem single_noname (E : Pa Ex) (p : Nat) (t : Lx.Tok) (tr : List Lx.Tok) (d : Nat) (s : Ps) (hs : s = .ok (t :: tr) d) (w : World) (hS : PS p w s) (hn_true : s.is 1 ⟨#[116, 114, 117, 101]⟩ = false) (hn_false : s.is 1 ⟨#[102, 97, 108, 115, 101]⟩ = false) (hn_null : s.is 1 ⟨#[110, 117, 108, 108]⟩ = false)  (hw4 : s.is 4 ⟨#[40]⟩ = false) (hk1 : t.tk.kind = 1) (hbt : built t.tk.text = false) (hnb : nameB t.tk.text = false) : Calls Tryz.prog 130 #[.pointer (some ⟨p, 0, none⟩)] w (Px p w (single E s)) := by
  have hpw := hS.lt
  have hgood : s.good = true := by rw [hs]; rfl
  have hheadK : s.headK = t.tk.kind := by rw [hs]; rfl
  have hheadT : s.headT = t.tk.text := by rw [hs]; rfl
  have hheadN : s.headN = t.tk.num := by rw [hs]; rfl
  have hS2 := hS
  rw [hs] at hS2
  obtain ⟨hd, h⟩ := hS2
  obtain ⟨oa, cap, hh, hc, hat, hne⟩ := h.ex
  have r0 := Rg.blk_cells hh 0
  have r2 := Rg.blk_cells hh 2
  simp only [List.getElem?_toArray, List.getElem?_cons_zero, List.getElem?_cons_succ] at r0 r2
  obtain ⟨b, off, hoa, hb, c0, c1, c2, c3⟩ := t_get hat 0 (by simp)
  simp only [List.getElem_cons_zero, Nat.zero_mul, Nat.add_zero] at c0 c1 c2 c3
  subst hoa
  obtain ⟨n, hn⟩ : ∃ n, (t :: tr).length = n := ⟨_, rfl⟩
  have hn1 : 1 ≤ n := by rw [← hn]; simp
  rw [hn] at r0 hc
  have g2 : (0 : Int) < (n : Int) := by omega
  have hA1 := fun o => (Gr.refl w).alloc o
  have hA := fun o1 o2 => (hA1 o1).alloc o2
  have hS0 := fun o1 o2 => hS.keep (hA o1 o2)
  have eR : single E s = nameS s := by
    unfold single; rw [hheadK, hheadT]; simp only [hk1, hn_true, hn_false, hn_null, hw4, hbt, hnb]; rfl
  rw [eR]
  clear eR
  have q1 : ((t.tk.kind : Int) == 2) = false := by rw [hk1]; rfl
  have q2 : ((t.tk.kind : Int) == 3) = false := by rw [hk1]; rfl
  have q3 : ((t.tk.kind : Int) == 1) = true := by rw [hk1]; rfl
  have hb0 := fun w => built_any (txt t.tk.text) w
  rw [txt_list] at hb0
  obtain ⟨m, hm⟩ := h.gl
  have hsz : (txt t.tk.text).size ≤ 140737488355328 := by rw [txt_size]; have := h.tok.text t (by simp); omega
  have hnm := fun w' (h' : w'.cell? ⟨0, 0, none⟩ = some (.int .i64 m)) => name_any (txt t.tk.text) m w' hsz h'
  rw [txt_list] at hnm
  have hr2 : 0 < tr.length := (h.tok.tail (by omega)).pos
  have hlen2 : (t :: tr).length = tr.length + 1 := rfl
  have w1a := hn_true
  have w1b := hn_false
  have w1c := hn_null
  have h0a : ∀ o2, ((w.alloc (.cells zeroX 26)).alloc o2).heap[w.heap.size]? = some (.cells zeroX 26 (0, 0)) := fun o2 => by
    rw [((Gr.refl _).alloc _).block _ (by simp)]; exact alloc_at _ _
  have HGL : Hid (∀ o1 o2 w', Gr ((w.alloc o1).alloc o2) w' → w'.cell? ⟨0, 0, none⟩ = some (.int .i64 m)) := hid (fun o1 o2 w' hg => ((hA o1 o2).trans hg).keep hm)
  clear hn hr2 hlen2
  generalize hk0 : t.tk.kind = tk at *
  generalize ht0 : t.tk.text = tx at *
  generalize hm0 : t.tk.num = tn at *
  generalize t.pos = tp at *
  clear h hat hne hh hs hS hk0 ht0 hm0 hk1
  go_enter Tryz.func130, Tryz.ntmps130
  go_wp2_with fail
  refine (word_no p ⟨#[116, 114, 117, 101]⟩ s _ (hS0 _ _) w1a).mono ?_
  rintro e w' ⟨rfl, rfl⟩
  go_wp2_with fail
  refine (word_no p ⟨#[102, 97, 108, 115, 101]⟩ s _ (hS0 _ _) w1b).mono ?_
  rintro e w' ⟨rfl, rfl⟩
  go_wp2_with fail
  refine (word_no p ⟨#[110, 117, 108, 108]⟩ s _ (hS0 _ _) w1c).mono ?_
  rintro e w' ⟨rfl, rfl⟩
  go_wp2_with fail
  refine (is4_any p ⟨#[40]⟩ s _ (hS0 _ _)).mono ?_
  rintro e w' ⟨rfl, rfl⟩
  rw [hw4]
  go_wp2_with fail
  refine (hb0 _).mono ?_
  rintro e wb ⟨rfl, hgb⟩
  rw [hbt]
  have hgl := HGL.out _ _ wb hgb
  have hz0 := hgb.size
  simp only [World.size_alloc] at hz0
  have hKb : ∀ i, wb.cell? ⟨w.heap.size + 1, i, none⟩ = (#[.int .i64 (tk : Int), .string (txt tx), .int .i64 (tn : Int), .int .i64 (tp : Int)] : Array Value)[i]? := fun i => by
    rw [hgb.cells _ _ (by simp)]
    rw [show w.heap.size + 1 = (w.alloc (.cells zeroX 26)).heap.size from (World.size_alloc w (.cells zeroX 26)).symm]
    exact Rg.blk_cells (alloc_at _ _) i
  go_wp2_with fail
  refine (hnm _ hgl).mono ?_
  rintro e wn ⟨rfl, hgn⟩
  rw [hnb]
  have hgbn : Gr _ wn := Gr.trans hgb hgn
  have hgz : Gr _ wn := hgbn
  have hz1 := hgz.size
  simp only [World.size_alloc] at hz1
  go_wp2_with fail
  refine (pname_any p s _ ((hS0 _ _).keep hgz)).mono ?_
  rintro e w5 ⟨rfl, hps5, hg5⟩
  have z5 := hg5.size
  have h05 : w5.heap[w.heap.size]? = some (.cells zeroX 26 (0, 0)) := by
    rw [hg5.get (by omega) (by omega), hgz.block _ (by simp; omega)]; exact h0a _
  have hgo5 : Go1 p w w5 := ((Go1.of (hA _ _)).block2 hgz).trans hg5
  obtain ⟨n1, hn1'⟩ : ∃ n1, s.name.1 = n1 := ⟨_, rfl⟩
  obtain ⟨s5, hs5⟩ : ∃ s5, s.name.2 = s5 := ⟨_, rfl⟩
  obtain ⟨R, hR0⟩ : ∃ R, nameS s = R := ⟨_, rfl⟩
  have HR : Hid (R = (if s5.is 4 ⟨#[46]⟩ then (let m := s5.step.name; (.mk { op := 2, tab := n1, name := m.1 } [], m.2)) else (.mk { op := 2, name := n1 } [], s5))) := hid (by rw [← hR0, ← hs5, ← hn1']; rfl)
  rw [hn1']
  rw [hs5] at hps5
  clear hg5 hS0 hA hA1 h0a hn1' hs5 hgz
  go_wp2_with fail
  refine (sign_any' p ⟨#[46]⟩ s5 _ hps5).mono ?_
  rintro e w6 ⟨rfl, hps6, hg6⟩
  have z6 := hg6.size
  have h06 : w6.heap[w.heap.size]? = some (.cells zeroX 26 (0, 0)) := by
    rw [hg6.get (by omega) (by omega)]; exact h05
  have hgo6 := hgo5.trans hg6
  clear hg6 hps5 hgo5 h05
  cases hB : s5.is 4 ⟨#[46]⟩ with
  | true =>
    rw [show (s5.may 4 ⟨#[46]⟩).2 = s5.step by simp [Ps.may, hB]] at hps6
    go_wp2_with fail
    refine (pname_any p s5.step _ hps6).mono ?_
    rintro e w7 ⟨rfl, hps7, hg7⟩
    have FI : Hid (∀ W5, Go1 w.heap.size w7 W5 → Rx p w (nameS s) (XR.val ⟨{ op := 2, tab := n1, name := s5.step.name.1 }, none, 0, 0⟩) W5) := hid (fun W5 h5 => by
      rw [hR0, HR.out, hB]
      exact giveG (R := (.mk { op := 2, tab := n1, name := s5.step.name.1 } [], s5.step.name.2)) hpw rfl (formZ (S := fun b => w.heap.size ≤ b ∧ b ≠ w.heap.size)) hps7 (hgo6.trans hg7) (fun _ => rfl) h5)
    have H05 : Hid (w7.heap[w.heap.size]? = some (.cells zeroX 26 (0, 0))) := hid (by rw [hg7.get (by omega) (by omega)]; exact h06)
    clear hps6 hps7 hg7 hgo6 h06 HR hR0
    generalize s5.step.name.1 = n2 at *
    go_wp2_with (guard_target =~ wpList _ _ _ (Oper.mk _ (Op.store 26 _ _) _ _ _ _ :: _) _ _; refine st_row (ty := 26) rfl rfl w.heap.size _ rfl rfl 26 _ (H05.out) (by kernel_rfl) rfl (by kernel_rfl) ?_; intro W5 hW5 gW5 zW5)
    (try change bodyPost _ _ _ _ _ _)
    have hT := Rg.blk_cells hW5
    refine bodyPost_ret (v := XR.val ⟨{ op := 2, tab := n1, name := n2 }, none, 0, 0⟩) (by simp [results, Tryz.results130, go_sem, XR.val, nul, hT]; try rfl) rfl ⟨_, rfl, FI.out W5 gW5⟩
  | false =>
    rw [show (s5.may 4 ⟨#[46]⟩).2 = s5 by simp [Ps.may, hB]] at hps6
    have FI : Hid (∀ W5, Go1 w.heap.size w6 W5 → Rx p w (nameS s) (XR.val ⟨{ op := 2, name := n1 }, none, 0, 0⟩) W5) := hid (fun W5 h5 => by
      rw [hR0, HR.out, hB]
      exact giveG (R := (.mk { op := 2, name := n1 } [], s5)) hpw rfl (formZ (S := fun b => w.heap.size ≤ b ∧ b ≠ w.heap.size)) hps6 hgo6 (fun _ => rfl) h5)
    have H05 := hid h06
    clear hps6 hgo6 h06 HR hR0
    go_wp2_with (guard_target =~ wpList _ _ _ (Oper.mk _ (Op.store 26 _ _) _ _ _ _ :: _) _ _; refine st_row (ty := 26) rfl rfl w.heap.size _ rfl rfl 26 _ (H05.out) (by kernel_rfl) rfl (by kernel_rfl) ?_; intro W5 hW5 gW5 zW5)
    (try change bodyPost _ _ _ _ _ _)
    have hT := Rg.blk_cells hW5
    refine bodyPost_ret (v := XR.val ⟨{ op := 2, name := n1 }, none, 0, 0⟩) (by simp [results, Tryz.results130, go_sem, XR.val, nul, hT]; try rfl) rfl ⟨_, rfl, FI.out W5 gW5⟩
set_option maxHeartbeats 8000000 in
set_option maxRecDepth 100000 in
theorem single_nextk (E : Pa Ex) (p : Nat) (t : Lx.Tok) (tr : List Lx.Tok) (d : Nat) (s : Ps) (hs : s = .ok (t :: tr) d) (w : World) (hS : PS p w s) (hn_true : s.is 1 ⟨#[116, 114, 117, 101]⟩ = false) (hn_false : s.is 1 ⟨#[102, 97, 108, 115, 101]⟩ = false) (hn_null : s.is 1 ⟨#[110, 117, 108, 108]⟩ = false)  (hw4 : s.is 4 ⟨#[40]⟩ = false) (hk1 : t.tk.kind = 1) (hbt : built t.tk.text = false) (hnb : nameB t.tk.text = true) (htl : s.tail.is 4 ⟨#[40]⟩ = false) (hk4 : (s.tail.headK == 4) = false) : Calls Tryz.prog 130 #[.pointer (some ⟨p, 0, none⟩)] w (Px p w (single E s)) := by
  have hpw := hS.lt
  have hgood : s.good = true := by rw [hs]; rfl
  have hheadK : s.headK = t.tk.kind := by rw [hs]; rfl
  have hheadT : s.headT = t.tk.text := by rw [hs]; rfl
  have hheadN : s.headN = t.tk.num := by rw [hs]; rfl
  have hS2 := hS
  rw [hs] at hS2
  obtain ⟨hd, h⟩ := hS2
  obtain ⟨oa, cap, hh, hc, hat, hne⟩ := h.ex
  have r0 := Rg.blk_cells hh 0
  have r2 := Rg.blk_cells hh 2
  simp only [List.getElem?_toArray, List.getElem?_cons_zero, List.getElem?_cons_succ] at r0 r2
  obtain ⟨b, off, hoa, hb, c0, c1, c2, c3⟩ := t_get hat 0 (by simp)
  simp only [List.getElem_cons_zero, Nat.zero_mul, Nat.add_zero] at c0 c1 c2 c3
  subst hoa
  obtain ⟨n, hn⟩ : ∃ n, (t :: tr).length = n := ⟨_, rfl⟩
  have hn1 : 1 ≤ n := by rw [← hn]; simp
  rw [hn] at r0 hc
  have g2 : (0 : Int) < (n : Int) := by omega
  have hA1 := fun o => (Gr.refl w).alloc o
  have hA := fun o1 o2 => (hA1 o1).alloc o2
  have hS0 := fun o1 o2 => hS.keep (hA o1 o2)
  have eR : single E s = nameS s := by
    unfold single; rw [hheadK, hheadT]; simp only [hk1, hn_true, hn_false, hn_null, hw4, hbt, hnb, htl]; rfl
  rw [eR]
  clear eR
  have q1 : ((t.tk.kind : Int) == 2) = false := by rw [hk1]; rfl
  have q2 : ((t.tk.kind : Int) == 3) = false := by rw [hk1]; rfl
  have q3 : ((t.tk.kind : Int) == 1) = true := by rw [hk1]; rfl
  have hb0 := fun w => built_any (txt t.tk.text) w
  rw [txt_list] at hb0
  obtain ⟨m, hm⟩ := h.gl
  have hsz : (txt t.tk.text).size ≤ 140737488355328 := by rw [txt_size]; have := h.tok.text t (by simp); omega
  have hnm := fun w' (h' : w'.cell? ⟨0, 0, none⟩ = some (.int .i64 m)) => name_any (txt t.tk.text) m w' hsz h'
  rw [txt_list] at hnm
  have hr2 : 0 < tr.length := (h.tok.tail (by omega)).pos
  have hlen2 : (t :: tr).length = tr.length + 1 := rfl
  obtain ⟨t2, tr2, htr⟩ : ∃ t2 tr2, tr = t2 :: tr2 := by cases tr with
    | nil => simp at hr2
    | cons t2 tr2 => exact ⟨t2, tr2, rfl⟩
  subst htr
  obtain ⟨b', off', hoa', _, d0, d1, _, _⟩ := t_get hat 1 (by simp)
  cases hoa'
  simp only [List.getElem_cons_succ, List.getElem_cons_zero, Nat.one_mul] at d0 d1
  have w1a := hn_true
  have w1b := hn_false
  have w1c := hn_null
  have h0a : ∀ o2, ((w.alloc (.cells zeroX 26)).alloc o2).heap[w.heap.size]? = some (.cells zeroX 26 (0, 0)) := fun o2 => by
    rw [((Gr.refl _).alloc _).block _ (by simp)]; exact alloc_at _ _
  have HGL : Hid (∀ o1 o2 w', Gr ((w.alloc o1).alloc o2) w' → w'.cell? ⟨0, 0, none⟩ = some (.int .i64 m)) := hid (fun o1 o2 w' hg => ((hA o1 o2).trans hg).keep hm)
  have n2 : (1 : Int) < (n : Int) := by rw [← hn]; simp; omega
  have n3 : 2 ≤ n := by rw [← hn]; simp
  have k2 : ((t2.tk.kind : Int) == 4) = false := by rw [show (4 : Int) = ((4 : Nat) : Int) from rfl, ibeq']; rw [hs] at hk4; exact hk4
  generalize t2.tk.kind = tk2 at *
  generalize hx2 : txt t2.tk.text = tx2 at *
  clear hx2 hr2 hlen2 hn
  generalize hk0 : t.tk.kind = tk at *
  generalize ht0 : t.tk.text = tx at *
  generalize hm0 : t.tk.num = tn at *
  generalize t.pos = tp at *
  clear h hat hne hh hs hS hk0 ht0 hm0 hk1
  go_enter Tryz.func130, Tryz.ntmps130
  go_wp2_with fail
  refine (word_no p ⟨#[116, 114, 117, 101]⟩ s _ (hS0 _ _) w1a).mono ?_
  rintro e w' ⟨rfl, rfl⟩
  go_wp2_with fail
  refine (word_no p ⟨#[102, 97, 108, 115, 101]⟩ s _ (hS0 _ _) w1b).mono ?_
  rintro e w' ⟨rfl, rfl⟩
  go_wp2_with fail
  refine (word_no p ⟨#[110, 117, 108, 108]⟩ s _ (hS0 _ _) w1c).mono ?_
  rintro e w' ⟨rfl, rfl⟩
  go_wp2_with fail
  refine (is4_any p ⟨#[40]⟩ s _ (hS0 _ _)).mono ?_
  rintro e w' ⟨rfl, rfl⟩
  rw [hw4]
  go_wp2_with fail
  refine (hb0 _).mono ?_
  rintro e wb ⟨rfl, hgb⟩
  rw [hbt]
  have hgl := HGL.out _ _ wb hgb
  have hz0 := hgb.size
  simp only [World.size_alloc] at hz0
  have hKb : ∀ i, wb.cell? ⟨w.heap.size + 1, i, none⟩ = (#[.int .i64 (tk : Int), .string (txt tx), .int .i64 (tn : Int), .int .i64 (tp : Int)] : Array Value)[i]? := fun i => by
    rw [hgb.cells _ _ (by simp)]
    rw [show w.heap.size + 1 = (w.alloc (.cells zeroX 26)).heap.size from (World.size_alloc w (.cells zeroX 26)).symm]
    exact Rg.blk_cells (alloc_at _ _) i
  go_wp2_with fail
  refine (hnm _ hgl).mono ?_
  rintro e wn ⟨rfl, hgn⟩
  rw [hnb]
  have hgbn : Gr _ wn := Gr.trans hgb hgn
  have r0n := ((hA _ _).trans hgbn).keep r0
  have d0n := ((hA _ _).trans hgbn).keep d0
  have d1n := ((hA _ _).trans hgbn).keep d1
  have hgz : Gr _ wn := hgbn
  have hz1 := hgz.size
  simp only [World.size_alloc] at hz1
  go_wp2_with fail
  refine (pname_any p s _ ((hS0 _ _).keep hgz)).mono ?_
  rintro e w5 ⟨rfl, hps5, hg5⟩
  have z5 := hg5.size
  have h05 : w5.heap[w.heap.size]? = some (.cells zeroX 26 (0, 0)) := by
    rw [hg5.get (by omega) (by omega), hgz.block _ (by simp; omega)]; exact h0a _
  have hgo5 : Go1 p w w5 := ((Go1.of (hA _ _)).block2 hgz).trans hg5
  obtain ⟨n1, hn1'⟩ : ∃ n1, s.name.1 = n1 := ⟨_, rfl⟩
  obtain ⟨s5, hs5⟩ : ∃ s5, s.name.2 = s5 := ⟨_, rfl⟩
  obtain ⟨R, hR0⟩ : ∃ R, nameS s = R := ⟨_, rfl⟩
  have HR : Hid (R = (if s5.is 4 ⟨#[46]⟩ then (let m := s5.step.name; (.mk { op := 2, tab := n1, name := m.1 } [], m.2)) else (.mk { op := 2, name := n1 } [], s5))) := hid (by rw [← hR0, ← hs5, ← hn1']; rfl)
  rw [hn1']
  rw [hs5] at hps5
  clear hg5 hS0 hA hA1 h0a hn1' hs5 hgz
  go_wp2_with fail
  refine (sign_any' p ⟨#[46]⟩ s5 _ hps5).mono ?_
  rintro e w6 ⟨rfl, hps6, hg6⟩
  have z6 := hg6.size
  have h06 : w6.heap[w.heap.size]? = some (.cells zeroX 26 (0, 0)) := by
    rw [hg6.get (by omega) (by omega)]; exact h05
  have hgo6 := hgo5.trans hg6
  clear hg6 hps5 hgo5 h05
  cases hB : s5.is 4 ⟨#[46]⟩ with
  | true =>
    rw [show (s5.may 4 ⟨#[46]⟩).2 = s5.step by simp [Ps.may, hB]] at hps6
    go_wp2_with fail
    refine (pname_any p s5.step _ hps6).mono ?_
    rintro e w7 ⟨rfl, hps7, hg7⟩
    have FI : Hid (∀ W5, Go1 w.heap.size w7 W5 → Rx p w (nameS s) (XR.val ⟨{ op := 2, tab := n1, name := s5.step.name.1 }, none, 0, 0⟩) W5) := hid (fun W5 h5 => by
      rw [hR0, HR.out, hB]
      exact giveG (R := (.mk { op := 2, tab := n1, name := s5.step.name.1 } [], s5.step.name.2)) hpw rfl (formZ (S := fun b => w.heap.size ≤ b ∧ b ≠ w.heap.size)) hps7 (hgo6.trans hg7) (fun _ => rfl) h5)
    have H05 : Hid (w7.heap[w.heap.size]? = some (.cells zeroX 26 (0, 0))) := hid (by rw [hg7.get (by omega) (by omega)]; exact h06)
    clear hps6 hps7 hg7 hgo6 h06 HR hR0
    generalize s5.step.name.1 = n2 at *
    go_wp2_with (guard_target =~ wpList _ _ _ (Oper.mk _ (Op.store 26 _ _) _ _ _ _ :: _) _ _; refine st_row (ty := 26) rfl rfl w.heap.size _ rfl rfl 26 _ (H05.out) (by kernel_rfl) rfl (by kernel_rfl) ?_; intro W5 hW5 gW5 zW5)
    (try change bodyPost _ _ _ _ _ _)
    have hT := Rg.blk_cells hW5
    refine bodyPost_ret (v := XR.val ⟨{ op := 2, tab := n1, name := n2 }, none, 0, 0⟩) (by simp [results, Tryz.results130, go_sem, XR.val, nul, hT]; try rfl) rfl ⟨_, rfl, FI.out W5 gW5⟩
  | false =>
    rw [show (s5.may 4 ⟨#[46]⟩).2 = s5 by simp [Ps.may, hB]] at hps6
    have FI : Hid (∀ W5, Go1 w.heap.size w6 W5 → Rx p w (nameS s) (XR.val ⟨{ op := 2, name := n1 }, none, 0, 0⟩) W5) := hid (fun W5 h5 => by
      rw [hR0, HR.out, hB]
      exact giveG (R := (.mk { op := 2, name := n1 } [], s5)) hpw rfl (formZ (S := fun b => w.heap.size ≤ b ∧ b ≠ w.heap.size)) hps6 hgo6 (fun _ => rfl) h5)
    have H05 := hid h06
    clear hps6 hgo6 h06 HR hR0
    go_wp2_with (guard_target =~ wpList _ _ _ (Oper.mk _ (Op.store 26 _ _) _ _ _ _ :: _) _ _; refine st_row (ty := 26) rfl rfl w.heap.size _ rfl rfl 26 _ (H05.out) (by kernel_rfl) rfl (by kernel_rfl) ?_; intro W5 hW5 gW5 zW5)
    (try change bodyPost _ _ _ _ _ _)
    have hT := Rg.blk_cells hW5
    refine bodyPost_ret (v := XR.val ⟨{ op := 2, name := n1 }, none, 0, 0⟩) (by simp [results, Tryz.results130, go_sem, XR.val, nul, hT]; try rfl) rfl ⟨_, rfl, FI.out W5 gW5⟩
set_option maxHeartbeats 8000000 in
set_option maxRecDepth 100000 in
theorem single_nextt (E : Pa Ex) (p : Nat) (t : Lx.Tok) (tr : List Lx.Tok) (d : Nat) (s : Ps) (hs : s = .ok (t :: tr) d) (w : World) (hS : PS p w s) (hn_true : s.is 1 ⟨#[116, 114, 117, 101]⟩ = false) (hn_false : s.is 1 ⟨#[102, 97, 108, 115, 101]⟩ = false) (hn_null : s.is 1 ⟨#[110, 117, 108, 108]⟩ = false)  (hw4 : s.is 4 ⟨#[40]⟩ = false) (hk1 : t.tk.kind = 1) (hbt : built t.tk.text = false) (hnb : nameB t.tk.text = true) (htl : s.tail.is 4 ⟨#[40]⟩ = false) (hk4 : (s.tail.headK == 4) = true) (ht4 : (s.tail.headT == (⟨#[40]⟩ : ByteArray).data.toList) = false) : Calls Tryz.prog 130 #[.pointer (some ⟨p, 0, none⟩)] w (Px p w (single E s)) := by
  have hpw := hS.lt
  have hgood : s.good = true := by rw [hs]; rfl
  have hheadK : s.headK = t.tk.kind := by rw [hs]; rfl
  have hheadT : s.headT = t.tk.text := by rw [hs]; rfl
  have hheadN : s.headN = t.tk.num := by rw [hs]; rfl
  have hS2 := hS
  rw [hs] at hS2
  obtain ⟨hd, h⟩ := hS2
  obtain ⟨oa, cap, hh, hc, hat, hne⟩ := h.ex
  have r0 := Rg.blk_cells hh 0
  have r2 := Rg.blk_cells hh 2
  simp only [List.getElem?_toArray, List.getElem?_cons_zero, List.getElem?_cons_succ] at r0 r2
  obtain ⟨b, off, hoa, hb, c0, c1, c2, c3⟩ := t_get hat 0 (by simp)
  simp only [List.getElem_cons_zero, Nat.zero_mul, Nat.add_zero] at c0 c1 c2 c3
  subst hoa
  obtain ⟨n, hn⟩ : ∃ n, (t :: tr).length = n := ⟨_, rfl⟩
  have hn1 : 1 ≤ n := by rw [← hn]; simp
  rw [hn] at r0 hc
  have g2 : (0 : Int) < (n : Int) := by omega
  have hA1 := fun o => (Gr.refl w).alloc o
  have hA := fun o1 o2 => (hA1 o1).alloc o2
  have hS0 := fun o1 o2 => hS.keep (hA o1 o2)
  have eR : single E s = nameS s := by
    unfold single; rw [hheadK, hheadT]; simp only [hk1, hn_true, hn_false, hn_null, hw4, hbt, hnb, htl]; rfl
  rw [eR]
  clear eR
  have q1 : ((t.tk.kind : Int) == 2) = false := by rw [hk1]; rfl
  have q2 : ((t.tk.kind : Int) == 3) = false := by rw [hk1]; rfl
  have q3 : ((t.tk.kind : Int) == 1) = true := by rw [hk1]; rfl
  have hb0 := fun w => built_any (txt t.tk.text) w
  rw [txt_list] at hb0
  obtain ⟨m, hm⟩ := h.gl
  have hsz : (txt t.tk.text).size ≤ 140737488355328 := by rw [txt_size]; have := h.tok.text t (by simp); omega
  have hnm := fun w' (h' : w'.cell? ⟨0, 0, none⟩ = some (.int .i64 m)) => name_any (txt t.tk.text) m w' hsz h'
  rw [txt_list] at hnm
  have hr2 : 0 < tr.length := (h.tok.tail (by omega)).pos
  have hlen2 : (t :: tr).length = tr.length + 1 := rfl
  obtain ⟨t2, tr2, htr⟩ : ∃ t2 tr2, tr = t2 :: tr2 := by cases tr with
    | nil => simp at hr2
    | cons t2 tr2 => exact ⟨t2, tr2, rfl⟩
  subst htr
  obtain ⟨b', off', hoa', _, d0, d1, _, _⟩ := t_get hat 1 (by simp)
  cases hoa'
  simp only [List.getElem_cons_succ, List.getElem_cons_zero, Nat.one_mul] at d0 d1
  have w1a := hn_true
  have w1b := hn_false
  have w1c := hn_null
  have h0a : ∀ o2, ((w.alloc (.cells zeroX 26)).alloc o2).heap[w.heap.size]? = some (.cells zeroX 26 (0, 0)) := fun o2 => by
    rw [((Gr.refl _).alloc _).block _ (by simp)]; exact alloc_at _ _
  have HGL : Hid (∀ o1 o2 w', Gr ((w.alloc o1).alloc o2) w' → w'.cell? ⟨0, 0, none⟩ = some (.int .i64 m)) := hid (fun o1 o2 w' hg => ((hA o1 o2).trans hg).keep hm)
  have n2 : (1 : Int) < (n : Int) := by rw [← hn]; simp; omega
  have n3 : 2 ≤ n := by rw [← hn]; simp
  have k2 : ((t2.tk.kind : Int) == 4) = true := by rw [show (4 : Int) = ((4 : Nat) : Int) from rfl, ibeq']; rw [hs] at hk4; exact hk4
  have x2 : ((txt t2.tk.text).toList == [40]) = false := by rw [ByteArray.toList_eq, txt_list]; rw [hs] at ht4; exact ht4
  generalize t2.tk.kind = tk2 at *
  generalize hx2 : txt t2.tk.text = tx2 at *
  clear hx2 hr2 hlen2 hn
  generalize hk0 : t.tk.kind = tk at *
  generalize ht0 : t.tk.text = tx at *
  generalize hm0 : t.tk.num = tn at *
  generalize t.pos = tp at *
  clear h hat hne hh hs hS hk0 ht0 hm0 hk1
  go_enter Tryz.func130, Tryz.ntmps130
  go_wp2_with fail
  refine (word_no p ⟨#[116, 114, 117, 101]⟩ s _ (hS0 _ _) w1a).mono ?_
  rintro e w' ⟨rfl, rfl⟩
  go_wp2_with fail
  refine (word_no p ⟨#[102, 97, 108, 115, 101]⟩ s _ (hS0 _ _) w1b).mono ?_
  rintro e w' ⟨rfl, rfl⟩
  go_wp2_with fail
  refine (word_no p ⟨#[110, 117, 108, 108]⟩ s _ (hS0 _ _) w1c).mono ?_
  rintro e w' ⟨rfl, rfl⟩
  go_wp2_with fail
  refine (is4_any p ⟨#[40]⟩ s _ (hS0 _ _)).mono ?_
  rintro e w' ⟨rfl, rfl⟩
  rw [hw4]
  go_wp2_with fail
  refine (hb0 _).mono ?_
  rintro e wb ⟨rfl, hgb⟩
  rw [hbt]
  have hgl := HGL.out _ _ wb hgb
  have hz0 := hgb.size
  simp only [World.size_alloc] at hz0
  have hKb : ∀ i, wb.cell? ⟨w.heap.size + 1, i, none⟩ = (#[.int .i64 (tk : Int), .string (txt tx), .int .i64 (tn : Int), .int .i64 (tp : Int)] : Array Value)[i]? := fun i => by
    rw [hgb.cells _ _ (by simp)]
    rw [show w.heap.size + 1 = (w.alloc (.cells zeroX 26)).heap.size from (World.size_alloc w (.cells zeroX 26)).symm]
    exact Rg.blk_cells (alloc_at _ _) i
  go_wp2_with fail
  refine (hnm _ hgl).mono ?_
  rintro e wn ⟨rfl, hgn⟩
  rw [hnb]
  have hgbn : Gr _ wn := Gr.trans hgb hgn
  have r0n := ((hA _ _).trans hgbn).keep r0
  have d0n := ((hA _ _).trans hgbn).keep d0
  have d1n := ((hA _ _).trans hgbn).keep d1
  have hgz : Gr _ wn := hgbn
  have hz1 := hgz.size
  simp only [World.size_alloc] at hz1
  go_wp2_with fail
  refine (pname_any p s _ ((hS0 _ _).keep hgz)).mono ?_
  rintro e w5 ⟨rfl, hps5, hg5⟩
  have z5 := hg5.size
  have h05 : w5.heap[w.heap.size]? = some (.cells zeroX 26 (0, 0)) := by
    rw [hg5.get (by omega) (by omega), hgz.block _ (by simp; omega)]; exact h0a _
  have hgo5 : Go1 p w w5 := ((Go1.of (hA _ _)).block2 hgz).trans hg5
  obtain ⟨n1, hn1'⟩ : ∃ n1, s.name.1 = n1 := ⟨_, rfl⟩
  obtain ⟨s5, hs5⟩ : ∃ s5, s.name.2 = s5 := ⟨_, rfl⟩
  obtain ⟨R, hR0⟩ : ∃ R, nameS s = R := ⟨_, rfl⟩
  have HR : Hid (R = (if s5.is 4 ⟨#[46]⟩ then (let m := s5.step.name; (.mk { op := 2, tab := n1, name := m.1 } [], m.2)) else (.mk { op := 2, name := n1 } [], s5))) := hid (by rw [← hR0, ← hs5, ← hn1']; rfl)
  rw [hn1']
  rw [hs5] at hps5
  clear hg5 hS0 hA hA1 h0a hn1' hs5 hgz
  go_wp2_with fail
  refine (sign_any' p ⟨#[46]⟩ s5 _ hps5).mono ?_
  rintro e w6 ⟨rfl, hps6, hg6⟩
  have z6 := hg6.size
  have h06 : w6.heap[w.heap.size]? = some (.cells zeroX 26 (0, 0)) := by
    rw [hg6.get (by omega) (by omega)]; exact h05
  have hgo6 := hgo5.trans hg6
  clear hg6 hps5 hgo5 h05
  cases hB : s5.is 4 ⟨#[46]⟩ with
  | true =>
    rw [show (s5.may 4 ⟨#[46]⟩).2 = s5.step by simp [Ps.may, hB]] at hps6
    go_wp2_with fail
    refine (pname_any p s5.step _ hps6).mono ?_
    rintro e w7 ⟨rfl, hps7, hg7⟩
    have FI : Hid (∀ W5, Go1 w.heap.size w7 W5 → Rx p w (nameS s) (XR.val ⟨{ op := 2, tab := n1, name := s5.step.name.1 }, none, 0, 0⟩) W5) := hid (fun W5 h5 => by
      rw [hR0, HR.out, hB]
      exact giveG (R := (.mk { op := 2, tab := n1, name := s5.step.name.1 } [], s5.step.name.2)) hpw rfl (formZ (S := fun b => w.heap.size ≤ b ∧ b ≠ w.heap.size)) hps7 (hgo6.trans hg7) (fun _ => rfl) h5)
    have H05 : Hid (w7.heap[w.heap.size]? = some (.cells zeroX 26 (0, 0))) := hid (by rw [hg7.get (by omega) (by omega)]; exact h06)
    clear hps6 hps7 hg7 hgo6 h06 HR hR0
    generalize s5.step.name.1 = n2 at *
    go_wp2_with (guard_target =~ wpList _ _ _ (Oper.mk _ (Op.store 26 _ _) _ _ _ _ :: _) _ _; refine st_row (ty := 26) rfl rfl w.heap.size _ rfl rfl 26 _ (H05.out) (by kernel_rfl) rfl (by kernel_rfl) ?_; intro W5 hW5 gW5 zW5)
    (try change bodyPost _ _ _ _ _ _)
    have hT := Rg.blk_cells hW5
    refine bodyPost_ret (v := XR.val ⟨{ op := 2, tab := n1, name := n2 }, none, 0, 0⟩) (by simp [results, Tryz.results130, go_sem, XR.val, nul, hT]; try rfl) rfl ⟨_, rfl, FI.out W5 gW5⟩
  | false =>
    rw [show (s5.may 4 ⟨#[46]⟩).2 = s5 by simp [Ps.may, hB]] at hps6
    have FI : Hid (∀ W5, Go1 w.heap.size w6 W5 → Rx p w (nameS s) (XR.val ⟨{ op := 2, name := n1 }, none, 0, 0⟩) W5) := hid (fun W5 h5 => by
      rw [hR0, HR.out, hB]
      exact giveG (R := (.mk { op := 2, name := n1 } [], s5)) hpw rfl (formZ (S := fun b => w.heap.size ≤ b ∧ b ≠ w.heap.size)) hps6 hgo6 (fun _ => rfl) h5)
    have H05 := hid h06
    clear hps6 hgo6 h06 HR hR0
    go_wp2_with (guard_target =~ wpList _ _ _ (Oper.mk _ (Op.store 26 _ _) _ _ _ _ :: _) _ _; refine st_row (ty := 26) rfl rfl w.heap.size _ rfl rfl 26 _ (H05.out) (by kernel_rfl) rfl (by kernel_rfl) ?_; intro W5 hW5 gW5 zW5)
    (try change bodyPost _ _ _ _ _ _)
    have hT := Rg.blk_cells hW5
    refine bodyPost_ret (v := XR.val ⟨{ op := 2, name := n1 }, none, 0, 0⟩) (by simp [results, Tryz.results130, go_sem, XR.val, nul, hT]; try rfl) rfl ⟨_, rfl, FI.out W5 gW5⟩
theorem tail_is {s : Ps} {k : Nat} {c : ByteArray} (h : s.is k c = false) (hk : (s.headK == k) = true) (hk0 : k ≠ 0) : (s.headT == c.data.toList) = false := by
  match s, h, hk with
  | .ok (t :: r) d, h, hk =>
    simp only [Ps.is] at h
    have hk' : (t.tk.kind == k) = true := hk
    rw [hk'] at h
    show (t.tk.text == c.data.toList) = false
    simpa using h
  | .ok [] d, h, hk => exact absurd (by simpa [Ps.headK] using hk) (Ne.symm hk0)
  | .bad e a, h, hk => exact absurd (by simpa [Ps.headK] using hk) (Ne.symm hk0)
theorem single_any (E : Pa Ex) (hdp : DP E) (p N : Nat) (hor : RdL 21 E p N) (hex : RdsL 122 (sep E) p N) : Rd 130 (single E) p N := fun s w hS hsN => by
  match hs : s, hS with
  | .bad e a, hS => exact single_bad E p e a w hS
  | .ok [] d, hS => exact hS.2.nil.elim
  | .ok (t :: tr) d, hS =>
    rw [← hs] at hS hsN ⊢
    have hgood : s.good = true := by rw [hs]; rfl
    have hhK : s.headK = t.tk.kind := by rw [hs]; rfl
    have hhT : s.headT = t.tk.text := by rw [hs]; rfl
    by_cases hk2 : t.tk.kind = 2
    · exact single_int E p t tr d s hs w hS hk2
    by_cases hk3 : t.tk.kind = 3
    · exact single_text E p t tr d s hs w hS hk3
    cases h1 : s.is 1 ⟨#[116, 114, 117, 101]⟩ with
    | true => exact single_true E p t tr d s hs w hS h1
    | false =>
    cases h2 : s.is 1 ⟨#[102, 97, 108, 115, 101]⟩ with
    | true => exact single_false E p t tr d s hs w hS h2 h1
    | false =>
    cases h3 : s.is 1 ⟨#[110, 117, 108, 108]⟩ with
    | true => exact single_null E p t tr d s hs w hS h3 h1 h2
    | false =>
    cases h4 : s.is 4 ⟨#[40]⟩ with
    | true =>
      cases hD : s.down.good with
      | false => exact single_paren_full E p t tr d s hs w hS h4 hD
      | true =>
        obtain ⟨d1, d2, d3, d4⟩ := down_good hD
        have := (is_step (s := s.down) (k := 4) (c := ⟨#[40]⟩) (by rw [d4]; exact h4) (by decide)).1
        exact single_paren E p t tr d s hs w hS h4 hD hdp (fun w' h' => hor _ w' h' (by omega))
    | false =>
    by_cases hk1 : t.tk.kind = 1
    · have hcall : ∀ w', PS p w' s → Calls Tryz.prog 134 #[.pointer (some ⟨p, 0, none⟩), .string (txt s.headT)] w' (Px p w' (callS E s.headT s)) := fun w' h' => call_any E hdp p N hor hex s.headT s w' h' hgood (by rw [hhK]; exact hk1) hsN
      cases hbt : built t.tk.text with
      | true => exact single_built E p t tr d s hs w hS h1 h2 h3 hk1 h4 hbt hcall
      | false =>
        cases hnb : nameB t.tk.text with
        | false => exact single_noname E p t tr d s hs w hS h1 h2 h3 h4 hk1 hbt hnb
        | true =>
          cases htl : s.tail.is 4 ⟨#[40]⟩ with
          | true => exact single_next E p t tr d s hs w hS h1 h2 h3 hk1 h4 hbt hnb htl hcall
          | false =>
            cases hk4 : s.tail.headK == 4 with
            | false => exact single_nextk E p t tr d s hs w hS h1 h2 h3 h4 hk1 hbt hnb htl hk4
            | true => exact single_nextt E p t tr d s hs w hS h1 h2 h3 h4 hk1 hbt hnb htl hk4 (tail_is htl hk4 (by decide))
    · exact single_nokind E p t tr d s hs w hS h1 h2 h3 h4 hk2 hk3 hk1
end Go.Proofs.YtbeinfhgfflneaaGreat
end
section
namespace Go.Proofs.YtbeinfhgfflneaaGreat
open Go.RowKit
set_option linter.unusedSimpArgs false
set_option linter.unusedVariables false
attribute [local go_sem] Rg.leads_value Rg.leads_skip Rg.leads_enter Rg.brings_value Rg.brings_skip Rg.brings_enter Rg.bringsG_value Rg.bringsG_enter Rg.once_normal Rg.once_exit Rg.once_ret Rg.once_panic Rg.once_goto Rg.bringsS_value Rg.bringsS_skip Rg.bringsS_enter Rg.still_value Rg.still_skip Rg.still_enter
set_option maxHeartbeats 8000000 in
set_option maxRecDepth 100000 in
theorem compare_any (q E : Pa Ex) (p N : Nat) (hN : N ≤ 1000000) (hq : Rd 102 q p N) (hn : NI q) (hE : NI E) (hl : Rds 105 (listS E) p N) (hdp : DP q) : Rd 87 (compares q E) p N := by
  intro s w hS hsN
  have hpw := hS.lt
  have hS0 := fun o => hS.keep ((Gr.refl w).alloc o)
  obtain ⟨R, hR0⟩ : ∃ R, compares q E s = R := ⟨_, rfl⟩
  rw [hR0]
  go_enter Tryz.func87, Tryz.ntmps87
  go_wp2_with fail
  refine (hq s _ (hS0 _) hsN).mono ?_
  rintro e w1 ⟨u, rfl, r, x, rfl, hx, hps, hgo, hgd⟩
  have hcb := hid (CB.start (s := s) (q := q) hpw hx hgo)
  have hz1 := hgo.size
  simp only [World.size_alloc] at hz1
  have hps1 := hid (hps.keep ((Gr.refl w1).alloc (.cells r.cells 26)))
  obtain ⟨a, ha⟩ : ∃ a, (q s).1 = a := ⟨_, rfl⟩
  obtain ⟨s1, hs1⟩ : ∃ s1, (q s).2 = s1 := ⟨_, rfl⟩
  have hs1N : s1.size ≤ N := by rw [← hs1]; exact Nat.le_trans (hn s) hsN
  have HR : compares q E s = compareT q E a s1 := by show compareT q E (q s).1 (q s).2 = _; rw [ha, hs1]
  rw [HR] at hR0
  clear HR
  have HR := hid hR0
  clear hR0
  rw [ha, hs1] at hgd
  rw [hs1] at hps1
  clear hx hps hgo hS0 ha hs1
  have HRG : ∀ (Q : Ex × Ps) W0 u W, Rx p W0 Q u W → Go1 p W0 W := fun _ _ _ _ h => h.go
  unfold XR.val
  go_wp2_with fail
  generalize Value.agg #[Value.int _ r.h.op, _, _, _, _, _, _, _, _, _, _, _] = uu
  have hE0 : w.heap.size < w1.heap.size := by omega
  have hnR : w.heap.size < w1.heap.size := by omega
  generalize w1.heap.size = E0 at *
  go_loopw [12] (fun s12 wr => ∃ k : Nat, s12 = .int .i64 (k : Int) ∧ k ≤ 6 ∧ (∀ j, j < k → s1.is 4 (cmpC j) = false) ∧ PS p wr s1 ∧ CB p w w.heap.size E0 r x wr) (fun s12 _ => 6 - (intOf s12).toNat)
  · exact ⟨0, rfl, by omega, fun j hj => by omega, hps1.out, hcb.out⟩
  · clear hcb hps1
    obtain ⟨k, rfl, hk6, hno, hps, hcb⟩ := hrel
    by_cases hk : k < 6
    · have t6 : decide ((k : Int) < 6) = true := by rw [decide_eq_true_iff]; omega
      have hix := fun W => cmp_index (W := W) k hk
      have hwr : wrap64 ((k : Int) + 1) = (k : Int) + 1 := by unfold wrap64; omega
      have hw9 : IntKind.i64.wrap (9 + (k : Int)) = 9 + (k : Int) := by rw [IntWalk.i64_left]; unfold wrap64; omega
      have HC := hid hcb
      have HF := hid (fun h => cmp_find (s := s1) hk h hno)
      have HNO := hid hno
      clear hcb hno
      obtain ⟨c, hc⟩ : ∃ c, cmpC k = c := ⟨_, rfl⟩
      rw [hc] at HF hix
      go_wp2_with fail
      refine (sign_any' p c s1 wr hps).mono ?_
      rintro e w2 ⟨rfl, hps2, hg2⟩
      cases hB : s1.is 4 c with
      | true =>
        have e2 : (s1.may 4 c).2 = s1.step := by simp [Ps.may, hB]
        rw [e2] at hps2
        obtain ⟨hs1a, hs2, hs3⟩ := is_step hB (by decide)
        have eR : Hid (R = (tre (9 + (k : Int)) [a, (q s1.step).1], (q s1.step).2)) := hid (by rw [← HR.out]; unfold compareT; rw [HF.out hB])
        have hcb2 := HC.out.go hg2
        have hlE := hcb2.lt
        have cE := Rg.blk_cells hcb2.e
        have HC2 := hid hcb2
        have HQ := hid (fun W0 (h : Gr w2 W0) => hq s1.step W0 (hps2.keep h) (by omega))
        have hpE : E0 ≠ p := by omega
        clear hcb2 hps2 hps HC HF HNO hg2 e2 hix
        go_wp2_with fail
        refine Rg.region_chain 6 [4, 5] [] (Late2 4 2 26 w2 (fun W0 u W => Rx p W0 (q s1.step) u W) (CsX r.cells)) [some (.int .i64 (k : Int)), some (.int .i64 (9 + (k : Int))), some (.agg #[.int .i64 r.h.op, .int .i64 r.h.v.t, .int .i64 r.h.v.n, .string r.h.v.s, .bool r.h.v.b, .string r.h.tab, .string r.h.name, .int .i64 r.h.t, .int .i64 r.h.c, .bool r.h.nt, .bool r.h.st, .slice r.oa r.n r.cap]), some (.pointer (some ⟨p, 0, none⟩)), none, none]
          (fun v => Late2.s0 ((Gr.refl _).drew)) (by kernel_rfl) (by kernel_rfl) (by kernel_rfl) (by kernel_rfl) (fun _ _ d _ _ h => by cases d <;> exact h) ?_
        intro OPS _ v
        simp only [List.take_succ_cons, List.take_zero, Rg.wpC, Rg.wpS, Option.getD_some, Option.getD_none, Act.put, List.setIfInBounds_toArray, List.set_cons_zero, List.set_cons_succ, show List.contains [4, 5] 0 = false from rfl, show List.contains [4, 5] 1 = false from rfl, show List.contains [4, 5] 2 = false from rfl, show List.contains [4, 5] 3 = false from rfl, show List.contains [4, 5] 4 = true from rfl, show List.contains [4, 5] 5 = true from rfl, Bool.false_eq_true, if_false, if_true, Nat.reduceAdd]
        refine ⟨?_, ?_, ?_, ?_, ?_, ?_, ?_⟩
        · refine sc_still (by rfl) (by rfl) (fun s' W _ hS => ?_)
          have hg := Late2.any (fun _ _ _ h => HRG _ _ _ _ h) hS
          have cW : ∀ i, W.cell? ⟨E0, i, none⟩ = (#[.int .i64 r.h.op, .int .i64 r.h.v.t, .int .i64 r.h.v.n, .string r.h.v.s, .bool r.h.v.b, .string r.h.tab, .string r.h.name, .int .i64 r.h.t, .int .i64 r.h.c, .bool r.h.nt, .bool r.h.st, .slice r.oa r.n r.cap] : Array Value)[i]? := fun i => by rw [hg.cell hlE hpE]; exact cE i
          go_simp
        · refine sc_still (by rfl) (by rfl) (fun s' W _ hS => ?_)
          have hg := Late2.any (fun _ _ _ h => HRG _ _ _ _ h) hS
          have cW : ∀ i, W.cell? ⟨E0, i, none⟩ = (#[.int .i64 r.h.op, .int .i64 r.h.v.t, .int .i64 r.h.v.n, .string r.h.v.s, .bool r.h.v.b, .string r.h.tab, .string r.h.name, .int .i64 r.h.t, .int .i64 r.h.c, .bool r.h.nt, .bool r.h.st, .slice r.oa r.n r.cap] : Array Value)[i]? := fun i => by rw [hg.cell hlE hpE]; exact cE i
          go_simp
        · refine sc_still (by rfl) (by rfl) (fun s' W _ hS => ?_)
          have hg := Late2.any (fun _ _ _ h => HRG _ _ _ _ h) hS
          have cW : ∀ i, W.cell? ⟨E0, i, none⟩ = (#[.int .i64 r.h.op, .int .i64 r.h.v.t, .int .i64 r.h.v.n, .string r.h.v.s, .bool r.h.v.b, .string r.h.tab, .string r.h.name, .int .i64 r.h.t, .int .i64 r.h.c, .bool r.h.nt, .bool r.h.st, .slice r.oa r.n r.cap] : Array Value)[i]? := fun i => by rw [hg.cell hlE hpE]; exact cE i
          go_simp
        · refine sc_still (by rfl) (by rfl) (fun s' W _ hS => ?_)
          have hg := Late2.any (fun _ _ _ h => HRG _ _ _ _ h) hS
          have cW : ∀ i, W.cell? ⟨E0, i, none⟩ = (#[.int .i64 r.h.op, .int .i64 r.h.v.t, .int .i64 r.h.v.n, .string r.h.v.s, .bool r.h.v.b, .string r.h.tab, .string r.h.name, .int .i64 r.h.t, .int .i64 r.h.c, .bool r.h.nt, .bool r.h.st, .slice r.oa r.n r.cap] : Array Value)[i]? := fun i => by rw [hg.cell hlE hpE]; exact cE i
          go_simp
        · refine sc_new (by rfl) (by rfl) (fun W hS => ?_)
          have hg := Late2.g0 hS
          go_simp
          refine (HQ.out W hg).mono ?_
          rintro e w' ⟨u, rfl, hu⟩
          exact ⟨u, rfl, Late2.s1 ⟨W, hg, by rw [upd_same]; exact hu⟩⟩
        · refine sc_new (by rfl) (by rfl) (fun W hS => ?_)
          obtain ⟨W0, hg0, hRx⟩ := Late2.g1 hS
          have hRx2 := hRx
          obtain ⟨ry, y, hv, _⟩ := hRx2
          have hK := hid (Late2.s2 (RX := fun W0 u W => Rx p W0 (q s1.step) u W) (m := 2) (T := 26) (CS := CsX r.cells) (v := v) (cs := #[.int .i64 r.h.op, .int .i64 r.h.v.t, .int .i64 r.h.v.n, .string r.h.v.s, .bool r.h.v.b, .string r.h.tab, .string r.h.name, .int .i64 r.h.t, .int .i64 r.h.c, .bool r.h.nt, .bool r.h.st, .slice r.oa r.n r.cap, .int .i64 ry.h.op, .int .i64 ry.h.v.t, .int .i64 ry.h.v.n, .string ry.h.v.s, .bool ry.h.v.b, .string ry.h.tab, .string ry.h.name, .int .i64 ry.h.t, .int .i64 ry.h.c, .bool ry.h.nt, .bool ry.h.st, .slice ry.oa ry.n ry.cap]) hg0 hRx ⟨ry, hv, by simp [XR.cells]⟩)
          unfold XR.val at hv
          rw [hv]
          clear hRx hS hg0 hv
          go_simp
          exact hK.out
        · intro W9 hS
          obtain ⟨W0, W, cs, hg0, hRx, ⟨ry2, hv4, hcs0⟩, rfl, hv5⟩ := Late2.g2 hS
          have hgW := (Go1.of hg0).trans (HRG _ _ _ _ hRx)
          generalize v 4 = vv at *
          generalize v 5 = vw at *
          subst hv5
          obtain ⟨ry, y, hry, hy, hpy, hgy, hyg⟩ := hRx
          have hrr : ry = ry2 := xr_inj (hry.symm.trans hv4)
          subst hrr
          have hcs := hid hcs0
          clear hv4 hcs0
          subst hry
          simp only [List.drop_succ_cons, List.drop_zero]
          have hc3 := HC2.out.go hgW
          have hz0 := hg0.size
          have hlE3 := hc3.lt
          have hzw := HC2.out.g.size
          have hzy := hgy.size
          have FI : Hid (∀ cs W4, Gr (W.alloc (.cells cs 26)) W4 → cs = r.cells ++ ry.cells → PS p W4 (q s1.step).2 ∧ W4.heap[w.heap.size]? = some (.cells zeroX 26 (0, 0)) ∧ (∀ b0 b1 b2 b3 b4 b5 b6 b7 b8 b9 b10 b11 : Value, Rx p w R (XR.val ⟨{ op := 9 + (k : Int) }, some ⟨W.heap.size, 0, none⟩, 2, 2⟩) _)) := hid (fun cs W4 h4 hcs => by
            have hgr := ((Gr.refl W).alloc (.cells cs 26)).trans h4
            have hc4 := hc3.gr hgr
            have hrow : W4.heap[W.heap.size]? = some (.cells cs 26) := by rw [h4.block _ (by simp)]; exact alloc_at _ _
            have hp4 := hpy.keep hgr
            rw [eR.out]
            refine ⟨hp4, hc4.z, CB.give hc4 (x' := tre (9 + (k : Int)) [x, y]) (formN (rs := [r, ry]) ⟨by omega, by omega⟩ hrow (by rw [hcs]; simp [cellsF, xF]) (Exs.At.cons hc4.at (Exs.At.cons ?_ Exs.At.nil)) (fit_le _ (by simp))) hp4 (fun h => by rw [hgd hs3, hyg h])⟩
            exact (hy.of hgr.size (fun b hb hl => hgr.block b hl)).mono (fun b _ hb => by have : W0.heap.size ≤ b := hb; exact ⟨by omega, by omega⟩))
          clear hy hpy hgy hyg HC2 HQ hgW hS hg0 hc3
          unfold XR.val
          go_wp2_with fail
          refine (tree_any _ _ _ _ _).mono ?_
          rintro e W4 ⟨rfl, h4⟩
          obtain ⟨hpf, h04, hfi⟩ := FI.out _ W4 h4 hcs.out
          have c4 := Rg.blk_cells h04
          have f4 := Rg.blk_free h04
          have FI2 := hid hfi
          clear FI h4 hfi hpf
          unfold XR.val
          go_wp2
          (try change bodyPost _ _ _ _ _ _)
          generalize hW5 : World.setCell _ _ _ = W5
          have hT := cells12 h04 hW5
          have hF := Rx.at12 FI2.out hW5
          clear hW5 h04 FI2
          refine bodyPost_ret (v := XR.val ⟨{ op := 9 + (k : Int) }, some ⟨W.heap.size, 0, none⟩, 2, 2⟩) (by simp [results, Tryz.results87, go_sem, XR.val, nul, hT]; try rfl) rfl ⟨_, rfl, hF⟩
      | false =>
        have e2 : (s1.may 4 c).2 = s1 := by simp [Ps.may, hB]
        rw [e2] at hps2
        have hR : Hid (∀ j, j < k + 1 → s1.is 4 (cmpC j) = false) := hid (fun j hj => by
          by_cases h : j = k
          · subst h; rw [hc]; exact hB
          · exact HNO.out j (by omega))
        have HC2 := hid (HC.out.go hg2)
        have HP2 := hid hps2
        clear hps2 hg2 HC HF HNO hps e2 hB
        go_wp2
        exact ⟨⟨k + 1, by go_num, by omega, hR.out, HP2.out, HC2.out⟩, by simp [intOf]; omega⟩
    · have t6 : decide ((k : Int) < 6) = false := by rw [decide_eq_false_iff_not]; omega
      have hnone := hid (cmp_none (s := s1) (fun j hj => hno j (by omega)))
      clear hno hk hk6
      have HC := hid hcb
      clear hcb
      go_wp2_with fail
      refine (word_any p ⟨#[105, 115]⟩ s1 wr hps).mono ?_
      rintro e w2 ⟨rfl, hps2, hg2⟩
      have HC2 := hid (HC.out.go hg2)
      clear HC hg2
      cases hI : s1.is 1 ⟨#[105, 115]⟩ with
      | true =>
        have e2 : (s1.may 1 ⟨#[105, 115]⟩).2 = s1.step := by simp [Ps.may, hI]
        rw [e2] at hps2
        obtain ⟨hs1a, hs2, hs3⟩ := is_step hI (by decide)
        have eR : R = (.mk { op := 15, nt := s1.step.is 1 ⟨#[110, 111, 116]⟩ } [a], (s1.step.may 1 ⟨#[110, 111, 116]⟩).2.need 1 ⟨#[110, 117, 108, 108]⟩) := by rw [← HR.out]; unfold compareT; rw [hnone.out, hI]; simp only [if_true, Ps.word]; rw [show (s1.step.may 1 ⟨#[110, 111, 116]⟩).1 = s1.step.is 1 ⟨#[110, 111, 116]⟩ by unfold Ps.may; split <;> simp_all]
        clear e2 hnone
        go_wp2_with fail
        refine (word_any p ⟨#[110, 111, 116]⟩ _ _ hps2).mono ?_
        rintro e w3 ⟨rfl, hps3, hg3⟩
        obtain ⟨n, hn3⟩ : ∃ n, s1.step.is 1 ⟨#[110, 111, 116]⟩ = n := ⟨_, rfl⟩
        obtain ⟨s3, hs3'⟩ : ∃ s3, (s1.step.may 1 ⟨#[110, 111, 116]⟩).2 = s3 := ⟨_, rfl⟩
        rw [hs3'] at hps3
        rw [hn3]
        rw [hn3, hs3'] at eR
        have HER := hid eR
        have HC3 := hid (HC2.out.go hg3)
        clear HC2 hg3 hps2 hn3 hs3' eR
        go_wp2_with fail
        have hps4 := fun o => hps3.keep ((Gr.refl w3).alloc o)
        refine (words_one p w3.heap.size ⟨#[110, 117, 108, 108]⟩ s3 _ (hps4 _) (by rw [Rg.blk_cells (alloc_at _ _)]; rfl)).mono ?_
        rintro e w4 ⟨rfl, hps5, hg4⟩
        have hc4 := (HC3.out.gr ((Gr.refl w3).alloc _)).go hg4
        have HC4 := hid hc4
        have cE := Rg.blk_cells hc4.e
        have hlE := hc4.lt
        have hz4 := hc4.g.size
        simp only [XR.cells] at cE
        clear HC3 hg4 hps4 hps3 hc4
        have h04 := HC4.out.z
        have c0 := Rg.blk_cells h04
        have f0 := Rg.blk_free h04
        simp only [zeroX] at c0
        have hR0l : w.heap.size < w4.heap.size := (Array.getElem?_eq_some_iff.1 h04).1
        have FI : Hid (∀ W5, Go1 w.heap.size (w4.alloc (.cells r.cells 26)) W5 → Rx p w R (XR.val ⟨{ op := 15, nt := n }, some ⟨w4.heap.size, 0, none⟩, 1, 1⟩) W5) := hid (fun W5 h5 => by
          have hgr := (Gr.refl w4).alloc (.cells r.cells 26)
          have hc5 := HC4.out.gr hgr
          rw [HER.out]
          exact CB.giveG hc5 (x' := .mk { op := 15, nt := n } [x]) (formN (rs := [r]) ⟨by omega, by omega⟩ (alloc_at _ _) (by simp [cellsF, xF]) (Exs.At.cons hc5.at Exs.At.nil) (fit_le _ (by simp))) (hps5.keep hgr) (fun h => by rw [hgd hs3]) h5)
        have h05 : ∀ o, (w4.alloc o).heap[w.heap.size]? = some (.cells zeroX 26 (0, 0)) := fun o => (((Gr.refl w4).alloc o).block _ hR0l).trans h04
        have H05 := hid h05
        clear HC4 hps5 h04 h05 c0 f0
        go_wp2_with (guard_target =~ wpList _ _ _ (Oper.mk _ (Op.store 26 _ _) _ _ _ _ :: _) _ _; refine st_row (ty := 26) rfl rfl w.heap.size _ rfl rfl 26 _ (H05.out _) (by kernel_rfl) rfl (by kernel_rfl) ?_; intro W5 hW5 gW5 zW5)
        (try change bodyPost _ _ _ _ _ _)
        have hT := Rg.blk_cells hW5
        refine bodyPost_ret (v := XR.val ⟨{ op := 15, nt := n }, some ⟨w4.heap.size, 0, none⟩, 1, 1⟩) (by simp [results, Tryz.results87, go_sem, XR.val, nul, hT]; try rfl) rfl ⟨_, rfl, FI.out W5 gW5⟩
      | false =>
        have e2 : (s1.may 1 ⟨#[105, 115]⟩).2 = s1 := by simp [Ps.may, hI]
        rw [e2] at hps2
        clear e2
        go_wp2_with fail
        refine (word_any p ⟨#[110, 111, 116]⟩ _ _ hps2).mono ?_
        rintro e w3 ⟨rfl, hps3, hg3⟩
        have HC3 := hid (HC2.out.go hg3)
        clear HC2 hg3 hps2
        obtain ⟨n, hn3⟩ : ∃ n, s1.is 1 ⟨#[110, 111, 116]⟩ = n := ⟨_, rfl⟩
        obtain ⟨s3, hs3'⟩ : ∃ s3, (s1.may 1 ⟨#[110, 111, 116]⟩).2 = s3 := ⟨_, rfl⟩
        have hsz3 : s3.size ≤ N := by rw [← hs3']; exact Nat.le_trans (size_may _ _ _) hs1N
        have hg31 : s3.good = true → s1.good = true := by
          intro h
          rw [← hs3'] at h
          unfold Ps.may at h
          split at h
          · rename_i h0; exact (is_step h0 (by decide)).2.2
          · exact h
        have hnw : s1.word ⟨#[110, 111, 116]⟩ = (n, s3) := by
          rw [← hn3, ← hs3']
          show s1.may 1 ⟨#[110, 111, 116]⟩ = _
          unfold Ps.may
          split <;> simp_all
        have hgd3 : Hid (s3.good = true → x = a) := hid (fun h => hgd (hg31 h))
        have HT : Hid (R = (if s3.is 1 ⟨#[105, 110]⟩ then (let l := listS E s3.step; (.mk { op := 16, nt := n } (a :: l.1), l.2)) else if s3.is 1 ⟨#[98, 101, 116, 119, 101, 101, 110]⟩ then betweens q n a s3.step else if n then (a, s3.fail 180) else (a, s3))) := hid (by
          rw [← HR.out]; unfold compareT; rw [hnone.out, hI]; simp only [Bool.false_eq_true, if_false]; rw [hnw])
        rw [hs3'] at hps3
        rw [hn3]
        clear hn3 hs3' hnw hg31 hgd hnone HR hI
        go_wp2_with fail
        refine (word_any p ⟨#[105, 110]⟩ _ _ hps3).mono ?_
        rintro e w4 ⟨rfl, hps4, hg4⟩
        have HC4 := hid (HC3.out.go hg4)
        clear HC3 hg4 hps3
        cases hIn : s3.is 1 ⟨#[105, 110]⟩ with
        | true =>
          have e2 : (s3.may 1 ⟨#[105, 110]⟩).2 = s3.step := by simp [Ps.may, hIn]
          rw [e2] at hps4
          obtain ⟨hsa, hsb, hsc⟩ := is_step hIn (by decide)
          have HER : Hid (R = (.mk { op := 16, nt := n } (a :: (listS E s3.step).1), (listS E s3.step).2)) := hid (by rw [HT.out, hIn]; rfl)
          have HPS := hid hps4
          have HQ := hid (fun W0 (h : PS p W0 s3.step) => hl s3.step W0 h (by omega))
          have hlE := HC4.out.lt
          have cE := Rg.blk_cells HC4.out.e
          simp only [XR.cells] at cE
          have hpE : E0 ≠ p := by omega
          have HX := hid HC4.out.at
          have hp4 : p < w4.heap.size := hps4.lt
          have hz4 := HC4.out.g.size
          obtain ⟨Q, hQ⟩ : ∃ Q, listS E s3.step = Q := ⟨_, rfl⟩
          rw [hQ] at HQ HER
          clear HT e2 hps4 hIn hQ
          go_wp2_with fail
          refine Rg.region_set 6 [2, 4, 5] [(2, 5), (4, 5)] [] (LsS p w4 (fun b => w.heap.size ≤ b ∧ b ≠ w.heap.size) r x Q s3.step 2 4 5) [some (.bool n), some (.agg #[.int .i64 r.h.op, .int .i64 r.h.v.t, .int .i64 r.h.v.n, .string r.h.v.s, .bool r.h.v.b, .string r.h.tab, .string r.h.name, .int .i64 r.h.t, .int .i64 r.h.c, .bool r.h.nt, .bool r.h.st, .slice r.oa r.n r.cap]), none, some (.pointer (some ⟨p, 0, none⟩)), none, none]
            (fun v => LsS.start HPS.out ((Gr.refl _).drew) v) (by kernel_rfl) (by kernel_rfl) (by kernel_rfl) (by kernel_rfl) (fun _ _ d _ _ h => by cases d <;> exact h) ?_
          intro OPS _ v
          simp only [List.take_succ_cons, List.take_zero, Rg.wpC, Rg.wpS, Option.getD_some, Option.getD_none, Act.put, List.setIfInBounds_toArray, List.set_cons_zero, List.set_cons_succ, show List.contains [2, 4, 5] 0 = false from rfl, show List.contains [2, 4, 5] 1 = false from rfl, show List.contains [2, 4, 5] 2 = true from rfl, show List.contains [2, 4, 5] 3 = false from rfl, show List.contains [2, 4, 5] 4 = true from rfl, show List.contains [2, 4, 5] 5 = true from rfl, Bool.false_eq_true, if_false, if_true, Nat.reduceAdd]
          refine ⟨?_, ?_, ?_, ?_, ?_, ?_, ?_⟩
          · refine ss_still (by rfl) (by rfl) (fun D W _ hS => ?_)
            go_simp
          · refine ss_still (by rfl) (by rfl) (fun D W _ hS => ?_)
            have hg := hS.go
            have cW : ∀ i, W.cell? ⟨E0, i, none⟩ = (#[.int .i64 r.h.op, .int .i64 r.h.v.t, .int .i64 r.h.v.n, .string r.h.v.s, .bool r.h.v.b, .string r.h.tab, .string r.h.name, .int .i64 r.h.t, .int .i64 r.h.c, .bool r.h.nt, .bool r.h.st, .slice r.oa r.n r.cap] : Array Value)[i]? := fun i => by rw [hg.cell hlE hpE]; exact cE i
            go_simp
          · refine ss_new (by rfl) (by rfl) (fun D W hD _ hS => ?_)
            have h5 := hS.n2 hD
            have hK := hid (hS.row (by decide) (by decide) h5 hD)
            clear hS
            go_simp
            exact hK.out
          · refine ss_still (by rfl) (by rfl) (fun D W _ hS => ?_)
            go_simp
          · refine ss_new (by rfl) (by rfl) (fun D W hD _ hS => ?_)
            have h5 := hS.n4 hD
            have hP := hS.ready h5 hD
            go_simp
            refine (HQ.out W hP).mono ?_
            rintro e w' ⟨u, rfl, hu⟩
            exact ⟨u, rfl, hS.call (w := w4) hp4 (by decide) (by decide) h5 hu⟩
          · refine ss_new (by rfl) (by rfl) (fun D W hD hP hS => ?_)
            obtain ⟨v1, v2, v', W', e1, e2, hrun, hS'⟩ := hS.append hp4 (by decide) (by decide) hD (hP 4 (by simp)) (hP 2 (by simp)) HX.out (fun b hb => by omega) 24
            exact brings_append (.tmp 45) (.tmp 47) 24 rfl e1 e2 hrun hS'
          · intro W hS
            have hgW := hS.go
            obtain ⟨oa, m, cap, xs, hv5, hxs, hpsW, hgdW⟩ := hS.fin (by rfl)
            generalize v 5 = vv at *
            subst hv5
            simp only [List.drop_succ_cons, List.drop_zero]
            have hc5 := HC4.out.go hgW
            have FI : Hid (∀ W5, Go1 w.heap.size W W5 → Rx p w R (XR.val ⟨{ op := 16, nt := n }, oa, m, cap⟩) W5) := hid (fun W5 h5 => by
              rw [HER.out]
              refine CB.giveG hc5 (x' := .mk { op := 16, nt := n } (x :: xs)) (Ex.At.list.2 ⟨rfl, hxs.mono (fun b _ hb => by omega)⟩) hpsW (fun h => ?_) h5
              have h1 : (x :: xs) = a :: Q.1 := by rw [hgdW h, hgd3.out hsc]
              rw [h1])
            have H05 := hid hc5.z
            clear hxs hpsW hgdW hc5 hgW hS HX HQ HER HC4
            go_wp2_with (guard_target =~ wpList _ _ _ (Oper.mk _ (Op.store 26 _ _) _ _ _ _ :: _) _ _; refine st_row (ty := 26) rfl rfl w.heap.size _ rfl rfl 26 _ (H05.out) (by kernel_rfl) rfl (by kernel_rfl) ?_; intro W5 hW5 gW5 zW5)
            (try change bodyPost _ _ _ _ _ _)
            have hT := Rg.blk_cells hW5
            refine bodyPost_ret (v := XR.val ⟨{ op := 16, nt := n }, oa, m, cap⟩) (by simp [results, Tryz.results87, go_sem, XR.val, nul, hT]; try rfl) rfl ⟨_, rfl, FI.out W5 gW5⟩
        | false =>
          have e2 : (s3.may 1 ⟨#[105, 110]⟩).2 = s3 := by simp [Ps.may, hIn]
          rw [e2] at hps4
          clear e2
          have HT2 : Hid (R = (if s3.is 1 ⟨#[98, 101, 116, 119, 101, 101, 110]⟩ then betweens q n a s3.step else if n then (a, s3.fail 180) else (a, s3))) := hid (by rw [HT.out, hIn]; rfl)
          clear HT hIn
          go_wp2_with fail
          refine (word_any p ⟨#[98, 101, 116, 119, 101, 101, 110]⟩ _ _ hps4).mono ?_
          rintro e w5 ⟨rfl, hps5, hg5⟩
          have HC5 := hid (HC4.out.go hg5)
          clear HC4 hg5 hps4
          cases hBt : s3.is 1 ⟨#[98, 101, 116, 119, 101, 101, 110]⟩ with
          | true =>
            have e2 : (s3.may 1 ⟨#[98, 101, 116, 119, 101, 101, 110]⟩).2 = s3.step := by simp [Ps.may, hBt]
            rw [e2] at hps5
            obtain ⟨hsa, hsb, hsc⟩ := is_step hBt (by decide)
            have HER : Hid (R = (.mk { op := 17, nt := n } [a, (q s3.step).1, (q ((q s3.step).2.need 1 ⟨#[97, 110, 100]⟩)).1], (q ((q s3.step).2.need 1 ⟨#[97, 110, 100]⟩)).2)) := hid (by rw [HT2.out, hBt]; rfl)
            have hnb := hn s3.step
            clear HT2 e2 hBt
            go_wp2_with fail
            refine (hq s3.step _ hps5 (by omega)).mono ?_
            rintro e w6 ⟨u, rfl, rb, xb, rfl, hxb, hps6, hg6, hgdb⟩
            have hz5 := HC5.out.g.size
            have hz6 := hg6.size
            have hAb := (Gr.refl w6).alloc (.cells rb.cells 26)
            have HC6 := hid ((HC5.out.go hg6).gr hAb)
            have hlE6 := (HC5.out.go hg6).lt
            have HB6 : Hid (Ex.At (fun b => w.heap.size ≤ b ∧ b ≠ w.heap.size ∧ b ≠ w6.heap.size) (w6.alloc (.cells rb.cells 26)) xb rb) := hid (by
              have h0 := HC5.out.lt
              refine (hxb.mono (fun b hl hs => ?_)).of hAb.size (fun b _ hl => hAb.block b hl)
              have : w5.heap.size ≤ b := hs
              exact ⟨by omega, by omega, by omega⟩)
            have hps7 := hid (hps6.keep hAb)
            have hpw6 : p < w6.heap.size := hps6.lt
            clear HC5 hg6 hxb hps5 hAb hps6
            unfold XR.val
            have hs7 : ((q s3.step).2.need 1 ⟨#[97, 110, 100]⟩).size ≤ N := Nat.le_trans (size_need _ _ _) (by omega)
            obtain ⟨s6, hs6⟩ : ∃ s6, (q s3.step).2 = s6 := ⟨_, rfl⟩
            rw [hs6] at hps7 hgdb HER hs7
            go_wp2_with fail
            have hps8 := fun o => hps7.out.keep ((Gr.refl _).alloc o)
            refine (words_one p (w6.heap.size + 1) ⟨#[97, 110, 100]⟩ s6 _ (hps8 _) (by rw [Rg.blk_cells (show _ = some (Obj.cells #[.string ⟨#[97, 110, 100]⟩] 9 (0, 0)) from (alloc_at' _ _ _ (by simp)))]; rfl)).mono ?_
            rintro e w8 ⟨rfl, hps9, hg8⟩
            have HC8 := hid ((HC6.out.gr ((Gr.refl _).alloc _)).go hg8)
            have HB8 : Hid (Ex.At (fun b => w.heap.size ≤ b ∧ b ≠ w.heap.size) w8 xb rb) := hid (by
              refine ((HB6.out.of ((Gr.refl _).alloc _).size (fun b _ hl => ((Gr.refl _).alloc _).block b hl)).of hg8.size (fun b hb hl => hg8.get hl (by have := hb.1; omega))).mono (fun b _ hb => ⟨hb.1, hb.2.1⟩))
            have hb8 : w8.heap[w6.heap.size]? = some (.cells rb.cells 26 (0, 0)) := by
              rw [hg8.get (by simp; omega) (by omega), ((Gr.refl _).alloc _).block _ (by simp)]
              exact alloc_at _ _
            have hlE := HC8.out.lt
            have hlB : w6.heap.size < w8.heap.size := (Array.getElem?_eq_some_iff.1 hb8).1
            have cE := Rg.blk_cells HC8.out.e
            have cB := Rg.blk_cells hb8
            simp only [XR.cells] at cE cB
            have hpE : E0 ≠ p := by omega
            have hpB : w6.heap.size ≠ p := by omega
            have HQ := hid (fun W0 (h : Gr w8 W0) => hq (s6.need 1 ⟨#[97, 110, 100]⟩) W0 (hps9.keep h) hs7)
            have hz8 := HC8.out.g.size
            have hgd9 : Hid ((q (s6.need 1 ⟨#[97, 110, 100]⟩)).2.good = true → s6.good = true) := hid (fun h => need_good (as_good (hdp _) h))
            clear hps8 hps7 HC6 HB6 hg8 hps9 hb8
            generalize w6.heap.size = B0 at *
            go_wp2_with fail
            refine Rg.region_chain 6 [4, 5] [] (Late2 4 3 26 w8 (fun W0 u W => Rx p W0 (q (s6.need 1 ⟨#[97, 110, 100]⟩)) u W) (CsX (r.cells ++ rb.cells))) [some (.bool n), some (.agg #[.int .i64 r.h.op, .int .i64 r.h.v.t, .int .i64 r.h.v.n, .string r.h.v.s, .bool r.h.v.b, .string r.h.tab, .string r.h.name, .int .i64 r.h.t, .int .i64 r.h.c, .bool r.h.nt, .bool r.h.st, .slice r.oa r.n r.cap]), some (.agg #[.int .i64 rb.h.op, .int .i64 rb.h.v.t, .int .i64 rb.h.v.n, .string rb.h.v.s, .bool rb.h.v.b, .string rb.h.tab, .string rb.h.name, .int .i64 rb.h.t, .int .i64 rb.h.c, .bool rb.h.nt, .bool rb.h.st, .slice rb.oa rb.n rb.cap]), some (.pointer (some ⟨p, 0, none⟩)), none, none]
              (fun v => Late2.s0 ((Gr.refl _).drew)) (by kernel_rfl) (by kernel_rfl) (by kernel_rfl) (by kernel_rfl) (fun _ _ d _ _ h => by cases d <;> exact h) ?_
            intro OPS _ v
            simp only [List.take_succ_cons, List.take_zero, Rg.wpC, Rg.wpS, Option.getD_some, Option.getD_none, Act.put, List.setIfInBounds_toArray, List.set_cons_zero, List.set_cons_succ, show List.contains [4, 5] 0 = false from rfl, show List.contains [4, 5] 1 = false from rfl, show List.contains [4, 5] 2 = false from rfl, show List.contains [4, 5] 3 = false from rfl, show List.contains [4, 5] 4 = true from rfl, show List.contains [4, 5] 5 = true from rfl, Bool.false_eq_true, if_false, if_true, Nat.reduceAdd]
            refine ⟨?_, ?_, ?_, ?_, ?_, ?_, ?_⟩
            · refine sc_still (by rfl) (by rfl) (fun s' W _ hS => ?_)
              have hg := Late2.any (fun _ _ _ h => HRG _ _ _ _ h) hS
              have cW : ∀ i, W.cell? ⟨E0, i, none⟩ = (#[.int .i64 r.h.op, .int .i64 r.h.v.t, .int .i64 r.h.v.n, .string r.h.v.s, .bool r.h.v.b, .string r.h.tab, .string r.h.name, .int .i64 r.h.t, .int .i64 r.h.c, .bool r.h.nt, .bool r.h.st, .slice r.oa r.n r.cap] : Array Value)[i]? := fun i => by rw [hg.cell hlE hpE]; exact cE i
              have cV : ∀ i, W.cell? ⟨B0, i, none⟩ = (#[.int .i64 rb.h.op, .int .i64 rb.h.v.t, .int .i64 rb.h.v.n, .string rb.h.v.s, .bool rb.h.v.b, .string rb.h.tab, .string rb.h.name, .int .i64 rb.h.t, .int .i64 rb.h.c, .bool rb.h.nt, .bool rb.h.st, .slice rb.oa rb.n rb.cap] : Array Value)[i]? := fun i => by rw [hg.cell hlB hpB]; exact cB i
              go_simp
            · refine sc_still (by rfl) (by rfl) (fun s' W _ hS => ?_)
              have hg := Late2.any (fun _ _ _ h => HRG _ _ _ _ h) hS
              have cW : ∀ i, W.cell? ⟨E0, i, none⟩ = (#[.int .i64 r.h.op, .int .i64 r.h.v.t, .int .i64 r.h.v.n, .string r.h.v.s, .bool r.h.v.b, .string r.h.tab, .string r.h.name, .int .i64 r.h.t, .int .i64 r.h.c, .bool r.h.nt, .bool r.h.st, .slice r.oa r.n r.cap] : Array Value)[i]? := fun i => by rw [hg.cell hlE hpE]; exact cE i
              have cV : ∀ i, W.cell? ⟨B0, i, none⟩ = (#[.int .i64 rb.h.op, .int .i64 rb.h.v.t, .int .i64 rb.h.v.n, .string rb.h.v.s, .bool rb.h.v.b, .string rb.h.tab, .string rb.h.name, .int .i64 rb.h.t, .int .i64 rb.h.c, .bool rb.h.nt, .bool rb.h.st, .slice rb.oa rb.n rb.cap] : Array Value)[i]? := fun i => by rw [hg.cell hlB hpB]; exact cB i
              go_simp
            · refine sc_still (by rfl) (by rfl) (fun s' W _ hS => ?_)
              have hg := Late2.any (fun _ _ _ h => HRG _ _ _ _ h) hS
              have cW : ∀ i, W.cell? ⟨E0, i, none⟩ = (#[.int .i64 r.h.op, .int .i64 r.h.v.t, .int .i64 r.h.v.n, .string r.h.v.s, .bool r.h.v.b, .string r.h.tab, .string r.h.name, .int .i64 r.h.t, .int .i64 r.h.c, .bool r.h.nt, .bool r.h.st, .slice r.oa r.n r.cap] : Array Value)[i]? := fun i => by rw [hg.cell hlE hpE]; exact cE i
              have cV : ∀ i, W.cell? ⟨B0, i, none⟩ = (#[.int .i64 rb.h.op, .int .i64 rb.h.v.t, .int .i64 rb.h.v.n, .string rb.h.v.s, .bool rb.h.v.b, .string rb.h.tab, .string rb.h.name, .int .i64 rb.h.t, .int .i64 rb.h.c, .bool rb.h.nt, .bool rb.h.st, .slice rb.oa rb.n rb.cap] : Array Value)[i]? := fun i => by rw [hg.cell hlB hpB]; exact cB i
              go_simp
            · refine sc_still (by rfl) (by rfl) (fun s' W _ hS => ?_)
              have hg := Late2.any (fun _ _ _ h => HRG _ _ _ _ h) hS
              have cW : ∀ i, W.cell? ⟨E0, i, none⟩ = (#[.int .i64 r.h.op, .int .i64 r.h.v.t, .int .i64 r.h.v.n, .string r.h.v.s, .bool r.h.v.b, .string r.h.tab, .string r.h.name, .int .i64 r.h.t, .int .i64 r.h.c, .bool r.h.nt, .bool r.h.st, .slice r.oa r.n r.cap] : Array Value)[i]? := fun i => by rw [hg.cell hlE hpE]; exact cE i
              have cV : ∀ i, W.cell? ⟨B0, i, none⟩ = (#[.int .i64 rb.h.op, .int .i64 rb.h.v.t, .int .i64 rb.h.v.n, .string rb.h.v.s, .bool rb.h.v.b, .string rb.h.tab, .string rb.h.name, .int .i64 rb.h.t, .int .i64 rb.h.c, .bool rb.h.nt, .bool rb.h.st, .slice rb.oa rb.n rb.cap] : Array Value)[i]? := fun i => by rw [hg.cell hlB hpB]; exact cB i
              go_simp
            · refine sc_new (by rfl) (by rfl) (fun W hS => ?_)
              have hg := Late2.g0 hS
              go_simp
              refine (HQ.out W hg).mono ?_
              rintro e w' ⟨u, rfl, hu⟩
              exact ⟨u, rfl, Late2.s1 ⟨W, hg, by rw [upd_same]; exact hu⟩⟩
            · refine sc_new (by rfl) (by rfl) (fun W hS => ?_)
              obtain ⟨W0, hg0, hRx⟩ := Late2.g1 hS
              have hRx2 := hRx
              obtain ⟨ry, y, hv, _⟩ := hRx2
              have hK := hid (Late2.s2 (RX := fun W0 u W => Rx p W0 (q (s6.need 1 ⟨#[97, 110, 100]⟩)) u W) (m := 3) (T := 26) (CS := CsX (r.cells ++ rb.cells)) (v := v) (cs := #[.int .i64 r.h.op, .int .i64 r.h.v.t, .int .i64 r.h.v.n, .string r.h.v.s, .bool r.h.v.b, .string r.h.tab, .string r.h.name, .int .i64 r.h.t, .int .i64 r.h.c, .bool r.h.nt, .bool r.h.st, .slice r.oa r.n r.cap, .int .i64 rb.h.op, .int .i64 rb.h.v.t, .int .i64 rb.h.v.n, .string rb.h.v.s, .bool rb.h.v.b, .string rb.h.tab, .string rb.h.name, .int .i64 rb.h.t, .int .i64 rb.h.c, .bool rb.h.nt, .bool rb.h.st, .slice rb.oa rb.n rb.cap, .int .i64 ry.h.op, .int .i64 ry.h.v.t, .int .i64 ry.h.v.n, .string ry.h.v.s, .bool ry.h.v.b, .string ry.h.tab, .string ry.h.name, .int .i64 ry.h.t, .int .i64 ry.h.c, .bool ry.h.nt, .bool ry.h.st, .slice ry.oa ry.n ry.cap]) hg0 hRx ⟨ry, hv, by simp [XR.cells]⟩)
              unfold XR.val at hv
              rw [hv]
              clear hRx hS hg0 hv
              go_simp
              exact hK.out
            · intro W9 hS
              obtain ⟨W0, W, cs, hg0, hRx, ⟨ry2, hv4, hcs0⟩, rfl, hv5⟩ := Late2.g2 hS
              have hgW := (Go1.of hg0).trans (HRG _ _ _ _ hRx)
              generalize v 4 = vv at *
              generalize v 5 = vw at *
              subst hv5
              obtain ⟨ry, y, hry, hy, hpy, hgy, hyg⟩ := hRx
              have hrr : ry = ry2 := xr_inj (hry.symm.trans hv4)
              subst hrr
              have hcs := hid hcs0
              clear hv4 hcs0
              subst hry
              simp only [List.drop_succ_cons, List.drop_zero]
              have hz0 := hg0.size
              have hzy := hgy.size
              have hc3 := HC8.out.go hgW
              have hA := (Gr.refl W).alloc (.cells cs 26)
              have hc4 := hc3.gr hA
              have FI : Hid (∀ W5, Go1 w.heap.size (W.alloc (.cells cs 26)) W5 → Rx p w R (XR.val ⟨{ op := 17, nt := n }, some ⟨W.heap.size, 0, none⟩, 3, 3⟩) W5) := hid (fun W5 h5 => by
                rw [HER.out]
                refine CB.giveG hc4 (x' := .mk { op := 17, nt := n } [x, xb, y]) (formN (rs := [r, rb, ry]) ⟨by omega, by omega⟩ (alloc_at _ _) (by rw [hcs.out]; simp [cellsF, xF]) (Exs.At.cons hc4.at (Exs.At.cons ?_ (Exs.At.cons ?_ Exs.At.nil))) (fit_le _ (by simp))) (hpy.keep hA) (fun h => ?_) h5
                · exact (HB8.out.of hgW.size (fun b hb hl => hgW.get hl (by have := hb.1; omega))).of hA.size (fun b _ hl => hA.block b hl)
                · exact (hy.of hA.size (fun b hb hl => hA.block b hl)).mono (fun b _ hb => by have : W0.heap.size ≤ b := hb; exact ⟨by omega, by omega⟩)
                · rw [hyg h, hgd3.out hsc, hgdb (hgd9.out h)])
              have H05 := hid hc4.z
              clear hcs hy hpy hgy hyg hgW hS hg0 hc3 hc4 hA HC8 HB8 HQ HER
              go_wp2_with (guard_target =~ wpList _ _ _ (Oper.mk _ (Op.store 26 _ _) _ _ _ _ :: _) _ _; refine st_row (ty := 26) rfl rfl w.heap.size _ rfl rfl 26 _ (H05.out) (by kernel_rfl) rfl (by kernel_rfl) ?_; intro W5 hW5 gW5 zW5)
              (try change bodyPost _ _ _ _ _ _)
              have hT := Rg.blk_cells hW5
              refine bodyPost_ret (v := XR.val ⟨{ op := 17, nt := n }, some ⟨W.heap.size, 0, none⟩, 3, 3⟩) (by simp [results, Tryz.results87, go_sem, XR.val, nul, hT]; try rfl) rfl ⟨_, rfl, FI.out W5 gW5⟩
          | false =>
            have e2 : (s3.may 1 ⟨#[98, 101, 116, 119, 101, 101, 110]⟩).2 = s3 := by simp [Ps.may, hBt]
            rw [e2] at hps5
            clear e2
            have HER : Hid (R = (if n then (a, s3.fail 180) else (a, s3))) := hid (by rw [HT2.out, hBt]; rfl)
            clear HT2 hBt
            cases n with
            | true =>
              go_wp2_with fail
              refine (wrong_any p s3 _ hps5).mono ?_
              rintro e w6 ⟨rfl, hps6, hg6⟩
              have HC6 := hid (HC5.out.go hg6)
              clear HC5 hg6 hps5
              have HGF : Hid ((s3.fail 180).good = true → x = a) := hid (fun h => absurd h (fail_no s3))
              have FI : Hid (∀ W5, Go1 w.heap.size w6 W5 → Rx p w R (XR.val r) W5) := hid (fun W5 h5 => by
                rw [HER.out]
                exact CB.giveG (R := (a, s3.fail 180)) HC6.out HC6.out.at hps6 (fun h => by rw [HGF.out h]) h5)
              have cE := Rg.blk_cells HC6.out.e
              simp only [XR.cells] at cE
              have H05 := hid HC6.out.z
              clear HC6 hps6
              go_wp2_with (guard_target =~ wpList _ _ _ (Oper.mk _ (Op.store 26 _ _) _ _ _ _ :: _) _ _; refine st_row (ty := 26) rfl rfl w.heap.size _ rfl rfl 26 _ (H05.out) (by kernel_rfl) rfl (by kernel_rfl) ?_; intro W5 hW5 gW5 zW5)
              (try change bodyPost _ _ _ _ _ _)
              have hT := Rg.blk_cells hW5
              refine bodyPost_ret (v := XR.val r) (by simp [results, Tryz.results87, go_sem, XR.val, nul, hT]; try rfl) rfl ⟨_, rfl, FI.out W5 gW5⟩
            | false =>
              have FI : Hid (∀ W5, Go1 w.heap.size w5 W5 → Rx p w R (XR.val r) W5) := hid (fun W5 h5 => by
                rw [HER.out]
                exact CB.giveG (R := (a, s3)) HC5.out HC5.out.at hps5 (fun h => by rw [hgd3.out h]) h5)
              have cE := Rg.blk_cells HC5.out.e
              simp only [XR.cells] at cE
              have H05 := hid HC5.out.z
              clear HC5 hps5
              go_wp2_with (guard_target =~ wpList _ _ _ (Oper.mk _ (Op.store 26 _ _) _ _ _ _ :: _) _ _; refine st_row (ty := 26) rfl rfl w.heap.size _ rfl rfl 26 _ (H05.out) (by kernel_rfl) rfl (by kernel_rfl) ?_; intro W5 hW5 gW5 zW5)
              (try change bodyPost _ _ _ _ _ _)
              have hT := Rg.blk_cells hW5
              refine bodyPost_ret (v := XR.val r) (by simp [results, Tryz.results87, go_sem, XR.val, nul, hT]; try rfl) rfl ⟨_, rfl, FI.out W5 gW5⟩
end Go.Proofs.YtbeinfhgfflneaaGreat
end
section
namespace Go.Proofs.YtbeinfhgfflneaaGreat
open Go.RowKit
set_option linter.unusedSimpArgs false
set_option linter.unusedVariables false
attribute [local go_sem] Rg.leads_value Rg.leads_skip Rg.leads_enter Rg.brings_value Rg.brings_skip Rg.brings_enter Rg.bringsG_value Rg.bringsG_enter Rg.once_normal Rg.once_exit Rg.once_ret Rg.once_panic Rg.once_goto Rg.bringsS_value Rg.bringsS_skip Rg.bringsS_enter Rg.still_value Rg.still_skip Rg.still_enter
set_option maxHeartbeats 4000000 in
set_option maxRecDepth 100000 in
theorem and_any (q : Pa Ex) (p N : Nat) (hq : Rd 65 q p N) (hn : NI q) : Rd 34 (ands q) p N := by
  intro s w hS hsN
  have hpw := hS.lt
  have hS0 := fun o => hS.keep ((Gr.refl w).alloc o)
  obtain ⟨R, hR⟩ : ∃ R, ands q s = R := ⟨_, rfl⟩
  rw [hR]
  have HR := hid hR
  clear hR
  go_enter Tryz.func34, Tryz.ntmps34
  go_wp2_with fail
  refine (hq s _ (hS0 _) hsN).mono ?_
  rintro e w1 ⟨u, rfl, r, x, rfl, hx, hps, hgo, hgd⟩
  have hst := hid (LfRel.start hpw hx hps hgo hgd hn hsN HR.out)
  have hz1 := hgo.size
  simp only [World.size_alloc] at hz1
  clear hx hps hgo hgd hS0 HR
  unfold XR.val
  go_wp2_with fail
  generalize Value.agg _ = uu
  have hE : w.heap.size < w1.heap.size := by omega
  generalize w1.heap.size = E at *
  go_loopw [] (fun wr => LfRel [(⟨#[97, 110, 100]⟩, 7)] 1 q p N w w.heap.size E R wr) (fun wr => lenAt p wr)
  · exact hst.out
  · clear hst
    obtain ⟨r, x, x0, s, n, hbE, hb0, hx, hxs, hR, hsn, hsN, hps, hgo⟩ := hrel
    have hEl : E < wr.heap.size := (Array.getElem?_eq_some_iff.1 hbE).1
    have hg1 := Go1.refl p wr
    have hps1 := hps
    go_wp2_with fail
    refine (word_any p ⟨#[97, 110, 100]⟩ s wr hps1).mono ?_
    rintro e w2 ⟨rfl, hps2, ht2⟩
    have hg2 := hg1.trans ht2
    clear ht2 hg1 hps1
    cases hB0 : s.is 1 ⟨#[97, 110, 100]⟩ with
    | true =>
      have e2 : (s.may 1 ⟨#[97, 110, 100]⟩).2 = s.step := by simp [Ps.may, hB0]
      rw [e2] at hps2
      have hf : (([(⟨#[97, 110, 100]⟩, 7)]) : List (ByteArray × Int)).find? (fun o => s.is 1 o.1) = some (⟨#[97, 110, 100]⟩, 7) := by simp [hB0]
      obtain ⟨hs1, hs2, hs3⟩ := is_step hB0 (by decide)
      have hEW2 : w2.heap[E]? = _ := (hg2.get hEl (by omega)).trans hbE
      have NX := fun W0 W W4 ry y (h1 : Gr w2 W0) h2 h3 h4 h5 cs hcat h6 => LfRel.next (W0 := W0) (W := W) (W4 := W4) (ry := ry) (y := y) (b0 := .int .i64 7) (b1 := .int .i64 0) (b2 := .int .i64 0) (b3 := .string ⟨#[]⟩) (b4 := .bool false) (b5 := .string ⟨#[]⟩) (b6 := .string ⟨#[]⟩) (b7 := .int .i64 0) (b8 := .int .i64 0) (b9 := .bool false) (b10 := .bool false) (b11 := .slice (some ⟨W.heap.size, 0, none⟩) 2 2) (by decide) hpw rfl hE hbE hb0 hx hxs hR hsn hsN hgo hf hn hg2 h1 h2 h3 h4 h5 (cs := cs) hcat h6 rfl
      have cE := Rg.blk_cells hEW2
      simp only [XR.cells] at cE
      have LA : Hid (lenAt p wr = s.size) := hid (lenAt_ps hps)
      have HQ := hid (fun W0 (h : Gr w2 W0) => hq s.step W0 (hps2.keep h) (by omega))
      have hE2l : E < w2.heap.size := Nat.lt_of_lt_of_le hEl hg2.size
      have hpE : E ≠ p := by omega
      have H0 := hid hEW2
      have HNX := hid NX
      clear NX hEW2 hps2 hps hx hxs hR hbE hb0 hgo hg2 hB0 e2 hf
      go_wp2_with fail
      refine Rg.region_chain 3 [2] [] (Late 2 w2 (fun W0 u W => Rx p W0 (q s.step) u W)) [some (.agg #[.int .i64 r.h.op, .int .i64 r.h.v.t, .int .i64 r.h.v.n, .string r.h.v.s, .bool r.h.v.b, .string r.h.tab, .string r.h.name, .int .i64 r.h.t, .int .i64 r.h.c, .bool r.h.nt, .bool r.h.st, .slice r.oa r.n r.cap]), some (.pointer (some ⟨p, 0, none⟩)), none]
        (fun v => late0 ((Gr.refl _).drew)) (by kernel_rfl) (by kernel_rfl) (by kernel_rfl) (by kernel_rfl) (fun _ _ d _ _ h => by cases d <;> exact h) ?_
      intro OPS _ v
      simp only [List.take_succ_cons, List.take_zero, Rg.wpC, Option.getD_some, Option.getD_none, Act.put, List.setIfInBounds_toArray, List.set_cons_zero, List.set_cons_succ, show List.contains [2] 0 = false from rfl, show List.contains [2] 1 = false from rfl, show List.contains [2] 2 = true from rfl, Bool.false_eq_true, if_false, if_true, Nat.reduceAdd]
      refine ⟨?_, ?_, ?_, ?_⟩
      · refine sc_still (by rfl) (by rfl) (fun s' W _ hS => ?_)
        have hg := late_any (fun _ _ _ h => Rx.go h) hS
        have cW : ∀ i, W.cell? ⟨E, i, none⟩ = (#[.int .i64 r.h.op, .int .i64 r.h.v.t, .int .i64 r.h.v.n, .string r.h.v.s, .bool r.h.v.b, .string r.h.tab, .string r.h.name, .int .i64 r.h.t, .int .i64 r.h.c, .bool r.h.nt, .bool r.h.st, .slice r.oa r.n r.cap] : Array Value)[i]? := fun i => by rw [hg.cell hE2l hpE]; exact cE i
        go_simp
      · refine sc_still (by rfl) (by rfl) (fun s' W _ hS => ?_)
        go_simp
      · refine sc_new (by rfl) (by rfl) (fun W hS => ?_)
        have hg := late_0 hS
        go_simp
        refine (HQ.out W hg).mono ?_
        rintro e w' ⟨u, rfl, hu⟩
        exact ⟨u, rfl, late1 ⟨W, hg, by rw [upd_same]; exact hu⟩⟩
      · intro W hS
        have hgW := late_any (fun _ _ _ h => Rx.go h) hS
        obtain ⟨W0, hg0, hRx⟩ := late_1 hS
        generalize v 2 = vv at *
        obtain ⟨ry, y, rfl, hy, hpy, hgy, hyg⟩ := hRx
        simp only [List.drop_succ_cons, List.drop_zero]
        have NX2 := hid (fun W4 => HNX.out W0 W W4 ry y hg0 hy hpy hgy hyg _ rfl)
        have hEW := (hgW.get hE2l hpE).trans H0.out
        have hElW : E < W.heap.size := (Array.getElem?_eq_some_iff.1 hEW).1
        clear hg0 hy hpy hgy hyg HNX HQ hgW hS
        unfold XR.val
        go_wp2_with fail
        refine (tree_any _ _ _ _ _).mono ?_
        rintro e W4 ⟨rfl, h4⟩
        obtain ⟨hnx, hlt⟩ := NX2.out W4 h4
        have HX := hid hnx
        have hE4 : W4.heap[E]? = some (.cells #[.int .i64 r.h.op, .int .i64 r.h.v.t, .int .i64 r.h.v.n, .string r.h.v.s, .bool r.h.v.b, .string r.h.tab, .string r.h.name, .int .i64 r.h.t, .int .i64 r.h.c, .bool r.h.nt, .bool r.h.st, .slice r.oa r.n r.cap] 26) := by rw [h4.block _ (by simp; omega)]; rw [((Gr.refl W).alloc _).block _ hElW]; exact hEW
        have c4 := Rg.blk_cells hE4
        have f4 := Rg.blk_free hE4
        clear hnx NX2 h4 hEW hE4 H0
        unfold XR.val
        go_wp2
        exact ⟨HX.out, by rw [LA.out]; exact hlt⟩
    | false =>
      have e2 : (s.may 1 ⟨#[97, 110, 100]⟩).2 = s := by simp [Ps.may, hB0]
      rw [e2] at hps2
      clear e2
      have h0W : w2.heap[w.heap.size]? = _ := (hg2.get (by omega) (by omega)).trans hb0
      have hEW2 : w2.heap[E]? = _ := (hg2.get hEl (by omega)).trans hbE
      have FI := hid (LfRel.done (E := E) hpw rfl hx hxs hR hgo (by simp [hB0]) hg2 hps2)
      have cE := Rg.blk_cells hEW2
      have c0 := Rg.blk_cells h0W
      simp only [XR.cells] at c0 cE h0W
      have f0 := Rg.blk_free h0W
      have hz2 := hg2.size
      clear hEW2 hps2 hps hgo hg2 hx hxs hR hbE hb0
      go_wp2
      (try change bodyPost _ _ _ _ _ _)
      generalize hW5 : World.setCell _ _ _ = W5
      have hT := cells12 h0W hW5
      have hF := Rx.at12 FI.out hW5
      clear hW5 h0W FI
      refine bodyPost_ret (v := XR.val r) (by simp [results, Tryz.results34, go_sem, XR.val, nul, hT]; try rfl) rfl ⟨_, rfl, hF⟩
set_option maxHeartbeats 4000000 in
set_option maxRecDepth 100000 in
theorem or_any (q : Pa Ex) (p N : Nat) (hq : Rd 34 q p N) (hn : NI q) : Rd 21 (ors q) p N := by
  intro s w hS hsN
  have hpw := hS.lt
  have hS0 := fun o => hS.keep ((Gr.refl w).alloc o)
  obtain ⟨R, hR⟩ : ∃ R, ors q s = R := ⟨_, rfl⟩
  rw [hR]
  have HR := hid hR
  clear hR
  go_enter Tryz.func21, Tryz.ntmps21
  go_wp2_with fail
  refine (hq s _ (hS0 _) hsN).mono ?_
  rintro e w1 ⟨u, rfl, r, x, rfl, hx, hps, hgo, hgd⟩
  have hst := hid (LfRel.start hpw hx hps hgo hgd hn hsN HR.out)
  have hz1 := hgo.size
  simp only [World.size_alloc] at hz1
  clear hx hps hgo hgd hS0 HR
  unfold XR.val
  go_wp2_with fail
  generalize Value.agg _ = uu
  have hE : w.heap.size < w1.heap.size := by omega
  generalize w1.heap.size = E at *
  go_loopw [] (fun wr => LfRel [(⟨#[111, 114]⟩, 6)] 1 q p N w w.heap.size E R wr) (fun wr => lenAt p wr)
  · exact hst.out
  · clear hst
    obtain ⟨r, x, x0, s, n, hbE, hb0, hx, hxs, hR, hsn, hsN, hps, hgo⟩ := hrel
    have hEl : E < wr.heap.size := (Array.getElem?_eq_some_iff.1 hbE).1
    have hg1 := Go1.refl p wr
    have hps1 := hps
    go_wp2_with fail
    refine (word_any p ⟨#[111, 114]⟩ s wr hps1).mono ?_
    rintro e w2 ⟨rfl, hps2, ht2⟩
    have hg2 := hg1.trans ht2
    clear ht2 hg1 hps1
    cases hB0 : s.is 1 ⟨#[111, 114]⟩ with
    | true =>
      have e2 : (s.may 1 ⟨#[111, 114]⟩).2 = s.step := by simp [Ps.may, hB0]
      rw [e2] at hps2
      have hf : (([(⟨#[111, 114]⟩, 6)]) : List (ByteArray × Int)).find? (fun o => s.is 1 o.1) = some (⟨#[111, 114]⟩, 6) := by simp [hB0]
      obtain ⟨hs1, hs2, hs3⟩ := is_step hB0 (by decide)
      have hEW2 : w2.heap[E]? = _ := (hg2.get hEl (by omega)).trans hbE
      have NX := fun W0 W W4 ry y (h1 : Gr w2 W0) h2 h3 h4 h5 cs hcat h6 => LfRel.next (W0 := W0) (W := W) (W4 := W4) (ry := ry) (y := y) (b0 := .int .i64 6) (b1 := .int .i64 0) (b2 := .int .i64 0) (b3 := .string ⟨#[]⟩) (b4 := .bool false) (b5 := .string ⟨#[]⟩) (b6 := .string ⟨#[]⟩) (b7 := .int .i64 0) (b8 := .int .i64 0) (b9 := .bool false) (b10 := .bool false) (b11 := .slice (some ⟨W.heap.size, 0, none⟩) 2 2) (by decide) hpw rfl hE hbE hb0 hx hxs hR hsn hsN hgo hf hn hg2 h1 h2 h3 h4 h5 (cs := cs) hcat h6 rfl
      have cE := Rg.blk_cells hEW2
      simp only [XR.cells] at cE
      have LA : Hid (lenAt p wr = s.size) := hid (lenAt_ps hps)
      have HQ := hid (fun W0 (h : Gr w2 W0) => hq s.step W0 (hps2.keep h) (by omega))
      have hE2l : E < w2.heap.size := Nat.lt_of_lt_of_le hEl hg2.size
      have hpE : E ≠ p := by omega
      have H0 := hid hEW2
      have HNX := hid NX
      clear NX hEW2 hps2 hps hx hxs hR hbE hb0 hgo hg2 hB0 e2 hf
      go_wp2_with fail
      refine Rg.region_chain 3 [2] [] (Late 2 w2 (fun W0 u W => Rx p W0 (q s.step) u W)) [some (.agg #[.int .i64 r.h.op, .int .i64 r.h.v.t, .int .i64 r.h.v.n, .string r.h.v.s, .bool r.h.v.b, .string r.h.tab, .string r.h.name, .int .i64 r.h.t, .int .i64 r.h.c, .bool r.h.nt, .bool r.h.st, .slice r.oa r.n r.cap]), some (.pointer (some ⟨p, 0, none⟩)), none]
        (fun v => late0 ((Gr.refl _).drew)) (by kernel_rfl) (by kernel_rfl) (by kernel_rfl) (by kernel_rfl) (fun _ _ d _ _ h => by cases d <;> exact h) ?_
      intro OPS _ v
      simp only [List.take_succ_cons, List.take_zero, Rg.wpC, Option.getD_some, Option.getD_none, Act.put, List.setIfInBounds_toArray, List.set_cons_zero, List.set_cons_succ, show List.contains [2] 0 = false from rfl, show List.contains [2] 1 = false from rfl, show List.contains [2] 2 = true from rfl, Bool.false_eq_true, if_false, if_true, Nat.reduceAdd]
      refine ⟨?_, ?_, ?_, ?_⟩
      · refine sc_still (by rfl) (by rfl) (fun s' W _ hS => ?_)
        have hg := late_any (fun _ _ _ h => Rx.go h) hS
        have cW : ∀ i, W.cell? ⟨E, i, none⟩ = (#[.int .i64 r.h.op, .int .i64 r.h.v.t, .int .i64 r.h.v.n, .string r.h.v.s, .bool r.h.v.b, .string r.h.tab, .string r.h.name, .int .i64 r.h.t, .int .i64 r.h.c, .bool r.h.nt, .bool r.h.st, .slice r.oa r.n r.cap] : Array Value)[i]? := fun i => by rw [hg.cell hE2l hpE]; exact cE i
        go_simp
      · refine sc_still (by rfl) (by rfl) (fun s' W _ hS => ?_)
        go_simp
      · refine sc_new (by rfl) (by rfl) (fun W hS => ?_)
        have hg := late_0 hS
        go_simp
        refine (HQ.out W hg).mono ?_
        rintro e w' ⟨u, rfl, hu⟩
        exact ⟨u, rfl, late1 ⟨W, hg, by rw [upd_same]; exact hu⟩⟩
      · intro W hS
        have hgW := late_any (fun _ _ _ h => Rx.go h) hS
        obtain ⟨W0, hg0, hRx⟩ := late_1 hS
        generalize v 2 = vv at *
        obtain ⟨ry, y, rfl, hy, hpy, hgy, hyg⟩ := hRx
        simp only [List.drop_succ_cons, List.drop_zero]
        have NX2 := hid (fun W4 => HNX.out W0 W W4 ry y hg0 hy hpy hgy hyg _ rfl)
        have hEW := (hgW.get hE2l hpE).trans H0.out
        have hElW : E < W.heap.size := (Array.getElem?_eq_some_iff.1 hEW).1
        clear hg0 hy hpy hgy hyg HNX HQ hgW hS
        unfold XR.val
        go_wp2_with fail
        refine (tree_any _ _ _ _ _).mono ?_
        rintro e W4 ⟨rfl, h4⟩
        obtain ⟨hnx, hlt⟩ := NX2.out W4 h4
        have HX := hid hnx
        have hE4 : W4.heap[E]? = some (.cells #[.int .i64 r.h.op, .int .i64 r.h.v.t, .int .i64 r.h.v.n, .string r.h.v.s, .bool r.h.v.b, .string r.h.tab, .string r.h.name, .int .i64 r.h.t, .int .i64 r.h.c, .bool r.h.nt, .bool r.h.st, .slice r.oa r.n r.cap] 26) := by rw [h4.block _ (by simp; omega)]; rw [((Gr.refl W).alloc _).block _ hElW]; exact hEW
        have c4 := Rg.blk_cells hE4
        have f4 := Rg.blk_free hE4
        clear hnx NX2 h4 hEW hE4 H0
        unfold XR.val
        go_wp2
        exact ⟨HX.out, by rw [LA.out]; exact hlt⟩
    | false =>
      have e2 : (s.may 1 ⟨#[111, 114]⟩).2 = s := by simp [Ps.may, hB0]
      rw [e2] at hps2
      clear e2
      have h0W : w2.heap[w.heap.size]? = _ := (hg2.get (by omega) (by omega)).trans hb0
      have hEW2 : w2.heap[E]? = _ := (hg2.get hEl (by omega)).trans hbE
      have FI := hid (LfRel.done (E := E) hpw rfl hx hxs hR hgo (by simp [hB0]) hg2 hps2)
      have cE := Rg.blk_cells hEW2
      have c0 := Rg.blk_cells h0W
      simp only [XR.cells] at c0 cE h0W
      have f0 := Rg.blk_free h0W
      have hz2 := hg2.size
      clear hEW2 hps2 hps hgo hg2 hx hxs hR hbE hb0
      go_wp2
      (try change bodyPost _ _ _ _ _ _)
      generalize hW5 : World.setCell _ _ _ = W5
      have hT := cells12 h0W hW5
      have hF := Rx.at12 FI.out hW5
      clear hW5 h0W FI
      refine bodyPost_ret (v := XR.val r) (by simp [results, Tryz.results21, go_sem, XR.val, nul, hT]; try rfl) rfl ⟨_, rfl, hF⟩
set_option maxHeartbeats 4000000 in
set_option maxRecDepth 100000 in
theorem product_any (q : Pa Ex) (p N : Nat) (hq : Rd 128 q p N) (hn : NI q) : Rd 121 (prods q) p N := by
  intro s w hS hsN
  have hpw := hS.lt
  have hS0 := fun o => hS.keep ((Gr.refl w).alloc o)
  obtain ⟨R, hR⟩ : ∃ R, prods q s = R := ⟨_, rfl⟩
  rw [hR]
  have HR := hid hR
  clear hR
  go_enter Tryz.func121, Tryz.ntmps121
  go_wp2_with fail
  refine (hq s _ (hS0 _) hsN).mono ?_
  rintro e w1 ⟨u, rfl, r, x, rfl, hx, hps, hgo, hgd⟩
  have hst := hid (LfRel.start hpw hx hps hgo hgd hn hsN HR.out)
  have hz1 := hgo.size
  simp only [World.size_alloc] at hz1
  clear hx hps hgo hgd hS0 HR
  unfold XR.val
  go_wp2_with fail
  generalize Value.agg _ = uu
  have hE : w.heap.size < w1.heap.size := by omega
  generalize w1.heap.size = E at *
  go_loopw [] (fun wr => LfRel [(⟨#[42]⟩, 20), (⟨#[47]⟩, 21), (⟨#[37]⟩, 22)] 4 q p N w w.heap.size E R wr) (fun wr => lenAt p wr)
  · exact hst.out
  · clear hst
    obtain ⟨r, x, x0, s, n, hbE, hb0, hx, hxs, hR, hsn, hsN, hps, hgo⟩ := hrel
    have hEl : E < wr.heap.size := (Array.getElem?_eq_some_iff.1 hbE).1
    have hg1 := Go1.refl p wr
    have hps1 := hps
    go_wp2_with fail
    refine (sign_any' p ⟨#[42]⟩ s wr hps1).mono ?_
    rintro e w2 ⟨rfl, hps2, ht2⟩
    have hg2 := hg1.trans ht2
    clear ht2 hg1 hps1
    cases hB0 : s.is 4 ⟨#[42]⟩ with
    | true =>
      have e2 : (s.may 4 ⟨#[42]⟩).2 = s.step := by simp [Ps.may, hB0]
      rw [e2] at hps2
      have hf : (([(⟨#[42]⟩, 20), (⟨#[47]⟩, 21), (⟨#[37]⟩, 22)]) : List (ByteArray × Int)).find? (fun o => s.is 4 o.1) = some (⟨#[42]⟩, 20) := by simp [hB0]
      obtain ⟨hs1, hs2, hs3⟩ := is_step hB0 (by decide)
      have hEW2 : w2.heap[E]? = _ := (hg2.get hEl (by omega)).trans hbE
      have NX := fun W0 W W4 ry y (h1 : Gr w2 W0) h2 h3 h4 h5 cs hcat h6 => LfRel.next (W0 := W0) (W := W) (W4 := W4) (ry := ry) (y := y) (b0 := .int .i64 20) (b1 := .int .i64 0) (b2 := .int .i64 0) (b3 := .string ⟨#[]⟩) (b4 := .bool false) (b5 := .string ⟨#[]⟩) (b6 := .string ⟨#[]⟩) (b7 := .int .i64 0) (b8 := .int .i64 0) (b9 := .bool false) (b10 := .bool false) (b11 := .slice (some ⟨W.heap.size, 0, none⟩) 2 2) (by decide) hpw rfl hE hbE hb0 hx hxs hR hsn hsN hgo hf hn hg2 h1 h2 h3 h4 h5 (cs := cs) hcat h6 rfl
      have cE := Rg.blk_cells hEW2
      simp only [XR.cells] at cE
      have LA : Hid (lenAt p wr = s.size) := hid (lenAt_ps hps)
      have HQ := hid (fun W0 (h : Gr w2 W0) => hq s.step W0 (hps2.keep h) (by omega))
      have hE2l : E < w2.heap.size := Nat.lt_of_lt_of_le hEl hg2.size
      have hpE : E ≠ p := by omega
      have H0 := hid hEW2
      have HNX := hid NX
      clear NX hEW2 hps2 hps hx hxs hR hbE hb0 hgo hg2 hB0 e2 hf
      go_wp2_with fail
      refine Rg.region_chain 3 [2] [] (Late 2 w2 (fun W0 u W => Rx p W0 (q s.step) u W)) [some (.agg #[.int .i64 r.h.op, .int .i64 r.h.v.t, .int .i64 r.h.v.n, .string r.h.v.s, .bool r.h.v.b, .string r.h.tab, .string r.h.name, .int .i64 r.h.t, .int .i64 r.h.c, .bool r.h.nt, .bool r.h.st, .slice r.oa r.n r.cap]), some (.pointer (some ⟨p, 0, none⟩)), none]
        (fun v => late0 ((Gr.refl _).drew)) (by kernel_rfl) (by kernel_rfl) (by kernel_rfl) (by kernel_rfl) (fun _ _ d _ _ h => by cases d <;> exact h) ?_
      intro OPS _ v
      simp only [List.take_succ_cons, List.take_zero, Rg.wpC, Option.getD_some, Option.getD_none, Act.put, List.setIfInBounds_toArray, List.set_cons_zero, List.set_cons_succ, show List.contains [2] 0 = false from rfl, show List.contains [2] 1 = false from rfl, show List.contains [2] 2 = true from rfl, Bool.false_eq_true, if_false, if_true, Nat.reduceAdd]
      refine ⟨?_, ?_, ?_, ?_⟩
      · refine sc_still (by rfl) (by rfl) (fun s' W _ hS => ?_)
        have hg := late_any (fun _ _ _ h => Rx.go h) hS
        have cW : ∀ i, W.cell? ⟨E, i, none⟩ = (#[.int .i64 r.h.op, .int .i64 r.h.v.t, .int .i64 r.h.v.n, .string r.h.v.s, .bool r.h.v.b, .string r.h.tab, .string r.h.name, .int .i64 r.h.t, .int .i64 r.h.c, .bool r.h.nt, .bool r.h.st, .slice r.oa r.n r.cap] : Array Value)[i]? := fun i => by rw [hg.cell hE2l hpE]; exact cE i
        go_simp
      · refine sc_still (by rfl) (by rfl) (fun s' W _ hS => ?_)
        go_simp
      · refine sc_new (by rfl) (by rfl) (fun W hS => ?_)
        have hg := late_0 hS
        go_simp
        refine (HQ.out W hg).mono ?_
        rintro e w' ⟨u, rfl, hu⟩
        exact ⟨u, rfl, late1 ⟨W, hg, by rw [upd_same]; exact hu⟩⟩
      · intro W hS
        have hgW := late_any (fun _ _ _ h => Rx.go h) hS
        obtain ⟨W0, hg0, hRx⟩ := late_1 hS
        generalize v 2 = vv at *
        obtain ⟨ry, y, rfl, hy, hpy, hgy, hyg⟩ := hRx
        simp only [List.drop_succ_cons, List.drop_zero]
        have NX2 := hid (fun W4 => HNX.out W0 W W4 ry y hg0 hy hpy hgy hyg _ rfl)
        have hEW := (hgW.get hE2l hpE).trans H0.out
        have hElW : E < W.heap.size := (Array.getElem?_eq_some_iff.1 hEW).1
        clear hg0 hy hpy hgy hyg HNX HQ hgW hS
        unfold XR.val
        go_wp2_with fail
        refine (tree_any _ _ _ _ _).mono ?_
        rintro e W4 ⟨rfl, h4⟩
        obtain ⟨hnx, hlt⟩ := NX2.out W4 h4
        have HX := hid hnx
        have hE4 : W4.heap[E]? = some (.cells #[.int .i64 r.h.op, .int .i64 r.h.v.t, .int .i64 r.h.v.n, .string r.h.v.s, .bool r.h.v.b, .string r.h.tab, .string r.h.name, .int .i64 r.h.t, .int .i64 r.h.c, .bool r.h.nt, .bool r.h.st, .slice r.oa r.n r.cap] 26) := by rw [h4.block _ (by simp; omega)]; rw [((Gr.refl W).alloc _).block _ hElW]; exact hEW
        have c4 := Rg.blk_cells hE4
        have f4 := Rg.blk_free hE4
        clear hnx NX2 h4 hEW hE4 H0
        unfold XR.val
        go_wp2
        exact ⟨HX.out, by rw [LA.out]; exact hlt⟩
    | false =>
      have e2 : (s.may 4 ⟨#[42]⟩).2 = s := by simp [Ps.may, hB0]
      rw [e2] at hps2
      clear e2
      go_wp2_with fail
      refine (sign_any' p ⟨#[47]⟩ s w2 hps2).mono ?_
      rintro e w3 ⟨rfl, hps3, ht3⟩
      have hg3 := hg2.trans ht3
      clear ht3 hg2 hps2
      cases hB1 : s.is 4 ⟨#[47]⟩ with
      | true =>
        have e2 : (s.may 4 ⟨#[47]⟩).2 = s.step := by simp [Ps.may, hB1]
        rw [e2] at hps3
        have hf : (([(⟨#[42]⟩, 20), (⟨#[47]⟩, 21), (⟨#[37]⟩, 22)]) : List (ByteArray × Int)).find? (fun o => s.is 4 o.1) = some (⟨#[47]⟩, 21) := by simp [hB0, hB1]
        obtain ⟨hs1, hs2, hs3⟩ := is_step hB1 (by decide)
        have hEW2 : w3.heap[E]? = _ := (hg3.get hEl (by omega)).trans hbE
        have NX := fun W0 W W4 ry y (h1 : Gr w3 W0) h2 h3 h4 h5 cs hcat h6 => LfRel.next (W0 := W0) (W := W) (W4 := W4) (ry := ry) (y := y) (b0 := .int .i64 21) (b1 := .int .i64 0) (b2 := .int .i64 0) (b3 := .string ⟨#[]⟩) (b4 := .bool false) (b5 := .string ⟨#[]⟩) (b6 := .string ⟨#[]⟩) (b7 := .int .i64 0) (b8 := .int .i64 0) (b9 := .bool false) (b10 := .bool false) (b11 := .slice (some ⟨W.heap.size, 0, none⟩) 2 2) (by decide) hpw rfl hE hbE hb0 hx hxs hR hsn hsN hgo hf hn hg3 h1 h2 h3 h4 h5 (cs := cs) hcat h6 rfl
        have cE := Rg.blk_cells hEW2
        simp only [XR.cells] at cE
        have LA : Hid (lenAt p wr = s.size) := hid (lenAt_ps hps)
        have HQ := hid (fun W0 (h : Gr w3 W0) => hq s.step W0 (hps3.keep h) (by omega))
        have hE2l : E < w3.heap.size := Nat.lt_of_lt_of_le hEl hg3.size
        have hpE : E ≠ p := by omega
        have H0 := hid hEW2
        have HNX := hid NX
        clear NX hEW2 hps3 hps hx hxs hR hbE hb0 hgo hg3 hB1 e2 hf
        go_wp2_with fail
        refine Rg.region_chain 3 [2] [] (Late 2 w3 (fun W0 u W => Rx p W0 (q s.step) u W)) [some (.agg #[.int .i64 r.h.op, .int .i64 r.h.v.t, .int .i64 r.h.v.n, .string r.h.v.s, .bool r.h.v.b, .string r.h.tab, .string r.h.name, .int .i64 r.h.t, .int .i64 r.h.c, .bool r.h.nt, .bool r.h.st, .slice r.oa r.n r.cap]), some (.pointer (some ⟨p, 0, none⟩)), none]
          (fun v => late0 ((Gr.refl _).drew)) (by kernel_rfl) (by kernel_rfl) (by kernel_rfl) (by kernel_rfl) (fun _ _ d _ _ h => by cases d <;> exact h) ?_
        intro OPS _ v
        simp only [List.take_succ_cons, List.take_zero, Rg.wpC, Option.getD_some, Option.getD_none, Act.put, List.setIfInBounds_toArray, List.set_cons_zero, List.set_cons_succ, show List.contains [2] 0 = false from rfl, show List.contains [2] 1 = false from rfl, show List.contains [2] 2 = true from rfl, Bool.false_eq_true, if_false, if_true, Nat.reduceAdd]
        refine ⟨?_, ?_, ?_, ?_⟩
        · refine sc_still (by rfl) (by rfl) (fun s' W _ hS => ?_)
          have hg := late_any (fun _ _ _ h => Rx.go h) hS
          have cW : ∀ i, W.cell? ⟨E, i, none⟩ = (#[.int .i64 r.h.op, .int .i64 r.h.v.t, .int .i64 r.h.v.n, .string r.h.v.s, .bool r.h.v.b, .string r.h.tab, .string r.h.name, .int .i64 r.h.t, .int .i64 r.h.c, .bool r.h.nt, .bool r.h.st, .slice r.oa r.n r.cap] : Array Value)[i]? := fun i => by rw [hg.cell hE2l hpE]; exact cE i
          go_simp
        · refine sc_still (by rfl) (by rfl) (fun s' W _ hS => ?_)
          go_simp
        · refine sc_new (by rfl) (by rfl) (fun W hS => ?_)
          have hg := late_0 hS
          go_simp
          refine (HQ.out W hg).mono ?_
          rintro e w' ⟨u, rfl, hu⟩
          exact ⟨u, rfl, late1 ⟨W, hg, by rw [upd_same]; exact hu⟩⟩
        · intro W hS
          have hgW := late_any (fun _ _ _ h => Rx.go h) hS
          obtain ⟨W0, hg0, hRx⟩ := late_1 hS
          generalize v 2 = vv at *
          obtain ⟨ry, y, rfl, hy, hpy, hgy, hyg⟩ := hRx
          simp only [List.drop_succ_cons, List.drop_zero]
          have NX2 := hid (fun W4 => HNX.out W0 W W4 ry y hg0 hy hpy hgy hyg _ rfl)
          have hEW := (hgW.get hE2l hpE).trans H0.out
          have hElW : E < W.heap.size := (Array.getElem?_eq_some_iff.1 hEW).1
          clear hg0 hy hpy hgy hyg HNX HQ hgW hS
          unfold XR.val
          go_wp2_with fail
          refine (tree_any _ _ _ _ _).mono ?_
          rintro e W4 ⟨rfl, h4⟩
          obtain ⟨hnx, hlt⟩ := NX2.out W4 h4
          have HX := hid hnx
          have hE4 : W4.heap[E]? = some (.cells #[.int .i64 r.h.op, .int .i64 r.h.v.t, .int .i64 r.h.v.n, .string r.h.v.s, .bool r.h.v.b, .string r.h.tab, .string r.h.name, .int .i64 r.h.t, .int .i64 r.h.c, .bool r.h.nt, .bool r.h.st, .slice r.oa r.n r.cap] 26) := by rw [h4.block _ (by simp; omega)]; rw [((Gr.refl W).alloc _).block _ hElW]; exact hEW
          have c4 := Rg.blk_cells hE4
          have f4 := Rg.blk_free hE4
          clear hnx NX2 h4 hEW hE4 H0
          unfold XR.val
          go_wp2
          exact ⟨HX.out, by rw [LA.out]; exact hlt⟩
      | false =>
        have e2 : (s.may 4 ⟨#[47]⟩).2 = s := by simp [Ps.may, hB1]
        rw [e2] at hps3
        clear e2
        go_wp2_with fail
        refine (sign_any' p ⟨#[37]⟩ s w3 hps3).mono ?_
        rintro e w4 ⟨rfl, hps4, ht4⟩
        have hg4 := hg3.trans ht4
        clear ht4 hg3 hps3
        cases hB2 : s.is 4 ⟨#[37]⟩ with
        | true =>
          have e2 : (s.may 4 ⟨#[37]⟩).2 = s.step := by simp [Ps.may, hB2]
          rw [e2] at hps4
          have hf : (([(⟨#[42]⟩, 20), (⟨#[47]⟩, 21), (⟨#[37]⟩, 22)]) : List (ByteArray × Int)).find? (fun o => s.is 4 o.1) = some (⟨#[37]⟩, 22) := by simp [hB0, hB1, hB2]
          obtain ⟨hs1, hs2, hs3⟩ := is_step hB2 (by decide)
          have hEW2 : w4.heap[E]? = _ := (hg4.get hEl (by omega)).trans hbE
          have NX := fun W0 W W4 ry y (h1 : Gr w4 W0) h2 h3 h4 h5 cs hcat h6 => LfRel.next (W0 := W0) (W := W) (W4 := W4) (ry := ry) (y := y) (b0 := .int .i64 22) (b1 := .int .i64 0) (b2 := .int .i64 0) (b3 := .string ⟨#[]⟩) (b4 := .bool false) (b5 := .string ⟨#[]⟩) (b6 := .string ⟨#[]⟩) (b7 := .int .i64 0) (b8 := .int .i64 0) (b9 := .bool false) (b10 := .bool false) (b11 := .slice (some ⟨W.heap.size, 0, none⟩) 2 2) (by decide) hpw rfl hE hbE hb0 hx hxs hR hsn hsN hgo hf hn hg4 h1 h2 h3 h4 h5 (cs := cs) hcat h6 rfl
          have cE := Rg.blk_cells hEW2
          simp only [XR.cells] at cE
          have LA : Hid (lenAt p wr = s.size) := hid (lenAt_ps hps)
          have HQ := hid (fun W0 (h : Gr w4 W0) => hq s.step W0 (hps4.keep h) (by omega))
          have hE2l : E < w4.heap.size := Nat.lt_of_lt_of_le hEl hg4.size
          have hpE : E ≠ p := by omega
          have H0 := hid hEW2
          have HNX := hid NX
          clear NX hEW2 hps4 hps hx hxs hR hbE hb0 hgo hg4 hB2 e2 hf
          go_wp2_with fail
          refine Rg.region_chain 3 [2] [] (Late 2 w4 (fun W0 u W => Rx p W0 (q s.step) u W)) [some (.agg #[.int .i64 r.h.op, .int .i64 r.h.v.t, .int .i64 r.h.v.n, .string r.h.v.s, .bool r.h.v.b, .string r.h.tab, .string r.h.name, .int .i64 r.h.t, .int .i64 r.h.c, .bool r.h.nt, .bool r.h.st, .slice r.oa r.n r.cap]), some (.pointer (some ⟨p, 0, none⟩)), none]
            (fun v => late0 ((Gr.refl _).drew)) (by kernel_rfl) (by kernel_rfl) (by kernel_rfl) (by kernel_rfl) (fun _ _ d _ _ h => by cases d <;> exact h) ?_
          intro OPS _ v
          simp only [List.take_succ_cons, List.take_zero, Rg.wpC, Option.getD_some, Option.getD_none, Act.put, List.setIfInBounds_toArray, List.set_cons_zero, List.set_cons_succ, show List.contains [2] 0 = false from rfl, show List.contains [2] 1 = false from rfl, show List.contains [2] 2 = true from rfl, Bool.false_eq_true, if_false, if_true, Nat.reduceAdd]
          refine ⟨?_, ?_, ?_, ?_⟩
          · refine sc_still (by rfl) (by rfl) (fun s' W _ hS => ?_)
            have hg := late_any (fun _ _ _ h => Rx.go h) hS
            have cW : ∀ i, W.cell? ⟨E, i, none⟩ = (#[.int .i64 r.h.op, .int .i64 r.h.v.t, .int .i64 r.h.v.n, .string r.h.v.s, .bool r.h.v.b, .string r.h.tab, .string r.h.name, .int .i64 r.h.t, .int .i64 r.h.c, .bool r.h.nt, .bool r.h.st, .slice r.oa r.n r.cap] : Array Value)[i]? := fun i => by rw [hg.cell hE2l hpE]; exact cE i
            go_simp
          · refine sc_still (by rfl) (by rfl) (fun s' W _ hS => ?_)
            go_simp
          · refine sc_new (by rfl) (by rfl) (fun W hS => ?_)
            have hg := late_0 hS
            go_simp
            refine (HQ.out W hg).mono ?_
            rintro e w' ⟨u, rfl, hu⟩
            exact ⟨u, rfl, late1 ⟨W, hg, by rw [upd_same]; exact hu⟩⟩
          · intro W hS
            have hgW := late_any (fun _ _ _ h => Rx.go h) hS
            obtain ⟨W0, hg0, hRx⟩ := late_1 hS
            generalize v 2 = vv at *
            obtain ⟨ry, y, rfl, hy, hpy, hgy, hyg⟩ := hRx
            simp only [List.drop_succ_cons, List.drop_zero]
            have NX2 := hid (fun W4 => HNX.out W0 W W4 ry y hg0 hy hpy hgy hyg _ rfl)
            have hEW := (hgW.get hE2l hpE).trans H0.out
            have hElW : E < W.heap.size := (Array.getElem?_eq_some_iff.1 hEW).1
            clear hg0 hy hpy hgy hyg HNX HQ hgW hS
            unfold XR.val
            go_wp2_with fail
            refine (tree_any _ _ _ _ _).mono ?_
            rintro e W4 ⟨rfl, h4⟩
            obtain ⟨hnx, hlt⟩ := NX2.out W4 h4
            have HX := hid hnx
            have hE4 : W4.heap[E]? = some (.cells #[.int .i64 r.h.op, .int .i64 r.h.v.t, .int .i64 r.h.v.n, .string r.h.v.s, .bool r.h.v.b, .string r.h.tab, .string r.h.name, .int .i64 r.h.t, .int .i64 r.h.c, .bool r.h.nt, .bool r.h.st, .slice r.oa r.n r.cap] 26) := by rw [h4.block _ (by simp; omega)]; rw [((Gr.refl W).alloc _).block _ hElW]; exact hEW
            have c4 := Rg.blk_cells hE4
            have f4 := Rg.blk_free hE4
            clear hnx NX2 h4 hEW hE4 H0
            unfold XR.val
            go_wp2
            exact ⟨HX.out, by rw [LA.out]; exact hlt⟩
        | false =>
          have e2 : (s.may 4 ⟨#[37]⟩).2 = s := by simp [Ps.may, hB2]
          rw [e2] at hps4
          clear e2
          have h0W : w4.heap[w.heap.size]? = _ := (hg4.get (by omega) (by omega)).trans hb0
          have hEW2 : w4.heap[E]? = _ := (hg4.get hEl (by omega)).trans hbE
          have FI := hid (LfRel.done (E := E) hpw rfl hx hxs hR hgo (by simp [hB0, hB1, hB2]) hg4 hps4)
          have cE := Rg.blk_cells hEW2
          have c0 := Rg.blk_cells h0W
          simp only [XR.cells] at c0 cE h0W
          have f0 := Rg.blk_free h0W
          have hz2 := hg4.size
          clear hEW2 hps4 hps hgo hg4 hx hxs hR hbE hb0
          go_wp2
          (try change bodyPost _ _ _ _ _ _)
          generalize hW5 : World.setCell _ _ _ = W5
          have hT := cells12 h0W hW5
          have hF := Rx.at12 FI.out hW5
          clear hW5 h0W FI
          refine bodyPost_ret (v := XR.val r) (by simp [results, Tryz.results121, go_sem, XR.val, nul, hT]; try rfl) rfl ⟨_, rfl, hF⟩
set_option maxHeartbeats 4000000 in
set_option maxRecDepth 100000 in
theorem sum_any (q : Pa Ex) (p N : Nat) (hq : Rd 121 q p N) (hn : NI q) : Rd 102 (sums q) p N := by
  intro s w hS hsN
  have hpw := hS.lt
  have hS0 := fun o => hS.keep ((Gr.refl w).alloc o)
  obtain ⟨R, hR⟩ : ∃ R, sums q s = R := ⟨_, rfl⟩
  rw [hR]
  have HR := hid hR
  clear hR
  go_enter Tryz.func102, Tryz.ntmps102
  go_wp2_with fail
  refine (hq s _ (hS0 _) hsN).mono ?_
  rintro e w1 ⟨u, rfl, r, x, rfl, hx, hps, hgo, hgd⟩
  have hst := hid (LfRel.start hpw hx hps hgo hgd hn hsN HR.out)
  have hz1 := hgo.size
  simp only [World.size_alloc] at hz1
  clear hx hps hgo hgd hS0 HR
  unfold XR.val
  go_wp2_with fail
  generalize Value.agg _ = uu
  have hE : w.heap.size < w1.heap.size := by omega
  generalize w1.heap.size = E at *
  go_loopw [] (fun wr => LfRel [(⟨#[43]⟩, 18), (⟨#[45]⟩, 19), (⟨#[124, 124]⟩, 23)] 4 q p N w w.heap.size E R wr) (fun wr => lenAt p wr)
  · exact hst.out
  · clear hst
    obtain ⟨r, x, x0, s, n, hbE, hb0, hx, hxs, hR, hsn, hsN, hps, hgo⟩ := hrel
    have hEl : E < wr.heap.size := (Array.getElem?_eq_some_iff.1 hbE).1
    have hg1 := Go1.refl p wr
    have hps1 := hps
    go_wp2_with fail
    refine (sign_any' p ⟨#[43]⟩ s wr hps1).mono ?_
    rintro e w2 ⟨rfl, hps2, ht2⟩
    have hg2 := hg1.trans ht2
    clear ht2 hg1 hps1
    cases hB0 : s.is 4 ⟨#[43]⟩ with
    | true =>
      have e2 : (s.may 4 ⟨#[43]⟩).2 = s.step := by simp [Ps.may, hB0]
      rw [e2] at hps2
      have hf : (([(⟨#[43]⟩, 18), (⟨#[45]⟩, 19), (⟨#[124, 124]⟩, 23)]) : List (ByteArray × Int)).find? (fun o => s.is 4 o.1) = some (⟨#[43]⟩, 18) := by simp [hB0]
      obtain ⟨hs1, hs2, hs3⟩ := is_step hB0 (by decide)
      have hEW2 : w2.heap[E]? = _ := (hg2.get hEl (by omega)).trans hbE
      have NX := fun W0 W W4 ry y (h1 : Gr w2 W0) h2 h3 h4 h5 cs hcat h6 => LfRel.next (W0 := W0) (W := W) (W4 := W4) (ry := ry) (y := y) (b0 := .int .i64 18) (b1 := .int .i64 0) (b2 := .int .i64 0) (b3 := .string ⟨#[]⟩) (b4 := .bool false) (b5 := .string ⟨#[]⟩) (b6 := .string ⟨#[]⟩) (b7 := .int .i64 0) (b8 := .int .i64 0) (b9 := .bool false) (b10 := .bool false) (b11 := .slice (some ⟨W.heap.size, 0, none⟩) 2 2) (by decide) hpw rfl hE hbE hb0 hx hxs hR hsn hsN hgo hf hn hg2 h1 h2 h3 h4 h5 (cs := cs) hcat h6 rfl
      have cE := Rg.blk_cells hEW2
      simp only [XR.cells] at cE
      have LA : Hid (lenAt p wr = s.size) := hid (lenAt_ps hps)
      have HQ := hid (fun W0 (h : Gr w2 W0) => hq s.step W0 (hps2.keep h) (by omega))
      have hE2l : E < w2.heap.size := Nat.lt_of_lt_of_le hEl hg2.size
      have hpE : E ≠ p := by omega
      have H0 := hid hEW2
      have HNX := hid NX
      clear NX hEW2 hps2 hps hx hxs hR hbE hb0 hgo hg2 hB0 e2 hf
      go_wp2_with fail
      refine Rg.region_chain 3 [2] [] (Late 2 w2 (fun W0 u W => Rx p W0 (q s.step) u W)) [some (.agg #[.int .i64 r.h.op, .int .i64 r.h.v.t, .int .i64 r.h.v.n, .string r.h.v.s, .bool r.h.v.b, .string r.h.tab, .string r.h.name, .int .i64 r.h.t, .int .i64 r.h.c, .bool r.h.nt, .bool r.h.st, .slice r.oa r.n r.cap]), some (.pointer (some ⟨p, 0, none⟩)), none]
        (fun v => late0 ((Gr.refl _).drew)) (by kernel_rfl) (by kernel_rfl) (by kernel_rfl) (by kernel_rfl) (fun _ _ d _ _ h => by cases d <;> exact h) ?_
      intro OPS _ v
      simp only [List.take_succ_cons, List.take_zero, Rg.wpC, Option.getD_some, Option.getD_none, Act.put, List.setIfInBounds_toArray, List.set_cons_zero, List.set_cons_succ, show List.contains [2] 0 = false from rfl, show List.contains [2] 1 = false from rfl, show List.contains [2] 2 = true from rfl, Bool.false_eq_true, if_false, if_true, Nat.reduceAdd]
      refine ⟨?_, ?_, ?_, ?_⟩
      · refine sc_still (by rfl) (by rfl) (fun s' W _ hS => ?_)
        have hg := late_any (fun _ _ _ h => Rx.go h) hS
        have cW : ∀ i, W.cell? ⟨E, i, none⟩ = (#[.int .i64 r.h.op, .int .i64 r.h.v.t, .int .i64 r.h.v.n, .string r.h.v.s, .bool r.h.v.b, .string r.h.tab, .string r.h.name, .int .i64 r.h.t, .int .i64 r.h.c, .bool r.h.nt, .bool r.h.st, .slice r.oa r.n r.cap] : Array Value)[i]? := fun i => by rw [hg.cell hE2l hpE]; exact cE i
        go_simp
      · refine sc_still (by rfl) (by rfl) (fun s' W _ hS => ?_)
        go_simp
      · refine sc_new (by rfl) (by rfl) (fun W hS => ?_)
        have hg := late_0 hS
        go_simp
        refine (HQ.out W hg).mono ?_
        rintro e w' ⟨u, rfl, hu⟩
        exact ⟨u, rfl, late1 ⟨W, hg, by rw [upd_same]; exact hu⟩⟩
      · intro W hS
        have hgW := late_any (fun _ _ _ h => Rx.go h) hS
        obtain ⟨W0, hg0, hRx⟩ := late_1 hS
        generalize v 2 = vv at *
        obtain ⟨ry, y, rfl, hy, hpy, hgy, hyg⟩ := hRx
        simp only [List.drop_succ_cons, List.drop_zero]
        have NX2 := hid (fun W4 => HNX.out W0 W W4 ry y hg0 hy hpy hgy hyg _ rfl)
        have hEW := (hgW.get hE2l hpE).trans H0.out
        have hElW : E < W.heap.size := (Array.getElem?_eq_some_iff.1 hEW).1
        clear hg0 hy hpy hgy hyg HNX HQ hgW hS
        unfold XR.val
        go_wp2_with fail
        refine (tree_any _ _ _ _ _).mono ?_
        rintro e W4 ⟨rfl, h4⟩
        obtain ⟨hnx, hlt⟩ := NX2.out W4 h4
        have HX := hid hnx
        have hE4 : W4.heap[E]? = some (.cells #[.int .i64 r.h.op, .int .i64 r.h.v.t, .int .i64 r.h.v.n, .string r.h.v.s, .bool r.h.v.b, .string r.h.tab, .string r.h.name, .int .i64 r.h.t, .int .i64 r.h.c, .bool r.h.nt, .bool r.h.st, .slice r.oa r.n r.cap] 26) := by rw [h4.block _ (by simp; omega)]; rw [((Gr.refl W).alloc _).block _ hElW]; exact hEW
        have c4 := Rg.blk_cells hE4
        have f4 := Rg.blk_free hE4
        clear hnx NX2 h4 hEW hE4 H0
        unfold XR.val
        go_wp2
        exact ⟨HX.out, by rw [LA.out]; exact hlt⟩
    | false =>
      have e2 : (s.may 4 ⟨#[43]⟩).2 = s := by simp [Ps.may, hB0]
      rw [e2] at hps2
      clear e2
      go_wp2_with fail
      refine (sign_any' p ⟨#[45]⟩ s w2 hps2).mono ?_
      rintro e w3 ⟨rfl, hps3, ht3⟩
      have hg3 := hg2.trans ht3
      clear ht3 hg2 hps2
      cases hB1 : s.is 4 ⟨#[45]⟩ with
      | true =>
        have e2 : (s.may 4 ⟨#[45]⟩).2 = s.step := by simp [Ps.may, hB1]
        rw [e2] at hps3
        have hf : (([(⟨#[43]⟩, 18), (⟨#[45]⟩, 19), (⟨#[124, 124]⟩, 23)]) : List (ByteArray × Int)).find? (fun o => s.is 4 o.1) = some (⟨#[45]⟩, 19) := by simp [hB0, hB1]
        obtain ⟨hs1, hs2, hs3⟩ := is_step hB1 (by decide)
        have hEW2 : w3.heap[E]? = _ := (hg3.get hEl (by omega)).trans hbE
        have NX := fun W0 W W4 ry y (h1 : Gr w3 W0) h2 h3 h4 h5 cs hcat h6 => LfRel.next (W0 := W0) (W := W) (W4 := W4) (ry := ry) (y := y) (b0 := .int .i64 19) (b1 := .int .i64 0) (b2 := .int .i64 0) (b3 := .string ⟨#[]⟩) (b4 := .bool false) (b5 := .string ⟨#[]⟩) (b6 := .string ⟨#[]⟩) (b7 := .int .i64 0) (b8 := .int .i64 0) (b9 := .bool false) (b10 := .bool false) (b11 := .slice (some ⟨W.heap.size, 0, none⟩) 2 2) (by decide) hpw rfl hE hbE hb0 hx hxs hR hsn hsN hgo hf hn hg3 h1 h2 h3 h4 h5 (cs := cs) hcat h6 rfl
        have cE := Rg.blk_cells hEW2
        simp only [XR.cells] at cE
        have LA : Hid (lenAt p wr = s.size) := hid (lenAt_ps hps)
        have HQ := hid (fun W0 (h : Gr w3 W0) => hq s.step W0 (hps3.keep h) (by omega))
        have hE2l : E < w3.heap.size := Nat.lt_of_lt_of_le hEl hg3.size
        have hpE : E ≠ p := by omega
        have H0 := hid hEW2
        have HNX := hid NX
        clear NX hEW2 hps3 hps hx hxs hR hbE hb0 hgo hg3 hB1 e2 hf
        go_wp2_with fail
        refine Rg.region_chain 3 [2] [] (Late 2 w3 (fun W0 u W => Rx p W0 (q s.step) u W)) [some (.agg #[.int .i64 r.h.op, .int .i64 r.h.v.t, .int .i64 r.h.v.n, .string r.h.v.s, .bool r.h.v.b, .string r.h.tab, .string r.h.name, .int .i64 r.h.t, .int .i64 r.h.c, .bool r.h.nt, .bool r.h.st, .slice r.oa r.n r.cap]), some (.pointer (some ⟨p, 0, none⟩)), none]
          (fun v => late0 ((Gr.refl _).drew)) (by kernel_rfl) (by kernel_rfl) (by kernel_rfl) (by kernel_rfl) (fun _ _ d _ _ h => by cases d <;> exact h) ?_
        intro OPS _ v
        simp only [List.take_succ_cons, List.take_zero, Rg.wpC, Option.getD_some, Option.getD_none, Act.put, List.setIfInBounds_toArray, List.set_cons_zero, List.set_cons_succ, show List.contains [2] 0 = false from rfl, show List.contains [2] 1 = false from rfl, show List.contains [2] 2 = true from rfl, Bool.false_eq_true, if_false, if_true, Nat.reduceAdd]
        refine ⟨?_, ?_, ?_, ?_⟩
        · refine sc_still (by rfl) (by rfl) (fun s' W _ hS => ?_)
          have hg := late_any (fun _ _ _ h => Rx.go h) hS
          have cW : ∀ i, W.cell? ⟨E, i, none⟩ = (#[.int .i64 r.h.op, .int .i64 r.h.v.t, .int .i64 r.h.v.n, .string r.h.v.s, .bool r.h.v.b, .string r.h.tab, .string r.h.name, .int .i64 r.h.t, .int .i64 r.h.c, .bool r.h.nt, .bool r.h.st, .slice r.oa r.n r.cap] : Array Value)[i]? := fun i => by rw [hg.cell hE2l hpE]; exact cE i
          go_simp
        · refine sc_still (by rfl) (by rfl) (fun s' W _ hS => ?_)
          go_simp
        · refine sc_new (by rfl) (by rfl) (fun W hS => ?_)
          have hg := late_0 hS
          go_simp
          refine (HQ.out W hg).mono ?_
          rintro e w' ⟨u, rfl, hu⟩
          exact ⟨u, rfl, late1 ⟨W, hg, by rw [upd_same]; exact hu⟩⟩
        · intro W hS
          have hgW := late_any (fun _ _ _ h => Rx.go h) hS
          obtain ⟨W0, hg0, hRx⟩ := late_1 hS
          generalize v 2 = vv at *
          obtain ⟨ry, y, rfl, hy, hpy, hgy, hyg⟩ := hRx
          simp only [List.drop_succ_cons, List.drop_zero]
          have NX2 := hid (fun W4 => HNX.out W0 W W4 ry y hg0 hy hpy hgy hyg _ rfl)
          have hEW := (hgW.get hE2l hpE).trans H0.out
          have hElW : E < W.heap.size := (Array.getElem?_eq_some_iff.1 hEW).1
          clear hg0 hy hpy hgy hyg HNX HQ hgW hS
          unfold XR.val
          go_wp2_with fail
          refine (tree_any _ _ _ _ _).mono ?_
          rintro e W4 ⟨rfl, h4⟩
          obtain ⟨hnx, hlt⟩ := NX2.out W4 h4
          have HX := hid hnx
          have hE4 : W4.heap[E]? = some (.cells #[.int .i64 r.h.op, .int .i64 r.h.v.t, .int .i64 r.h.v.n, .string r.h.v.s, .bool r.h.v.b, .string r.h.tab, .string r.h.name, .int .i64 r.h.t, .int .i64 r.h.c, .bool r.h.nt, .bool r.h.st, .slice r.oa r.n r.cap] 26) := by rw [h4.block _ (by simp; omega)]; rw [((Gr.refl W).alloc _).block _ hElW]; exact hEW
          have c4 := Rg.blk_cells hE4
          have f4 := Rg.blk_free hE4
          clear hnx NX2 h4 hEW hE4 H0
          unfold XR.val
          go_wp2
          exact ⟨HX.out, by rw [LA.out]; exact hlt⟩
      | false =>
        have e2 : (s.may 4 ⟨#[45]⟩).2 = s := by simp [Ps.may, hB1]
        rw [e2] at hps3
        clear e2
        go_wp2_with fail
        refine (sign_any' p ⟨#[124, 124]⟩ s w3 hps3).mono ?_
        rintro e w4 ⟨rfl, hps4, ht4⟩
        have hg4 := hg3.trans ht4
        clear ht4 hg3 hps3
        cases hB2 : s.is 4 ⟨#[124, 124]⟩ with
        | true =>
          have e2 : (s.may 4 ⟨#[124, 124]⟩).2 = s.step := by simp [Ps.may, hB2]
          rw [e2] at hps4
          have hf : (([(⟨#[43]⟩, 18), (⟨#[45]⟩, 19), (⟨#[124, 124]⟩, 23)]) : List (ByteArray × Int)).find? (fun o => s.is 4 o.1) = some (⟨#[124, 124]⟩, 23) := by simp [hB0, hB1, hB2]
          obtain ⟨hs1, hs2, hs3⟩ := is_step hB2 (by decide)
          have hEW2 : w4.heap[E]? = _ := (hg4.get hEl (by omega)).trans hbE
          have NX := fun W0 W W4 ry y (h1 : Gr w4 W0) h2 h3 h4 h5 cs hcat h6 => LfRel.next (W0 := W0) (W := W) (W4 := W4) (ry := ry) (y := y) (b0 := .int .i64 23) (b1 := .int .i64 0) (b2 := .int .i64 0) (b3 := .string ⟨#[]⟩) (b4 := .bool false) (b5 := .string ⟨#[]⟩) (b6 := .string ⟨#[]⟩) (b7 := .int .i64 0) (b8 := .int .i64 0) (b9 := .bool false) (b10 := .bool false) (b11 := .slice (some ⟨W.heap.size, 0, none⟩) 2 2) (by decide) hpw rfl hE hbE hb0 hx hxs hR hsn hsN hgo hf hn hg4 h1 h2 h3 h4 h5 (cs := cs) hcat h6 rfl
          have cE := Rg.blk_cells hEW2
          simp only [XR.cells] at cE
          have LA : Hid (lenAt p wr = s.size) := hid (lenAt_ps hps)
          have HQ := hid (fun W0 (h : Gr w4 W0) => hq s.step W0 (hps4.keep h) (by omega))
          have hE2l : E < w4.heap.size := Nat.lt_of_lt_of_le hEl hg4.size
          have hpE : E ≠ p := by omega
          have H0 := hid hEW2
          have HNX := hid NX
          clear NX hEW2 hps4 hps hx hxs hR hbE hb0 hgo hg4 hB2 e2 hf
          go_wp2_with fail
          refine Rg.region_chain 3 [2] [] (Late 2 w4 (fun W0 u W => Rx p W0 (q s.step) u W)) [some (.agg #[.int .i64 r.h.op, .int .i64 r.h.v.t, .int .i64 r.h.v.n, .string r.h.v.s, .bool r.h.v.b, .string r.h.tab, .string r.h.name, .int .i64 r.h.t, .int .i64 r.h.c, .bool r.h.nt, .bool r.h.st, .slice r.oa r.n r.cap]), some (.pointer (some ⟨p, 0, none⟩)), none]
            (fun v => late0 ((Gr.refl _).drew)) (by kernel_rfl) (by kernel_rfl) (by kernel_rfl) (by kernel_rfl) (fun _ _ d _ _ h => by cases d <;> exact h) ?_
          intro OPS _ v
          simp only [List.take_succ_cons, List.take_zero, Rg.wpC, Option.getD_some, Option.getD_none, Act.put, List.setIfInBounds_toArray, List.set_cons_zero, List.set_cons_succ, show List.contains [2] 0 = false from rfl, show List.contains [2] 1 = false from rfl, show List.contains [2] 2 = true from rfl, Bool.false_eq_true, if_false, if_true, Nat.reduceAdd]
          refine ⟨?_, ?_, ?_, ?_⟩
          · refine sc_still (by rfl) (by rfl) (fun s' W _ hS => ?_)
            have hg := late_any (fun _ _ _ h => Rx.go h) hS
            have cW : ∀ i, W.cell? ⟨E, i, none⟩ = (#[.int .i64 r.h.op, .int .i64 r.h.v.t, .int .i64 r.h.v.n, .string r.h.v.s, .bool r.h.v.b, .string r.h.tab, .string r.h.name, .int .i64 r.h.t, .int .i64 r.h.c, .bool r.h.nt, .bool r.h.st, .slice r.oa r.n r.cap] : Array Value)[i]? := fun i => by rw [hg.cell hE2l hpE]; exact cE i
            go_simp
          · refine sc_still (by rfl) (by rfl) (fun s' W _ hS => ?_)
            go_simp
          · refine sc_new (by rfl) (by rfl) (fun W hS => ?_)
            have hg := late_0 hS
            go_simp
            refine (HQ.out W hg).mono ?_
            rintro e w' ⟨u, rfl, hu⟩
            exact ⟨u, rfl, late1 ⟨W, hg, by rw [upd_same]; exact hu⟩⟩
          · intro W hS
            have hgW := late_any (fun _ _ _ h => Rx.go h) hS
            obtain ⟨W0, hg0, hRx⟩ := late_1 hS
            generalize v 2 = vv at *
            obtain ⟨ry, y, rfl, hy, hpy, hgy, hyg⟩ := hRx
            simp only [List.drop_succ_cons, List.drop_zero]
            have NX2 := hid (fun W4 => HNX.out W0 W W4 ry y hg0 hy hpy hgy hyg _ rfl)
            have hEW := (hgW.get hE2l hpE).trans H0.out
            have hElW : E < W.heap.size := (Array.getElem?_eq_some_iff.1 hEW).1
            clear hg0 hy hpy hgy hyg HNX HQ hgW hS
            unfold XR.val
            go_wp2_with fail
            refine (tree_any _ _ _ _ _).mono ?_
            rintro e W4 ⟨rfl, h4⟩
            obtain ⟨hnx, hlt⟩ := NX2.out W4 h4
            have HX := hid hnx
            have hE4 : W4.heap[E]? = some (.cells #[.int .i64 r.h.op, .int .i64 r.h.v.t, .int .i64 r.h.v.n, .string r.h.v.s, .bool r.h.v.b, .string r.h.tab, .string r.h.name, .int .i64 r.h.t, .int .i64 r.h.c, .bool r.h.nt, .bool r.h.st, .slice r.oa r.n r.cap] 26) := by rw [h4.block _ (by simp; omega)]; rw [((Gr.refl W).alloc _).block _ hElW]; exact hEW
            have c4 := Rg.blk_cells hE4
            have f4 := Rg.blk_free hE4
            clear hnx NX2 h4 hEW hE4 H0
            unfold XR.val
            go_wp2
            exact ⟨HX.out, by rw [LA.out]; exact hlt⟩
        | false =>
          have e2 : (s.may 4 ⟨#[124, 124]⟩).2 = s := by simp [Ps.may, hB2]
          rw [e2] at hps4
          clear e2
          have h0W : w4.heap[w.heap.size]? = _ := (hg4.get (by omega) (by omega)).trans hb0
          have hEW2 : w4.heap[E]? = _ := (hg4.get hEl (by omega)).trans hbE
          have FI := hid (LfRel.done (E := E) hpw rfl hx hxs hR hgo (by simp [hB0, hB1, hB2]) hg4 hps4)
          have cE := Rg.blk_cells hEW2
          have c0 := Rg.blk_cells h0W
          simp only [XR.cells] at c0 cE h0W
          have f0 := Rg.blk_free h0W
          have hz2 := hg4.size
          clear hEW2 hps4 hps hgo hg4 hx hxs hR hbE hb0
          go_wp2
          (try change bodyPost _ _ _ _ _ _)
          generalize hW5 : World.setCell _ _ _ = W5
          have hT := cells12 h0W hW5
          have hF := Rx.at12 FI.out hW5
          clear hW5 h0W FI
          refine bodyPost_ret (v := XR.val r) (by simp [results, Tryz.results102, go_sem, XR.val, nul, hT]; try rfl) rfl ⟨_, rfl, hF⟩
end Go.Proofs.YtbeinfhgfflneaaGreat
end
section
namespace Go.Proofs.YtbeinfhgfflneaaGreat
open Go.RowKit
set_option linter.unusedVariables false
theorem lvl_any (E : Pa Ex) (hdp : DP E) (hni : NI E) (p N : Nat) (hN : N ≤ 1000000) (hor : RdL 21 E p N) : Rd 21 (lvl E) p N := by
  have hex := exprs_less E p N hN hor hni
  have hs := single_any E hdp p N hor hex
  have ns := ni_single hni
  have ds := dp_single hdp
  have hm := minus_any (single E) p N hs ds N (Nat.le_refl _)
  have nm : NI (minuses (single E)) := fun s => ni_ahead ns _ s
  have dm : DP (minuses (single E)) := fun s => dp_ahead ds _ s
  have hp := product_any _ p N hm nm
  have np : NI (prods (minuses (single E))) := ni_left nm
  have dpp : DP (prods (minuses (single E))) := dp_left dm
  have hsu := sum_any _ p N hp np
  have nsu : NI (sums (prods (minuses (single E)))) := ni_left np
  have dsu : DP (sums (prods (minuses (single E)))) := dp_left dpp
  have hl := list_any E hdp p N hex
  have hc := compare_any _ E p N hN hsu nsu hni hl dsu
  have nc := ni_compares nsu hni
  have dc := dp_compares dsu hdp
  have hn := not_any _ p N hc dc N (Nat.le_refl _)
  have nn : NI (nots (compares (sums (prods (minuses (single E)))) E)) := fun s => ni_ahead nc _ s
  have ha := and_any _ p N hn nn
  have na : NI (ands (nots (compares (sums (prods (minuses (single E)))) E))) := ni_left nn
  exact or_any _ p N ha na
theorem or_rec (p : Nat) : ∀ N, N ≤ 1000000 → Rd 21 (expr N) p N
  | 0, h => lvl_any _ (fun s => .refl _) (fun s => Nat.le_refl _) p 0 h (fun s w hS hs => absurd hs (Nat.not_lt_zero _))
  | N + 1, h => lvl_any _ (dp_expr N) (ni_expr N) p (N + 1) h (fun s w hS hs => or_rec p N (by omega) s w hS (by omega))
theorem expr_any (p N : Nat) (hN : N ≤ 1000000) : Rd 21 exprS p N := fun s w hS hs => or_rec p s.size (by omega) s w hS (Nat.le_refl _)
end Go.Proofs.YtbeinfhgfflneaaGreat
end
section
namespace Go.Proofs.YtbeinfhgfflneaaGreat
set_option linter.unusedVariables false
open Lx
theorem quote_len : ∀ (l : List UInt8) (x : List UInt8 × Nat), quoteL l = some x → x.1.length ≤ l.length
  | [], x, h => by simp [quoteL] at h
  | c :: r, x, h => by
    unfold quoteL at h
    split at h
    · cases r with
      | nil => simp at h; subst h; simp
      | cons d r' =>
        simp only at h
        split at h
        · cases hq : quoteL r' with
          | none => rw [hq] at h; simp at h
          | some y =>
            rw [hq] at h; simp at h; subst h
            have := quote_len r' y hq
            simp; omega
        · simp at h; subst h; simp
    · cases hq : quoteL r with
      | none => rw [hq] at h; simp at h
      | some y =>
        rw [hq] at h; simp at h; subst h
        have := quote_len r y hq
        simp; omega
theorem one_len (r : List UInt8) (t : Tk) (n : Nat) (h : oneTok r = some (t, n)) : t.text.length ≤ r.length ∧ t.kind ≠ 5 := by
  cases r with
  | nil => simp [oneTok] at h
  | cons c r =>
    change (if letterB c then wordL (c :: r) else if digitB c then numberL (c :: r) else if c.toNat = 39 then textL r else signL (c :: r)) = some (t, n) at h
    split at h
    · unfold wordL at h
      simp only at h
      split at h
      · simp at h
        obtain ⟨rfl, rfl⟩ := h
        refine ⟨?_, by simp⟩
        simp; omega
      · cases h
    · split at h
      · unfold numberL at h
        simp only at h
        split at h
        · simp at h
          obtain ⟨rfl, rfl⟩ := h
          exact ⟨by simp, by simp⟩
        · cases h
      · split at h
        · unfold textL at h
          cases hq : quoteL r with
          | none => rw [hq] at h; simp at h
          | some x =>
            rw [hq] at h; simp at h
            obtain ⟨rfl, rfl⟩ := h
            have := quote_len r x hq
            exact ⟨by simp; omega, by simp⟩
        · cases r with
          | nil =>
            change (if oneSign c then some (⟨4, [c], 0⟩, 1) else none) = some (t, n) at h
            split at h
            · simp at h; obtain ⟨rfl, rfl⟩ := h; exact ⟨by simp, by simp⟩
            · cases h
          | cons d r =>
            change (if twoSign c d then some (⟨4, [c, d], 0⟩, 2) else if oneSign c then some (⟨4, [c], 0⟩, 1) else none) = some (t, n) at h
            split at h
            · simp at h; obtain ⟨rfl, rfl⟩ := h; exact ⟨by simp, by simp⟩
            · split at h
              · simp at h; obtain ⟨rfl, rfl⟩ := h; exact ⟨by simp, by simp⟩
              · cases h
theorem lexN_ok (s : List UInt8) (hs : s.length ≤ 4096) : ∀ (f pos : Nat) (acc l : List Tok), (∀ t ∈ acc, t.tk.text.length ≤ 4096) → lexN f s pos acc = .good l → TokOk l
  | 0, pos, acc, l, ha, h => by simp [lexN] at h
  | f + 1, pos, acc, l, ha, h => by
    unfold lexN at h
    simp only at h
    split at h
    · simp at h
      subst h
      refine ⟨⟨acc, _, rfl, rfl⟩, fun t ht => ?_⟩
      rcases List.mem_append.1 ht with h1 | h1
      · exact ha t h1
      · simp at h1; subst h1; simp
    · split at h
      · exact lexN_ok s hs f _ acc l ha h
      · split at h
        · cases h
        · rename_i t n ho
          refine lexN_ok s hs f _ _ l (fun x hx => ?_) h
          rcases List.mem_append.1 hx with h1 | h1
          · exact ha x h1
          · simp at h1
            subst h1
            have := (one_len _ _ _ ho).1
            simp at this
            show t.text.length ≤ 4096
            omega
theorem lexAll_ok (s : List UInt8) (hs : s.length ≤ 4096) (l : List Tok) (h : lexAll s = .good l) : TokOk l := lexN_ok s hs _ _ _ _ (fun t ht => by simp at ht) h
end Go.Proofs.YtbeinfhgfflneaaGreat
end
section
namespace Go.Proofs.YtbeinfhgfflneaaGreat
open Go.RowKit
set_option linter.unusedSimpArgs false
set_option linter.unusedVariables false
def readS (s : ByteArray) : Ps := if 4096 < s.size then .bad 2 0 else match Lx.lexAll s.data.toList with
  | .good l => .ok l 0
  | .bad p => .bad 180 p
def BeginP (s : ByteArray) (w : World) (e : Ending) (w' : World) : Prop := Gr w w' ∧ match readS s with
  | .ok l d => d = 0 ∧ TokOk l ∧ l.length ≤ 4097 ∧ ∃ p, w.heap.size ≤ p ∧ e = .returned (.tuple #[.pointer (some ⟨p, 0, none⟩), .int .i64 0, .int .i64 0]) ∧ PS p w' (.ok l 0)
  | .bad x a => x ≠ 0 ∧ e = .returned (.tuple #[.pointer none, .int .i64 x, .int .i64 (a : Int)])
theorem row_of {α : Type} {f : α → List Value} {n : Nat} (hE : Enc f n) {w : World} {g : Nat} {l : List α} (h : ∀ j u, (cellsF f l)[j]? = some u → w.cell? ⟨g, j, none⟩ = some u) : RowF f n w g 0 l := by
  intro k hk j u hu
  have hj : j < n := by rw [← hE.len l[k]]; exact (List.getElem?_eq_some_iff.1 hu).1
  rw [Nat.zero_add]
  exact h _ _ (by rw [hE.cells_get l k hk j hj]; exact hu)
theorem lexN_len (s : List UInt8) : ∀ (f pos : Nat) (acc l : List Lx.Tok), Lx.lexN f s pos acc = .good l → l.length ≤ acc.length + f
  | 0, pos, acc, l, h => by simp [Lx.lexN] at h
  | f + 1, pos, acc, l, h => by
    unfold Lx.lexN at h
    simp only at h
    split at h
    · simp at h
      subst h
      simp
    · split at h
      · have := lexN_len s f _ acc l h; omega
      · split at h
        · cases h
        · have := lexN_len s f _ _ l h
          simp at this
          omega
set_option maxHeartbeats 4000000 in
set_option maxRecDepth 100000 in
theorem begin_long (s : ByteArray) (w : World) (hs : 4096 < s.size) (hm : s.size ≤ maxLen) : Calls Tryz.prog 20 #[.string s] w (BeginP s w) := by
  have hr : readS s = .bad 2 0 := by unfold readS; rw [if_pos hs]
  have FI : Hid (∀ w', Gr w w' → BeginP s w (.returned (.tuple #[.pointer none, .int .i64 2, .int .i64 0])) w') := hid (fun w' h => ⟨h, by rw [hr]; exact ⟨by decide, rfl⟩⟩)
  generalize BeginP s w = Q at *
  go_enter Tryz.func20, Tryz.ntmps20
  go_wp2_with fail
  refine (words_long s w hs hm).mono ?_
  rintro e w1 ⟨rfl, hg⟩
  have HQ := hid (FI.out w1 hg)
  clear hg FI hr hs hm
  go_wp2
  first
  | exact HQ.out
  | (go_ret3; exact HQ.out)
set_option maxHeartbeats 4000000 in
set_option maxRecDepth 100000 in
theorem begin_bad (s : ByteArray) (w : World) (hs : s.size ≤ 4096) (a : Nat) (ha : Lx.lexAll s.data.toList = .bad a) : Calls Tryz.prog 20 #[.string s] w (BeginP s w) := by
  have hr : readS s = .bad 180 a := by unfold readS; rw [if_neg (by omega), ha]
  have FI : Hid (∀ w', Gr w w' → BeginP s w (.returned (.tuple #[.pointer none, .int .i64 180, .int .i64 (a : Int)])) w') := hid (fun w' h => ⟨h, by rw [hr]; exact ⟨by decide, rfl⟩⟩)
  generalize BeginP s w = Q at *
  have HW := words_any s w hs
  unfold WordsPost at HW
  rw [ha] at HW
  clear ha hr
  go_enter Tryz.func20, Tryz.ntmps20
  go_wp2_with fail
  refine HW.mono ?_
  rintro e w1 ⟨hg, rfl⟩
  have HQ := hid (FI.out w1 hg)
  clear hg FI hs HW
  go_wp2
  first
  | exact HQ.out
  | (go_ret3; exact HQ.out)
set_option maxHeartbeats 4000000 in
set_option maxRecDepth 100000 in
theorem begin_good (s : ByteArray) (w : World) (hs : s.size ≤ 4096) (l : List Lx.Tok) (hl : Lx.lexAll s.data.toList = .good l) (m : Int) (hm : w.cell? ⟨0, 0, none⟩ = some (.int .i64 m)) : Calls Tryz.prog 20 #[.string s] w (BeginP s w) := by
  have hr : readS s = .ok l 0 := by unfold readS; rw [if_neg (by omega), hl]
  have hok := lexAll_ok s.data.toList (by simpa using hs) l hl
  have hlen := lexN_len _ _ _ _ _ hl
  have h0 := lt_of_cell hm
  have FI : Hid (∀ w1 g, Gr w w1 → w.heap.size ≤ g → (∀ j u, (toksCells l)[j]? = some u → w1.cell? ⟨g, j, none⟩ = some u) → BeginP s w (.returned (.tuple #[.pointer (some ⟨w1.heap.size, 0, none⟩), .int .i64 0, .int .i64 0])) (w1.alloc (.cells #[.slice (some ⟨g, 0, none⟩) l.length l.length, .int .i64 0, .int .i64 0, .int .i64 0] 69))) := hid (fun w1 g hg hgb hc => by
    have hA := (Gr.refl w1).alloc (.cells #[.slice (some ⟨g, 0, none⟩) l.length l.length, .int .i64 0, .int .i64 0, .int .i64 0] 69)
    refine ⟨hg.trans hA, ?_⟩
    rw [hr]
    have hpos := hok.pos
    have hgl : g < w1.heap.size := by
      obtain ⟨u, hu⟩ : ∃ u, (toksCells l)[0]? = some u := by
        cases l with
        | nil => simp at hpos
        | cons t r => exact ⟨_, rfl⟩
      exact lt_of_cell (hc 0 u hu)
    have hz := hg.size
    refine ⟨rfl, hok, by simp at hlen; omega, w1.heap.size, hz, rfl, by omega, ⟨⟨some ⟨g, 0, none⟩, l.length, Rg.heap_new _ _, Nat.le_refl _, .inr ⟨g, 0, rfl, by simp; omega, (row_of tE hc).keep hA⟩, fun b off q e => by cases e; exact hgl⟩, hok, ⟨m, (hg.trans hA).keep hm⟩, by omega⟩⟩)
  generalize BeginP s w = Q at *
  have HW := words_any s w hs
  unfold WordsPost at HW
  rw [hl] at HW
  clear hl hr hok hlen
  go_enter Tryz.func20, Tryz.ntmps20
  go_wp2_with fail
  refine HW.mono ?_
  rintro e w1 ⟨hg, g, hgb, rfl, hc⟩
  have HQ := hid (FI.out w1 g hg hgb hc)
  clear hg FI hs HW hc
  go_wp2
  first
  | exact HQ.out
  | (go_ret3; exact HQ.out)
theorem begin_any (s : ByteArray) (w : World) (hsz : s.size ≤ maxLen) (m : Int) (hm : w.cell? ⟨0, 0, none⟩ = some (.int .i64 m)) : Calls Tryz.prog 20 #[.string s] w (BeginP s w) := by
  by_cases hs : 4096 < s.size
  · exact begin_long s w hs hsz
  · cases hl : Lx.lexAll s.data.toList with
    | good l => exact begin_good s w (by omega) l hl m hm
    | bad a => exact begin_bad s w (by omega) a hl
end Go.Proofs.YtbeinfhgfflneaaGreat
end
section
namespace Go.Proofs.YtbeinfhgfflneaaGreat
set_option linter.unusedVariables false
theorem lefts_bad {ops : List (ByteArray × Int)} {k : Nat} {p : Pa Ex} (n : Nat) (e : Ex) (x : Int) (a : Nat) : (lefts ops k p n e (.bad x a)) = (e, .bad x a) := by
  cases n with
  | zero => rfl
  | succ n =>
    unfold lefts
    have : ops.find? (fun o => Ps.is k o.1 (.bad x a)) = none := by
      rw [List.find?_eq_none]; intro o _; simp [Ps.is]
    rw [this]
def KB {α : Type} (p : Pa α) : Prop := ∀ x a, (p (.bad x a)).2 = .bad x a
theorem kb_left {ops : List (ByteArray × Int)} {k : Nat} {p : Pa Ex} (h : KB p) : KB (left ops k p) := fun x a => by
  unfold left
  simp only
  rw [h x a, lefts_bad]
theorem kb_ahead {k : Nat} {c : ByteArray} {op : Int} {p : Pa Ex} (h : KB p) (n : Nat) : KB (ahead k c op p n) := fun x a => by
  cases n with
  | zero => exact h x a
  | succ n => unfold ahead; simp only [Ps.is, Bool.false_eq_true, if_false]; exact h x a
theorem kb_compares {p E : Pa Ex} (h : KB p) : KB (compares p E) := fun x a => by
  unfold compares
  simp only
  rw [h x a]
  rfl
theorem kb_lvl (E : Pa Ex) : KB (lvl E) := by
  have k1 : KB (single E) := fun x a => rfl
  have k2 : KB (minuses (single E)) := fun x a => kb_ahead k1 _ x a
  have k3 : KB (compares (sums (prods (minuses (single E)))) E) := kb_compares (kb_left (kb_left k2))
  have k4 : KB (nots (compares (sums (prods (minuses (single E)))) E)) := fun x a => kb_ahead k3 _ x a
  exact kb_left (kb_left k4)
theorem kb_expr (n : Nat) : KB (expr n) := by cases n <;> exact kb_lvl _
theorem kb_exprS : KB exprS := fun x a => kb_expr _ x a
theorem kb_good {α : Type} {p : Pa α} (h : KB p) {s : Ps} (hg : (p s).2.good = true) : s.good = true := by
  cases s with
  | ok l d => rfl
  | bad x a => rw [h x a] at hg; cases hg
theorem kb_sep {α : Type} {p : Pa α} (h : KB p) : KB (sep p) := fun x a => by
  unfold sep
  simp only [seps]
  rw [h x a]
  rfl
end Go.Proofs.YtbeinfhgfflneaaGreat
end
section
namespace Go.Proofs.YtbeinfhgfflneaaGreat
open Go.RowKit
set_option linter.unusedSimpArgs false
set_option linter.unusedVariables false
attribute [local go_sem] Rg.leads_value Rg.leads_skip Rg.leads_enter Rg.brings_value Rg.brings_skip Rg.brings_enter Rg.bringsG_value Rg.bringsG_enter Rg.once_normal Rg.once_exit Rg.once_ret Rg.once_panic Rg.once_goto Rg.bringsS_value Rg.bringsS_skip Rg.bringsS_enter Rg.still_value Rg.still_skip Rg.still_enter
def Ps.over (s : Ps) : Ps := if s.headK = 5 ∨ s.good = false then s else s.fail 180
def exprT (t : ByteArray) : Ex × Ps := let q := exprS (readS t); (q.1, q.2.over)
def noX : Value := .agg zeroX
def ExprP (t : ByteArray) (w : World) (e : Ending) (w' : World) : Prop := Gr w w' ∧ match (exprT t).2 with
  | .ok _ _ => ∃ r, e = .returned (.tuple #[XR.val r, .int .i64 0, .int .i64 0]) ∧ Ex.At (Nw w) w' (exprT t).1 r
  | .bad x a => x ≠ 0 ∧ e = .returned (.tuple #[noX, .int .i64 x, .int .i64 (a : Int)])
set_option maxHeartbeats 4000000 in
set_option maxRecDepth 100000 in
theorem pexpr_bad (t : ByteArray) (w : World) (x : Int) (a : Nat) (hr : readS t = .bad x a) (HB : Calls Tryz.prog 20 #[.string t] (w.alloc (.cells zeroX 26)) (BeginP t (w.alloc (.cells zeroX 26)))) : Calls Tryz.prog 13 #[.string t] w (ExprP t w) := by
  have e2 : (exprT t).2 = .bad x a := by
    unfold exprT
    rw [hr]
    simp only
    rw [kb_exprS]
    rfl
  have HX : x ≠ 0 → Hid (∀ w', Gr w w' → ExprP t w (.returned (.tuple #[noX, .int .i64 x, .int .i64 (a : Int)])) w') := fun hx => hid (fun w' h => ⟨h, by rw [e2]; exact ⟨hx, rfl⟩⟩)
  generalize ExprP t w = Q at *
  unfold BeginP at HB
  rw [hr] at HB
  clear e2 hr
  go_enter Tryz.func13, Tryz.ntmps13
  go_wp2_with fail
  refine HB.mono ?_
  rintro e w1 ⟨hg, hx, rfl⟩
  have h01 : w1.heap[w.heap.size]? = some (.cells zeroX 26 (0, 0)) := by rw [hg.block _ (by simp)]; exact alloc_at _ _
  have H01 := hid h01
  have q1 : (x != 0) = true := by simpa using hx
  have hlt : w.heap.size < w1.heap.size := (Array.getElem?_eq_some_iff.1 h01).1
  have HF : Hid (∀ W5, Go1 w.heap.size w1 W5 → Q (.returned (.tuple #[noX, .int .i64 x, .int .i64 (a : Int)])) W5) := hid (fun W5 h5 => (HX hx).out W5 ((((Gr.refl w).alloc _).trans hg).grown h5 (fun g e => by cases e; exact Nat.le_refl _)))
  clear hg HX HB h01
  go_wp2_with (guard_target =~ wpList _ _ _ (Oper.mk _ (Op.store 26 _ _) _ _ _ _ :: _) _ _; refine st_row (ty := 26) rfl rfl w.heap.size _ rfl rfl 26 _ (H01.out) (by kernel_rfl) rfl (by kernel_rfl) ?_; intro W5 hW5 gW5 zW5)
  (try change bodyPost _ _ _ _ _ _)
  have hT := Rg.blk_cells hW5
  refine bodyPost_ret (v := .tuple #[noX, .int .i64 x, .int .i64 (a : Int)]) (by simp [results, Tryz.results13, go_sem, noX, hT]; try rfl) rfl (HF.out W5 gW5)
theorem tok_head {p : Nat} {w : World} {l : List Lx.Tok} {d e a : Int} (h : PR p w l d e a) : ∃ b off n c tk, 1 ≤ n ∧ n ≤ c ∧ b < w.heap.size ∧ w.cell? ⟨p, 0, none⟩ = some (.slice (some ⟨b, off, none⟩) n c) ∧ w.cell? ⟨p, 2, none⟩ = some (.int .i64 e) ∧ w.cell? ⟨p, 3, none⟩ = some (.int .i64 a) ∧ w.cell? ⟨b, off, none⟩ = some (.int .i64 (tk : Nat)) ∧ ∀ t r, l = t :: r → t.tk.kind = tk := by
  obtain ⟨oa, cap, hh, hc, hat, hne⟩ := h.ex
  have hpos := h.tok.pos
  obtain ⟨b, off, hoa, hb, c0, c1, c2, c3⟩ := t_get hat 0 hpos
  simp only [Nat.zero_mul, Nat.add_zero] at c0
  subst hoa
  refine ⟨b, off, l.length, cap, _, hpos, hc, hb, by rw [Rg.blk_cells hh]; rfl, by rw [Rg.blk_cells hh]; rfl, by rw [Rg.blk_cells hh]; rfl, c0, fun t r e => by subst e; rfl⟩
set_option maxHeartbeats 4000000 in
set_option maxRecDepth 100000 in
theorem pexpr_good (t : ByteArray) (w : World) (l0 : List Lx.Tok) (hr : readS t = .ok l0 0) (hl0 : l0.length ≤ 4097) (l : List Lx.Tok) (d : Nat) (hq : (exprS (readS t)).2 = .ok l d) (h5 : (Ps.ok l d).headK = 5)
    (HB : Calls Tryz.prog 20 #[.string t] (w.alloc (.cells zeroX 26)) (BeginP t (w.alloc (.cells zeroX 26)))) : Calls Tryz.prog 13 #[.string t] w (ExprP t w) := by
  have e2 : exprT t = ((exprS (readS t)).1, .ok l d) := by
    unfold exprT
    simp only
    rw [hq]
    unfold Ps.over
    rw [if_pos (.inl h5)]
  have HX : Hid (∀ w' r, Gr w w' → Ex.At (Nw w) w' (exprS (readS t)).1 r → ExprP t w (.returned (.tuple #[XR.val r, .int .i64 0, .int .i64 0])) w') := hid (fun w' r h hx => ⟨h, by rw [e2]; exact ⟨r, rfl, hx⟩⟩)
  generalize ExprP t w = Q at *
  rw [hr] at hq
  have HOR := hid (fun p w' (h : PS p w' (.ok l0 0)) => expr_any p 1000000 (Nat.le_refl _) _ w' h (by show l0.length ≤ _; omega))
  unfold BeginP at HB
  rw [hr] at HB HX
  obtain ⟨q, hq0⟩ : ∃ q, exprS (.ok l0 0) = q := ⟨_, rfl⟩
  rw [hq0] at hq HX HOR
  rw [show q = (q.1, q.2) from rfl, hq] at HOR
  generalize q.1 = x0 at *
  clear e2 hr hq hq0
  go_enter Tryz.func13, Tryz.ntmps13
  go_wp2_with fail
  refine HB.mono ?_
  rintro e w1 ⟨hg, _, _, _, p, hpw, rfl, hps⟩
  have hz1 := hps.lt
  simp only [World.size_alloc] at hpw
  go_wp2_with fail
  refine (HOR.out p w1 hps).mono ?_
  rintro e w2 ⟨u, rfl, r, x, rfl, hx, hps2, hg2, hgd⟩
  have hxx : x = x0 := hgd rfl
  subst hxx
  have hz2 := hg2.size
  have hA := (Gr.refl w2).alloc (.cells r.cells 26)
  have hps3 := hps2.keep hA
  obtain ⟨b, off, n, c, tk, hn1, hnc, hbl, p0, p2, p3, b0, htk⟩ := tok_head hps3.2
  have htk5 : tk = 5 := by
    cases l with
    | nil => exact hps3.2.nil.elim
    | cons t0 r0 => rw [← htk t0 r0 rfl]; exact h5
  have q5 : ((tk : Int) != 5) = false := by rw [htk5]; rfl
  have g2 : (0 : Int) < (n : Int) := by omega
  have hp3 : p < w2.heap.size := hps2.lt
  have h02 : w2.heap[w.heap.size]? = some (.cells zeroX 26 (0, 0)) := by
    rw [hg2.get (by omega) (by omega), hg.block _ (by simp)]; exact alloc_at _ _
  have hx3 : Ex.At (fun b => w1.heap.size ≤ b ∧ b < w2.heap.size) (w2.alloc (.cells r.cells 26)) x r := (hx.mono (fun b hl hs => ⟨hs, hl⟩)).of hA.size (fun b _ hl => hA.block b hl)
  have hgw : Gr w (w2.alloc (.cells r.cells 26)) := (Go1.up (((Gr.refl w).alloc _).trans hg) hg2 (by omega)).trans hA
  have HCL := hid (fun S w' (h : Ex.At S w' x r) => clipped_any (Ex.sz x) x (Nat.le_refl _) r S w' h)
  have FI : Hid (∀ w4 W5, Cl (fun b => w1.heap.size ≤ b ∧ b < w2.heap.size) (w2.alloc (.cells r.cells 26)) w4 → Go1 w.heap.size w4 W5 → Q (.returned (.tuple #[XR.val { r with cap := r.n }, .int .i64 0, .int .i64 0])) W5) := hid (fun w4 W5 h4 h5 => by
    have g4 : Gr w w4 := h4.gr hgw (fun b hb => by have := hb.1; omega)
    refine HX.out W5 _ (g4.grown h5 (fun g e => by cases e; exact Nat.le_refl _)) ?_
    have h1 := hx3.cl h4 (r' := { r with cap := r.n }) ⟨rfl, rfl, rfl, Nat.le_refl _⟩
    exact (h1.of h5.size (fun b hb hl => h5.get hl (by have := hb.1; omega))).mono (fun b _ hb => by have := hb.1; show w.heap.size ≤ b; omega))
  have H04 : Hid (∀ w4, Cl (fun b => w1.heap.size ≤ b ∧ b < w2.heap.size) (w2.alloc (.cells r.cells 26)) w4 → w4.heap[w.heap.size]? = some (.cells zeroX 26 (0, 0))) := hid (fun w4 h4 => by
    rw [h4.block _ (by simp; omega) (fun h => by have := h.1; omega), hA.block _ (by omega)]; exact h02)
  have HX3 := hid hx3
  clear hx hps hps2 hps3 hg2 hgd hg hA hgw HX HOR HB h02 hx3 htk htk5 h5
  unfold XR.val
  go_wp2_with fail
  refine (HCL.out _ _ HX3.out).mono ?_
  rintro e w4 ⟨rfl, h4⟩
  have h04 := hid (H04.out w4 h4)
  have HF := hid (fun W5 h5 => FI.out w4 W5 h4 h5)
  clear h4 FI H04 HX3 HCL
  unfold XR.val
  go_wp2_with (guard_target =~ wpList _ _ _ (Oper.mk _ (Op.store 26 _ _) _ _ _ _ :: _) _ _; refine st_row (ty := 26) rfl rfl w.heap.size _ rfl rfl 26 _ (h04.out) (by kernel_rfl) rfl (by kernel_rfl) ?_; intro W5 hW5 gW5 zW5)
  (try change bodyPost _ _ _ _ _ _)
  have hT := Rg.blk_cells hW5
  refine bodyPost_ret (v := .tuple #[XR.val { r with cap := r.n }, .int .i64 0, .int .i64 0]) (by simp [results, Tryz.results13, go_sem, XR.val, hT]; try rfl) rfl (HF.out W5 gW5)
def ErS (R0 : Nat) (w5 : World) (s : Nat) (v : Nat → Value) (W : World) : Prop := if s = 0 then Gr w5 W else Go1 R0 w5 W ∧ W.heap[R0]? = some (.cells zeroX 26 (0, 0))
theorem ErS.s0 {R0 : Nat} {w5 W : World} {v : Nat → Value} (h : Gr w5 W) : ErS R0 w5 0 v W := by unfold ErS; rw [if_pos rfl]; exact h
theorem ErS.g0 {R0 : Nat} {w5 W : World} {v : Nat → Value} (h : ErS R0 w5 0 v W) : Gr w5 W := by unfold ErS at h; rw [if_pos rfl] at h; exact h
theorem ErS.s1 {R0 : Nat} {w5 W : World} {v : Nat → Value} (h : Go1 R0 w5 W) (hz : W.heap[R0]? = some (.cells zeroX 26 (0, 0))) : ErS R0 w5 1 v W := by unfold ErS; rw [if_neg (by decide)]; exact ⟨h, hz⟩
theorem ErS.g1 {R0 : Nat} {w5 W : World} {v : Nat → Value} (h : ErS R0 w5 1 v W) : Go1 R0 w5 W ∧ W.heap[R0]? = some (.cells zeroX 26 (0, 0)) := by unfold ErS at h; rw [if_neg (by decide)] at h; exact h
theorem ErS.go {R0 s : Nat} {w5 W : World} {v : Nat → Value} (h : ErS R0 w5 s v W) : Go1 R0 w5 W := by
  unfold ErS at h
  split at h
  · exact .of h
  · exact h.1
set_option maxHeartbeats 4000000 in
set_option maxRecDepth 100000 in
theorem pexpr_err (t : ByteArray) (w : World) (l0 : List Lx.Tok) (hr : readS t = .ok l0 0) (hl0 : l0.length ≤ 4097) (x : Int) (a : Nat) (hq : (exprT t).2 = .bad x a)
    (HB : Calls Tryz.prog 20 #[.string t] (w.alloc (.cells zeroX 26)) (BeginP t (w.alloc (.cells zeroX 26)))) : Calls Tryz.prog 13 #[.string t] w (ExprP t w) := by
  have HX0 : Hid (x ≠ 0 → ∀ w', Gr w w' → ExprP t w (.returned (.tuple #[noX, .int .i64 x, .int .i64 (a : Int)])) w') := hid (fun hx0 w' h => ⟨h, by rw [hq]; exact ⟨hx0, rfl⟩⟩)
  generalize ExprP t w = Q at *
  have hq2 : (exprS (.ok l0 0)).2.over = .bad x a := by rw [← hr]; exact hq
  have HOR := hid (fun p w' (h : PS p w' (.ok l0 0)) => expr_any p 1000000 (Nat.le_refl _) _ w' h (by show l0.length ≤ _; omega))
  unfold BeginP at HB
  rw [hr] at HB
  generalize exprS (.ok l0 0) = q at *
  clear hr hq
  go_enter Tryz.func13, Tryz.ntmps13
  go_wp2_with fail
  refine HB.mono ?_
  rintro e w1 ⟨hg, _, _, _, p, hpw, rfl, hps⟩
  have hz1 := hps.lt
  simp only [World.size_alloc] at hpw
  go_wp2_with fail
  refine (HOR.out p w1 hps).mono ?_
  rintro e w2 ⟨u, rfl, r, y, rfl, hy, hps2, hg2, hgd⟩
  have hx0 : x ≠ 0 := by
    have hq3 := hq2
    unfold Ps.over at hq3
    cases h : q.2 with
    | bad e a =>
      rw [h] at hq3 hps2
      rw [if_pos (.inr rfl)] at hq3
      cases hq3
      exact hps2.1
    | ok l' d' =>
      rw [h] at hq3
      split at hq3
      · cases hq3
      · cases l' <;> (cases hq3; decide)
  have q1 : (x != 0) = true := by simpa using hx0
  have HX := hid (HX0.out hx0)
  clear HX0
  have hz2 := hg2.size
  have hA := (Gr.refl w2).alloc (.cells r.cells 26)
  have hps3 := hps2.keep hA
  have hp3 : p < w2.heap.size := hps2.lt
  have h02 : w2.heap[w.heap.size]? = some (.cells zeroX 26 (0, 0)) := by
    rw [hg2.get (by omega) (by omega), hg.block _ (by simp)]; exact alloc_at _ _
  have hgw : Gr w (w2.alloc (.cells r.cells 26)) := (Go1.up (((Gr.refl w).alloc _).trans hg) hg2 (by omega)).trans hA
  obtain ⟨l, d, e0, a0, hpr⟩ : ∃ l d e a, PR p (w2.alloc (.cells r.cells 26)) l d e a := by
    cases h : q.2 with
    | ok l d => rw [h] at hps3; exact ⟨l, _, _, _, hps3.2⟩
    | bad e a => rw [h] at hps3; obtain ⟨_, l, d, h3⟩ := hps3; exact ⟨l, d, _, _, h3⟩
  obtain ⟨b, off, n, c, tk, hn1, hnc, hbl, p0, p2, p3, b0, htk⟩ := tok_head hpr
  have g2 : (0 : Int) < (n : Int) := by omega
  unfold XR.val
  by_cases hk : tk = 5
  · skip
    have q5 : ((tk : Int) != 5) = false := by rw [hk]; rfl
    have hbad : q.2 = .bad x a := by
      rw [← hq2]
      unfold Ps.over
      cases h : q.2 with
      | bad e a => rw [if_pos (.inr rfl)]
      | ok l' d' =>
        rw [if_pos]
        refine .inl ?_
        rw [h] at hps3
        cases l' with
        | nil => exact hps3.2.nil.elim
        | cons t0 r0 =>
          obtain ⟨b9, off9, n9, c9, tk9, _, _, _, p9, _, _, b90, htk9⟩ := tok_head hps3.2
          rw [p0] at p9
          cases p9
          rw [b0] at b90
          have : tk9 = tk := by have := Option.some.inj b90; cases this; rfl
          show t0.tk.kind = 5
          rw [htk9 t0 r0 rfl, this, hk]
    rw [hbad] at hps3
    obtain ⟨_, l', d', hpr'⟩ := hps3
    obtain ⟨b', off', n', c', tk', hn1', hnc', hbl', p0', p2', p3', b0', htk'⟩ := tok_head hpr'
    have hb0 := b0
    have hp0 := p0
    have h05 : (w2.alloc (.cells r.cells 26)).heap[w.heap.size]? = some (.cells zeroX 26 (0, 0)) := by
      rw [hA.block _ (by omega)]; exact h02
    have hE0 : w2.heap.size < (w2.alloc (.cells r.cells 26)).heap.size := by simp
    have H05 := hid h05
    have HG5 := hid hgw
    have c5 := Rg.blk_cells h05
    have f5 := Rg.blk_free h05
    obtain ⟨w5, hw5⟩ : ∃ w5, w2.alloc (.cells r.cells 26) = w5 := ⟨_, rfl⟩
    have HW := hid hw5
    rw [hw5] at H05 HG5
    clear hpr hpr' hps hps2 hg hg2 hy hgd hA hgw HOR HB h02 htk htk' p2 p3 h05 hw5 p0' b0' hb0 hp0 c5 f5
    have c5 : True := trivial
    have f5 : True := trivial
    go_wp2_with fail
    rw [HW.out]
    rw [HW.out] at p2' p3'
    have HP2 := hid p2'
    have HP3 := hid p3'
    clear p2' p3' c5 f5
    refine Rg.region_chain 11 [9] [] (ErS w.heap.size w5) [some (.agg #[.int .i64 0, .int .i64 0, .int .i64 0, .string ⟨#[]⟩, .bool false, .string ⟨#[]⟩, .string ⟨#[]⟩, .int .i64 0, .int .i64 0, .bool false, .bool false, .slice none 0 0]), some (.pointer (some ⟨p, 0, none⟩)), some (.pointer (some ⟨p, 0, none⟩)), some (.pointer (some ⟨p, 2, none⟩)), some (.int .i64 x), some (.pointer (some ⟨p, 0, none⟩)), some (.pointer (some ⟨p, 0, none⟩)), some (.pointer (some ⟨p, 3, none⟩)), some (.int .i64 (a : Int)), some undef, some (.int .i64 x)]
      (fun v => ErS.s0 ((Gr.refl _).drew)) (by kernel_rfl) (by kernel_rfl) (by kernel_rfl) (by kernel_rfl) (fun _ _ d _ _ h => by cases d <;> exact h) ?_
    intro OPS _ v
    simp only [List.take_succ_cons, List.take_zero, Rg.wpC, Rg.wpS, Option.getD_some, Option.getD_none, Act.put, List.setIfInBounds_toArray, List.set_cons_zero, List.set_cons_succ, show List.contains [9] 0 = false from rfl, show List.contains [9] 1 = false from rfl, show List.contains [9] 2 = false from rfl, show List.contains [9] 3 = false from rfl, show List.contains [9] 4 = false from rfl, show List.contains [9] 5 = false from rfl, show List.contains [9] 6 = false from rfl, show List.contains [9] 7 = false from rfl, show List.contains [9] 8 = false from rfl, show List.contains [9] 9 = true from rfl, show List.contains [9] 10 = false from rfl, Bool.false_eq_true, if_false, if_true, Nat.reduceAdd]
    have hpl : p < w5.heap.size := lt_of_cell HP2.out
    have cP : ∀ s v W, ErS w.heap.size w5 s v W → W.cell? ⟨p, 2, none⟩ = some (.int .i64 x) ∧ W.cell? ⟨p, 3, none⟩ = some (.int .i64 (a : Int)) := fun s v W h => by
      have hg := h.go
      exact ⟨by rw [hg.cell hpl (by omega)]; exact HP2.out, by rw [hg.cell hpl (by omega)]; exact HP3.out⟩
    refine ⟨?_, ?_, ?_, ?_, ?_, ?_, ?_, ?_, ?_, ?_, ?_, ?_⟩
    iterate 9
      · refine sc_still (by rfl) (by rfl) (fun s' W _ hS => ?_)
        obtain ⟨cp2, cp3⟩ := cP _ _ _ hS
        go_simp
    · refine sc_call (by rfl) (by rfl) (fun W hS => ?_)
      have hg := hS.g0
      have hz : W.heap[w.heap.size]? = some (.cells #[.int .i64 0, .int .i64 0, .int .i64 0, .string ⟨#[]⟩, .bool false, .string ⟨#[]⟩, .string ⟨#[]⟩, .int .i64 0, .int .i64 0, .bool false, .bool false, .slice none 0 0] 26 (0, 0)) := (hg.block _ (Array.getElem?_eq_some_iff.1 H05.out).1).trans H05.out
      have HS12 := hid (fun b0 b1 b2 b3 b4 b5 b6 b7 b8 b9 b10 b11 => Go1.set12 w.heap.size W b0 b1 b2 b3 b4 b5 b6 b7 b8 b9 b10 b11)
      have HT12 := hid (fun b0 b1 b2 b3 b4 b5 b6 b7 b8 b9 b10 b11 => set12 hz b0 b1 b2 b3 b4 b5 b6 b7 b8 b9 b10 b11)
      have cz := Rg.blk_cells hz
      have fz := Rg.blk_free hz
      have HG := hid hg
      clear hz hS hg cP
      go_simp
      exact ErS.s1 ((Go1.of HG.out).trans (HS12.out _ _ _ _ _ _ _ _ _ _ _ _)) (HT12.out _ _ _ _ _ _ _ _ _ _ _ _)
    · refine sc_still (by rfl) (by rfl) (fun s' W _ hS => ?_)
      go_simp
    · intro W hS
      obtain ⟨h5, hz5⟩ := hS.g1
      simp only [List.drop_succ_cons, List.drop_zero]
      have HF := hid (HX.out W (HG5.out.grown h5 (fun g e => by cases e; exact Nat.le_refl _)))
      have hT := Rg.blk_cells hz5
      clear hS h5 hz5 cP
      go_wp2
      (try change bodyPost _ _ _ _ _ _)
      refine bodyPost_ret (v := .tuple #[noX, .int .i64 x, .int .i64 (a : Int)]) (by simp [results, Tryz.results13, go_sem, noX, hT]; try rfl) rfl HF.out
  · have q5 : ((tk : Int) != 5) = true := by simp; omega
    have hover : q.2.fail 180 = .bad x a := by
      rw [← hq2]
      unfold Ps.over
      cases h : q.2 with
      | bad e a => rw [if_pos (.inr rfl)]; rfl
      | ok l' d' =>
        rw [if_neg]
        rintro (h5 | h5)
        · rw [h] at hps3
          cases l' with
          | nil => exact hps3.2.nil
          | cons t0 r0 =>
            obtain ⟨b9, off9, n9, c9, tk9, _, _, _, p9, _, _, b90, htk9⟩ := tok_head hps3.2
            rw [p0] at p9
            cases p9
            rw [b0] at b90
            have e9 : tk9 = tk := by have := Option.some.inj b90; cases this; rfl
            have h5' : t0.tk.kind = 5 := h5
            rw [htk9 t0 r0 rfl, e9] at h5'
            exact hk h5'
        · cases h5
    go_wp2_with fail
    refine (wrong_any p q.2 _ hps3).mono ?_
    rintro e w5 ⟨rfl, hps5, hg5⟩
    rw [hover] at hps5
    obtain ⟨_, l', d', hpr'⟩ := hps5
    obtain ⟨b', off', n', c', tk', hn1', hnc', hbl', p0', p2', p3', b0', htk'⟩ := tok_head hpr'
    have h05 : w5.heap[w.heap.size]? = some (.cells zeroX 26 (0, 0)) := by
      rw [hg5.get (by simp; omega) (by omega), hA.block _ (by omega)]; exact h02
    have hg05 : Gr w w5 := Go1.up hgw hg5 (by omega)
    have c5 := Rg.blk_cells h05
    have f5 := Rg.blk_free h05
    simp only [zeroX] at c5
    have H05 := hid h05
    have HG5 := hid hg05
    clear hpr hpr' hps hps2 hps3 hg hg2 hg5 hy hgd hA hgw HOR HB h02 htk htk' p0 p2 p3 b0 h05 hg05
    go_wp2_with fail
    have HP2 := hid p2'
    have HP3 := hid p3'
    clear p2' p3' c5 f5
    refine Rg.region_chain 11 [9] [] (ErS w.heap.size w5) [some (.agg #[.int .i64 0, .int .i64 0, .int .i64 0, .string ⟨#[]⟩, .bool false, .string ⟨#[]⟩, .string ⟨#[]⟩, .int .i64 0, .int .i64 0, .bool false, .bool false, .slice none 0 0]), some (.pointer (some ⟨p, 0, none⟩)), some (.pointer (some ⟨p, 0, none⟩)), some (.pointer (some ⟨p, 2, none⟩)), some (.int .i64 x), some (.pointer (some ⟨p, 0, none⟩)), some (.pointer (some ⟨p, 0, none⟩)), some (.pointer (some ⟨p, 3, none⟩)), some (.int .i64 (a : Int)), some undef, some (.int .i64 x)]
      (fun v => ErS.s0 ((Gr.refl _).drew)) (by kernel_rfl) (by kernel_rfl) (by kernel_rfl) (by kernel_rfl) (fun _ _ d _ _ h => by cases d <;> exact h) ?_
    intro OPS _ v
    simp only [List.take_succ_cons, List.take_zero, Rg.wpC, Rg.wpS, Option.getD_some, Option.getD_none, Act.put, List.setIfInBounds_toArray, List.set_cons_zero, List.set_cons_succ, show List.contains [9] 0 = false from rfl, show List.contains [9] 1 = false from rfl, show List.contains [9] 2 = false from rfl, show List.contains [9] 3 = false from rfl, show List.contains [9] 4 = false from rfl, show List.contains [9] 5 = false from rfl, show List.contains [9] 6 = false from rfl, show List.contains [9] 7 = false from rfl, show List.contains [9] 8 = false from rfl, show List.contains [9] 9 = true from rfl, show List.contains [9] 10 = false from rfl, Bool.false_eq_true, if_false, if_true, Nat.reduceAdd]
    have hpl : p < w5.heap.size := lt_of_cell HP2.out
    have cP : ∀ s v W, ErS w.heap.size w5 s v W → W.cell? ⟨p, 2, none⟩ = some (.int .i64 x) ∧ W.cell? ⟨p, 3, none⟩ = some (.int .i64 (a : Int)) := fun s v W h => by
      have hg := h.go
      exact ⟨by rw [hg.cell hpl (by omega)]; exact HP2.out, by rw [hg.cell hpl (by omega)]; exact HP3.out⟩
    refine ⟨?_, ?_, ?_, ?_, ?_, ?_, ?_, ?_, ?_, ?_, ?_, ?_⟩
    iterate 9
      · refine sc_still (by rfl) (by rfl) (fun s' W _ hS => ?_)
        obtain ⟨cp2, cp3⟩ := cP _ _ _ hS
        go_simp
    · refine sc_call (by rfl) (by rfl) (fun W hS => ?_)
      have hg := hS.g0
      have hz : W.heap[w.heap.size]? = some (.cells #[.int .i64 0, .int .i64 0, .int .i64 0, .string ⟨#[]⟩, .bool false, .string ⟨#[]⟩, .string ⟨#[]⟩, .int .i64 0, .int .i64 0, .bool false, .bool false, .slice none 0 0] 26 (0, 0)) := (hg.block _ (Array.getElem?_eq_some_iff.1 H05.out).1).trans H05.out
      have HS12 := hid (fun b0 b1 b2 b3 b4 b5 b6 b7 b8 b9 b10 b11 => Go1.set12 w.heap.size W b0 b1 b2 b3 b4 b5 b6 b7 b8 b9 b10 b11)
      have HT12 := hid (fun b0 b1 b2 b3 b4 b5 b6 b7 b8 b9 b10 b11 => set12 hz b0 b1 b2 b3 b4 b5 b6 b7 b8 b9 b10 b11)
      have cz := Rg.blk_cells hz
      have fz := Rg.blk_free hz
      have HG := hid hg
      clear hz hS hg cP
      go_simp
      exact ErS.s1 ((Go1.of HG.out).trans (HS12.out _ _ _ _ _ _ _ _ _ _ _ _)) (HT12.out _ _ _ _ _ _ _ _ _ _ _ _)
    · refine sc_still (by rfl) (by rfl) (fun s' W _ hS => ?_)
      go_simp
    · intro W hS
      obtain ⟨h5, hz5⟩ := hS.g1
      simp only [List.drop_succ_cons, List.drop_zero]
      have HF := hid (HX.out W (HG5.out.grown h5 (fun g e => by cases e; exact Nat.le_refl _)))
      have hT := Rg.blk_cells hz5
      clear hS h5 hz5 cP
      go_wp2
      (try change bodyPost _ _ _ _ _ _)
      refine bodyPost_ret (v := .tuple #[noX, .int .i64 x, .int .i64 (a : Int)]) (by simp [results, Tryz.results13, go_sem, noX, hT]; try rfl) rfl HF.out
theorem pexpr_any (t : ByteArray) (w : World) (hsz : t.size ≤ maxLen) (m : Int) (hm : w.cell? ⟨0, 0, none⟩ = some (.int .i64 m)) : Calls Tryz.prog 13 #[.string t] w (ExprP t w) := by
  have HB := begin_any t (w.alloc (.cells zeroX 26)) hsz m (((Gr.refl w).alloc _).keep hm)
  cases hr : readS t with
  | bad x a => exact pexpr_bad t w x a hr HB
  | ok l0 d0 =>
    have hd : d0 = 0 ∧ l0.length ≤ 4097 := by
      unfold readS at hr
      split at hr
      · cases hr
      · split at hr
        · rename_i hl
          cases hr
          have := lexN_len _ _ _ _ _ hl
          refine ⟨rfl, ?_⟩
          simp at this
          omega
        · cases hr
    obtain ⟨rfl, hl0⟩ := hd
    cases hq : (exprT t).2 with
    | bad x a =>
      exact pexpr_err t w l0 hr hl0 x a hq HB
    | ok l d =>
      have hq' : (exprS (readS t)).2.over = .ok l d := hq
      have h5 : (exprS (readS t)).2 = .ok l d ∧ (Ps.ok l d).headK = 5 := by
        unfold Ps.over at hq'
        split at hq'
        · rename_i h
          refine ⟨hq', ?_⟩
          rw [hq'] at h
          rcases h with h | h
          · exact h
          · cases h
        · cases hs : (exprS (readS t)).2 with
          | ok l' d' => rw [hs] at hq'; cases l' <;> cases hq'
          | bad e a => rw [hs] at hq'; cases hq'
      exact pexpr_good t w l0 hr hl0 l d h5.1 h5.2 HB
end Go.Proofs.YtbeinfhgfflneaaGreat
end
section
namespace Go.Proofs.YtbeinfhgfflneaaGreat
set_option linter.unusedSimpArgs false
set_option linter.unusedVariables false
open Lx
def OkT (c : Nat) : Ps → Prop
  | .ok l _ => ∀ t ∈ l, t.tk.text.length ≤ c ∧ t.tk.num ≤ 9223372036854775807
  | .bad _ _ => True
section
variable {c : Nat} {s : Ps}
theorem OkT.step (h : OkT c s) : OkT c s.step := by
  match s, h with
  | .ok [] d, h => exact h
  | .ok (t :: r) d, h =>
    simp only [Ps.step]
    split
    · exact h
    · exact fun x hx => h x (by simp [hx])
  | .bad e a, h => trivial
theorem OkT.fail (e : Int) (h : OkT c s) : OkT c (s.fail e) := by
  match s with
  | .ok [] d => trivial
  | .ok (t :: r) d => trivial
  | .bad e a => trivial
theorem OkT.may (k : Nat) (x : ByteArray) (h : OkT c s) : OkT c (s.may k x).2 := by
  unfold Ps.may
  split
  · exact h.step
  · exact h
theorem OkT.need (k : Nat) (x : ByteArray) (h : OkT c s) : OkT c (s.need k x) := by
  unfold Ps.need
  split
  · exact h.step
  · exact h.fail _
theorem OkT.down (h : OkT c s) : OkT c s.down := by
  match s, h with
  | .ok l d, h =>
    simp only [Ps.down]
    split
    · exact OkT.fail _ h
    · exact h
  | .bad e a, h => trivial
theorem OkT.up (h : OkT c s) : OkT c s.up := by
  match s, h with
  | .ok l d, h => exact h
  | .bad e a, h => trivial
theorem OkT.name (h : OkT c s) : OkT c s.name.2 := by
  unfold Ps.name
  split
  · exact h.step
  · exact h.fail _
theorem OkT.headT (h : OkT c s) : s.headT.length ≤ c := by
  match s, h with
  | .ok (t :: r) d, h => exact (h t (by simp)).1
  | .ok [] d, h => exact Nat.zero_le _
  | .bad e a, h => exact Nat.zero_le _
theorem OkT.headN (h : OkT c s) : s.headN ≤ 9223372036854775807 := by
  match s, h with
  | .ok (t :: r) d, h => exact (h t (by simp)).2
  | .ok [] d, h => exact Nat.zero_le _
  | .bad e a, h => exact Nat.zero_le _
end
structure Gd (N : Nat) (p : Pa Ex) : Prop where
  kb : KB p
  fm : ∀ s, s.size ≤ N → (p s).2.good = true → (p s).1.forms + (p s).2.size ≤ s.size
structure Gds (N : Nat) (p : Pa (List Ex)) : Prop where
  kb : KB p
  fm : ∀ s, s.size ≤ N → (p s).2.good = true → Exs.forms (p s).1 + (p s).2.size ≤ s.size
def Ft (c : Nat) (p : Pa Ex) : Prop := ∀ s, OkT c s → OkT c (p s).2 ∧ Ex.fitsX c (p s).1
def Fts (c : Nat) (p : Pa (List Ex)) : Prop := ∀ s, OkT c s → OkT c (p s).2 ∧ Exs.fitsX c (p s).1
theorem need_ok {s : Ps} {k : Nat} {x : ByteArray} (hk : k ≠ 5) (h : (s.need k x).good = true) : (s.need k x).size + 1 = s.size ∧ s.good = true := by
  unfold Ps.need at h ⊢
  split
  · rename_i hi
    obtain ⟨h1, h2, h3⟩ := is_step hi hk
    exact ⟨h1, h3⟩
  · rename_i hi
    rw [if_neg hi] at h
    exact absurd h (fail_no s)
theorem upg_good {s : Ps} (h : s.up.good = true) : s.good = true := by cases s <;> exact h
theorem fits_pair (c : Nat) (h : Hd) (a b : Ex) (hv : VB c h.v) (ha : Ex.fitsX c a) (hb : Ex.fitsX c b) : Ex.fitsX c (.mk h [a, b]) := by
  rw [Ex.fitsX, Exs.fitsX, Exs.fitsX, Exs.fitsX]; exact ⟨hv, ha, hb, trivial⟩
theorem fits_one (c : Nat) (h : Hd) (a : Ex) (hv : VB c h.v) (ha : Ex.fitsX c a) : Ex.fitsX c (.mk h [a]) := by
  rw [Ex.fitsX, Exs.fitsX, Exs.fitsX]; exact ⟨hv, ha, trivial⟩
theorem fits_leaf (c : Nat) (h : Hd) (hv : VB c h.v) : Ex.fitsX c (.mk h []) := by
  rw [Ex.fitsX, Exs.fitsX]; exact ⟨hv, trivial⟩
theorem forms_0 (h : Hd) : (Ex.mk h []).forms = 1 := by rw [Ex.forms, Exs.forms]
theorem forms_1 (h : Hd) (a : Ex) : (Ex.mk h [a]).forms = a.forms + 1 := by rw [Ex.forms, Exs.forms, Exs.forms]
theorem forms_2 (h : Hd) (a b : Ex) : (Ex.mk h [a, b]).forms = a.forms + b.forms + 1 := by rw [Ex.forms, Exs.forms, Exs.forms, Exs.forms]; omega
theorem forms_3 (h : Hd) (a b d : Ex) : (Ex.mk h [a, b, d]).forms = a.forms + b.forms + d.forms + 1 := by rw [Ex.forms, Exs.forms, Exs.forms, Exs.forms, Exs.forms]; omega
theorem fm_lefts {N : Nat} {ops : List (ByteArray × Int)} {k : Nat} {p : Pa Ex} (hp : Gd N p) (hk : k ≠ 5) : ∀ n e s, s.size ≤ N → (lefts ops k p n e s).2.good = true → (lefts ops k p n e s).1.forms + (lefts ops k p n e s).2.size ≤ e.forms + s.size
  | 0, e, s, _, _ => Nat.le_refl _
  | n + 1, e, s, hN, h => by
    unfold lefts at h ⊢
    split
    · rename_i o ho
      rw [ho] at h
      have his : s.is k o.1 = true := by have := List.find?_some ho; exact this
      obtain ⟨h1, _, _⟩ := is_step his hk
      have hg : (p s.step).2.good = true := by
        cases hq : (p s.step).2 with
        | ok l d => rfl
        | bad x a =>
          simp only [hq] at h
          rw [lefts_bad] at h
          cases h
      have h3 := hp.fm _ (by omega) hg
      have h2 := fm_lefts hp hk n _ _ (by omega) h
      simp only [tre, forms_2] at h2 ⊢
      omega
    · exact Nat.le_refl _
theorem ft_lefts {c : Nat} {ops : List (ByteArray × Int)} {k : Nat} {p : Pa Ex} (hp : Ft c p) : ∀ n e s, OkT c s → Ex.fitsX c e → OkT c (lefts ops k p n e s).2 ∧ Ex.fitsX c (lefts ops k p n e s).1
  | 0, e, s, h, he => ⟨h, he⟩
  | n + 1, e, s, h, he => by
    unfold lefts
    split
    · obtain ⟨h1, h2⟩ := hp _ h.step
      exact ft_lefts hp n _ _ h1 (fits_pair c _ _ _ (vb_nul c) he h2)
    · exact ⟨h, he⟩
theorem gd_left {N : Nat} {ops : List (ByteArray × Int)} {k : Nat} {p : Pa Ex} (hp : Gd N p) (hk : k ≠ 5) : Gd N (left ops k p) where
  kb := kb_left hp.kb
  fm := fun s hN h => by
    unfold left at h ⊢
    simp only at h ⊢
    have hg : (p s).2.good = true := by
      cases hq : (p s).2 with
      | ok l d => rfl
      | bad x a => rw [hq, lefts_bad] at h; cases h
    have h2 := hp.fm s hN hg
    have h1 := fm_lefts hp hk _ _ _ (by omega) h
    omega
theorem ft_left {c : Nat} {ops : List (ByteArray × Int)} {k : Nat} {p : Pa Ex} (hp : Ft c p) : Ft c (left ops k p) := fun s h => by
    unfold left
    obtain ⟨h1, h2⟩ := hp s h
    exact ft_lefts hp _ _ _ h1 h2
theorem fm_ahead {N : Nat} {k : Nat} {x : ByteArray} {op : Int} {p : Pa Ex} (hp : Gd N p) (hk : k ≠ 5) : ∀ n s, s.size ≤ N → (ahead k x op p n s).2.good = true → (ahead k x op p n s).1.forms + (ahead k x op p n s).2.size ≤ s.size
  | 0, s, hN, h => hp.fm s hN h
  | n + 1, s, hN, h => by
    unfold ahead at h ⊢
    split
    · rename_i hi
      rw [if_pos hi] at h
      split
      · rename_i hd
        rw [if_pos hd] at h
        simp only at h ⊢
        obtain ⟨d1, d2, d3, d4⟩ := down_good hd
        obtain ⟨h1, _, _⟩ := is_step (by rw [d4]; exact hi) hk
        have h2 := fm_ahead hp hk n _ (by omega) (upg_good h)
        rw [tre, forms_1, size_up]
        omega
      · rename_i hd
        rw [if_neg hd] at h
        exact absurd h hd
    · rename_i hi
      rw [if_neg hi] at h
      exact hp.fm s hN h
theorem ft_ahead {c : Nat} {k : Nat} {x : ByteArray} {op : Int} {p : Pa Ex} (hp : Ft c p) : ∀ n s, OkT c s → OkT c (ahead k x op p n s).2 ∧ Ex.fitsX c (ahead k x op p n s).1
  | 0, s, h => hp s h
  | n + 1, s, h => by
    unfold ahead
    split
    · split
      · obtain ⟨h1, h2⟩ := ft_ahead hp n _ h.down.step
        exact ⟨h1.up, fits_one c _ _ (vb_nul c) h2⟩
      · exact ⟨h.down, fits_leaf c _ (vb_nul c)⟩
    · exact hp s h
theorem gd_ahead {N : Nat} {k : Nat} {x : ByteArray} {op : Int} {p : Pa Ex} (hp : Gd N p) (hk : k ≠ 5) : Gd N (fun s => ahead k x op p s.size s) where
  kb := fun y a => kb_ahead hp.kb _ y a
  fm := fun s hN h => fm_ahead hp hk _ s hN h
theorem ft_aheads {c : Nat} {k : Nat} {x : ByteArray} {op : Int} {p : Pa Ex} (hp : Ft c p) : Ft c (fun s => ahead k x op p s.size s) := fun s h => ft_ahead hp _ s h
theorem forms_snoc (x : Ex) : ∀ l : List Ex, Exs.forms (l ++ [x]) = Exs.forms l + x.forms
  | [] => by simp only [List.nil_append, Exs.forms]; omega
  | y :: l => by simp only [List.cons_append, Exs.forms, forms_snoc x l]; omega
theorem fits_snoc (c : Nat) (x : Ex) (hx : Ex.fitsX c x) : ∀ l : List Ex, Exs.fitsX c l → Exs.fitsX c (l ++ [x])
  | [], _ => by rw [List.nil_append, Exs.fitsX, Exs.fitsX]; exact ⟨hx, trivial⟩
  | y :: l, h => by rw [Exs.fitsX] at h; rw [List.cons_append, Exs.fitsX]; exact ⟨h.1, fits_snoc c x hx l h.2⟩
theorem fm_seps {N : Nat} {p : Pa Ex} (hp : Gd N p) : ∀ n l s, s.size ≤ N → (seps p n l s).2.good = true → Exs.forms (seps p n l s).1 + (seps p n l s).2.size ≤ Exs.forms l + s.size
  | 0, l, s, _, h => Nat.le_refl _
  | n + 1, l, s, hN, h => by
    simp only [seps] at h ⊢
    split
    · rename_i hi
      rw [if_pos hi] at h
      obtain ⟨h1, _, h3⟩ := is_step hi (by decide)
      have h4 := hp.fm s hN h3
      have h2 := fm_seps hp n _ _ (by omega) h
      rw [forms_snoc] at h2
      omega
    · rename_i hi
      rw [if_neg hi] at h
      have h4 := hp.fm s hN h
      simp only [forms_snoc]
      omega
theorem ft_seps {c : Nat} {p : Pa Ex} (hp : Ft c p) : ∀ n l s, OkT c s → Exs.fitsX c l → OkT c (seps p n l s).2 ∧ Exs.fitsX c (seps p n l s).1
  | 0, l, s, h, hl => ⟨h, hl⟩
  | n + 1, l, s, h, hl => by
    simp only [seps]
    obtain ⟨h1, h2⟩ := hp s h
    split
    · exact ft_seps hp n _ _ h1.step (fits_snoc c _ h2 _ hl)
    · exact ⟨h1, fits_snoc c _ h2 _ hl⟩
theorem gds_sep {N : Nat} {p : Pa Ex} (hp : Gd N p) : Gds N (sep p) where
  kb := kb_sep hp.kb
  fm := fun s hN h => by have := fm_seps hp (s.size + 1) [] s hN h; rw [Exs.forms, Nat.zero_add] at this; exact this
theorem ft_sep {c : Nat} {p : Pa Ex} (hp : Ft c p) : Fts c (sep p) := fun s h => ft_seps hp _ _ s h (by rw [Exs.fitsX]; trivial)
theorem gds_list {M N : Nat} {E : Pa Ex} (hE : Gd M E) (hM : N ≤ M + 1) : Gds N (listS E) where
  kb := fun x a => rfl
  fm := fun s hN h => by
    unfold listS at h ⊢
    split
    · rename_i hi
      rw [if_pos hi] at h
      split
      · rename_i hd
        rw [if_pos hd] at h
        simp only at h ⊢
        obtain ⟨d1, d2, d3, d4⟩ := down_good hd
        obtain ⟨h1, _, _⟩ := is_step (by rw [d4]; exact hi) (by decide : 4 ≠ 5)
        obtain ⟨h5, h6⟩ := need_ok (by decide) (upg_good h)
        have h2 := (gds_sep hE).fm _ (by omega) h6
        rw [size_up]
        omega
      · rename_i hd
        rw [if_neg hd] at h
        exact absurd h hd
    · rename_i hi
      rw [if_neg hi] at h
      exact absurd h (fail_no s)
theorem ft_list {c : Nat} {E : Pa Ex} (hE : Ft c E) : Fts c (listS E) := fun s h => by
    unfold listS
    split
    · split
      · obtain ⟨h1, h2⟩ := ft_sep hE _ h.down.step
        exact ⟨(h1.need _ _).up, h2⟩
      · exact ⟨h.down, by rw [Exs.fitsX]; trivial⟩
    · exact ⟨h.fail _, by rw [Exs.fitsX]; trivial⟩
theorem may_le (s : Ps) (k : Nat) (x : ByteArray) : (s.may k x).2.size ≤ s.size := size_may k x s
theorem fm_compareT {M N : Nat} {p E : Pa Ex} (hp : Gd N p) (hE : Gd M E) (hM : N ≤ M + 1) (a : Ex) (s : Ps) (hN : s.size ≤ N) (h : (compareT p E a s).2.good = true) : (compareT p E a s).1.forms + (compareT p E a s).2.size ≤ a.forms + s.size := by
  unfold compareT at h ⊢
  split
  · rename_i o ho
    rw [ho] at h
    have his : s.is 4 o.1 = true := by have := List.find?_some ho; exact this
    obtain ⟨h1, _, _⟩ := is_step his (by decide)
    have h2 := hp.fm _ (by omega) h
    simp only [tre, forms_2]
    omega
  · rename_i ho
    rw [ho] at h
    simp only at h ⊢
    split
    · rename_i hi
      rw [if_pos hi] at h
      obtain ⟨h1, _, _⟩ := is_step hi (by decide)
      obtain ⟨h2, _⟩ := need_ok (by decide) h
      have := may_le s.step 1 ⟨#[110, 111, 116]⟩
      rw [forms_1]
      simp only [Ps.word] at h2 ⊢
      omega
    · rename_i hi
      rw [if_neg hi] at h
      have hw := may_le s 1 ⟨#[110, 111, 116]⟩
      split
      · rename_i h3
        rw [if_pos h3] at h
        obtain ⟨h1, _, _⟩ := is_step h3 (by decide)
        have h2 := (gds_list hE hM).fm _ (by simp only [Ps.word] at *; omega) h
        rw [Ex.forms, Exs.forms]
        simp only [Ps.word] at *
        omega
      · rename_i h3
        rw [if_neg h3] at h
        split
        · rename_i h4
          rw [if_pos h4] at h
          obtain ⟨h1, _, _⟩ := is_step h4 (by decide)
          unfold betweens at h ⊢
          simp only at h ⊢
          have hg := kb_good hp.kb h
          obtain ⟨h5, h6⟩ := need_ok (by decide) hg
          have h7 := hp.fm _ (by simp only [Ps.word] at *; omega) h6
          have h2 := hp.fm _ (by simp only [Ps.word] at *; omega) h
          rw [forms_3]
          simp only [Ps.word] at *
          omega
        · rename_i h4
          rw [if_neg h4] at h
          split
          · rename_i h5
            rw [if_pos h5] at h
            exact absurd h (fail_no _)
          · exact Nat.add_le_add_left hw _
theorem ft_compareT {c : Nat} {p E : Pa Ex} (hp : Ft c p) (hE : Ft c E) (a : Ex) (ha : Ex.fitsX c a) (s : Ps) (h : OkT c s) : OkT c (compareT p E a s).2 ∧ Ex.fitsX c (compareT p E a s).1 := by
  unfold compareT
  split
  · obtain ⟨h1, h2⟩ := hp _ h.step
    exact ⟨h1, fits_pair c _ _ _ (vb_nul c) ha h2⟩
  · split
    · exact ⟨(h.step.may _ _).need _ _, fits_one c _ _ (vb_nul c) ha⟩
    · simp only
      split
      · obtain ⟨h1, h2⟩ := ft_list hE _ (h.may 1 ⟨#[110, 111, 116]⟩).step
        exact ⟨h1, by rw [Ex.fitsX, Exs.fitsX]; exact ⟨vb_nul c, ha, h2⟩⟩
      · split
        · unfold betweens
          obtain ⟨h1, h2⟩ := hp _ (h.may 1 ⟨#[110, 111, 116]⟩).step
          obtain ⟨h3, h4⟩ := hp _ (h1.need 1 ⟨#[97, 110, 100]⟩)
          exact ⟨h3, by rw [Ex.fitsX, Exs.fitsX, Exs.fitsX, Exs.fitsX, Exs.fitsX]; exact ⟨vb_nul c, ha, h2, h4, trivial⟩⟩
        · split
          · exact ⟨(h.may _ _).fail _, ha⟩
          · exact ⟨h.may _ _, ha⟩
theorem kb_compareT {p E : Pa Ex} (a : Ex) (x : Int) (q : Nat) : (compareT p E a (.bad x q)).2 = .bad x q := rfl
theorem gd_compares {M N : Nat} {p E : Pa Ex} (hp : Gd N p) (hE : Gd M E) (hM : N ≤ M + 1) : Gd N (compares p E) where
  kb := kb_compares hp.kb
  fm := fun s hN h => by
    unfold compares at h ⊢
    simp only at h ⊢
    have hg : (p s).2.good = true := by
      cases hq : (p s).2 with
      | ok l d => rfl
      | bad x a => rw [hq, kb_compareT] at h; cases h
    have h2 := hp.fm s hN hg
    have h1 := fm_compareT hp hE hM _ _ (by omega) h
    omega
theorem ft_compares {c : Nat} {p E : Pa Ex} (hp : Ft c p) (hE : Ft c E) : Ft c (compares p E) := fun s h => by
    unfold compares
    obtain ⟨h1, h2⟩ := hp s h
    exact ft_compareT hp hE _ h2 _ h1
theorem fm_call {M : Nat} {E : Pa Ex} (hE : Gd M E) (nm : List UInt8) (s : Ps) (hN : s.size ≤ M + 1) (hk : s.headK = 1) (h : (callS E nm s).2.good = true) : (callS E nm s).1.forms + (callS E nm s).2.size ≤ s.size := by
  unfold callS at h ⊢
  split
  · rename_i hd
    rw [if_pos hd] at h
    simp only at h ⊢
    obtain ⟨d1, d2, d3, d4⟩ := down_good hd
    obtain ⟨h1, _, _⟩ := head_step (s := s.down) (k := 1) (by rw [d3]; exact hk) (by decide) (by decide)
    have hn := size_need 4 ⟨#[40]⟩ s.down.step
    split
    · rename_i hi
      rw [if_pos hi] at h
      have hn2 := size_need 4 ⟨#[41]⟩ (s.down.step.need 4 ⟨#[40]⟩).step
      have hs2 := size_step (s.down.step.need 4 ⟨#[40]⟩)
      rw [forms_0, size_up]
      omega
    · rename_i hi
      rw [if_neg hi] at h
      split
      · rename_i hf
        rw [if_pos hf] at h
        simp only at h ⊢
        obtain ⟨h5, h6⟩ := need_ok (by decide) (upg_good h)
        have h2 := hE.fm _ (by omega) h6
        rw [forms_1, size_up]
        omega
      · rename_i hf
        rw [if_neg hf] at h
        simp only at h ⊢
        obtain ⟨h5, h6⟩ := need_ok (by decide) (upg_good h)
        have h2 := (gds_sep hE).fm _ (by omega) h6
        rw [Ex.forms, size_up]
        omega
  · rename_i hd
    rw [if_neg hd] at h
    exact absurd h hd
theorem ft_call {c : Nat} {E : Pa Ex} (hE : Ft c E) (nm : List UInt8) (s : Ps) (h : OkT c s) : OkT c (callS E nm s).2 ∧ Ex.fitsX c (callS E nm s).1 := by
  unfold callS
  split
  · simp only
    have h0 := h.down.step.need 4 ⟨#[40]⟩
    split
    · exact ⟨(h0.step.need _ _).up, fits_leaf c _ (vb_nul c)⟩
    · split
      · obtain ⟨h1, h2⟩ := hE _ h0
        exact ⟨(h1.need _ _).up, fits_one c _ _ (vb_nul c) h2⟩
      · obtain ⟨h1, h2⟩ := ft_sep hE _ h0
        exact ⟨(h1.need _ _).up, by rw [Ex.fitsX]; exact ⟨vb_nul c, h2⟩⟩
  · exact ⟨h.down, fits_leaf c _ (vb_nul c)⟩
theorem name_ok {s : Ps} (h : s.name.2.good = true) : s.name.2.size + 1 = s.size := by
  unfold Ps.name at h ⊢
  split
  · rename_i hi
    have : s.headK = 1 := by unfold Ps.isName at hi; simp at hi; exact hi.1
    exact (head_step this (by decide) (by decide)).1
  · rename_i hi
    rw [if_neg hi] at h
    exact absurd h (fail_no s)
theorem fm_nameS (s : Ps) (h : (nameS s).2.good = true) : (nameS s).1.forms + (nameS s).2.size ≤ s.size := by
  unfold nameS at h ⊢
  simp only at h ⊢
  split
  · rename_i hi
    rw [if_pos hi] at h
    simp only at h ⊢
    obtain ⟨h1, _, h3⟩ := is_step hi (by decide)
    have h2 := name_ok h
    have h4 := name_ok h3
    rw [forms_0]
    omega
  · rename_i hi
    rw [if_neg hi] at h
    have h4 := name_ok h
    simp only [forms_0]
    omega
theorem ft_nameS {c : Nat} (s : Ps) (h : OkT c s) : OkT c (nameS s).2 ∧ Ex.fitsX c (nameS s).1 := by
  unfold nameS
  simp only
  split
  · exact ⟨h.name.step.name, fits_leaf c _ (vb_nul c)⟩
  · exact ⟨h.name, fits_leaf c _ (vb_nul c)⟩
theorem gd_single {M N : Nat} {E : Pa Ex} (hE : Gd M E) (hM : N ≤ M + 1) : Gd N (single E) where
  kb := fun x a => rfl
  fm := fun s hN h => by
    have L : ∀ (v : V) (k : Nat), s.headK = k → k ≠ 5 → k ≠ 0 → (litE v).forms + s.step.size ≤ s.size := fun v k hk h5 h0 => by
      obtain ⟨h1, _, _⟩ := head_step hk h5 h0
      rw [litE, forms_0]; omega
    have W : ∀ (v : V) (k : Nat) (x : ByteArray), s.is k x = true → k ≠ 5 → (litE v).forms + s.step.size ≤ s.size := fun v k x hi h5 => by
      obtain ⟨h1, _, _⟩ := is_step hi h5
      rw [litE, forms_0]; omega
    unfold single at h ⊢
    split
    · rename_i hi; exact L _ 2 (by simpa using hi) (by decide) (by decide)
    rename_i n1
    rw [if_neg n1] at h
    split
    · rename_i hi; exact L _ 3 (by simpa using hi) (by decide) (by decide)
    rename_i n2
    rw [if_neg n2] at h
    split
    · rename_i hi; exact W _ _ _ hi (by decide)
    rename_i n3
    rw [if_neg n3] at h
    split
    · rename_i hi; exact W _ _ _ hi (by decide)
    rename_i n4
    rw [if_neg n4] at h
    split
    · rename_i hi; exact W _ _ _ hi (by decide)
    rename_i n5
    rw [if_neg n5] at h
    split
    · rename_i hi
      rw [if_pos hi] at h
      split
      · rename_i hd
        rw [if_pos hd] at h
        simp only at h ⊢
        obtain ⟨d1, d2, d3, d4⟩ := down_good hd
        obtain ⟨h1, _, _⟩ := is_step (s := s.down) (by rw [d4]; exact hi) (by decide : 4 ≠ 5)
        obtain ⟨h5, h6⟩ := need_ok (by decide) (upg_good h)
        have h2 := hE.fm _ (by omega) h6
        rw [size_up]
        omega
      · rename_i hd
        rw [if_neg hd] at h
        exact absurd h hd
    rename_i n6
    rw [if_neg n6] at h
    split
    · rename_i hi
      rw [if_pos hi] at h
      exact fm_call hE _ s (by omega) (by simp at hi; exact hi.1) h
    · rename_i hi
      rw [if_neg hi] at h
      exact fm_nameS s h
theorem ft_single {c : Nat} {E : Pa Ex} (hE : Ft c E) : Ft c (single E) := fun s h => by
    unfold single
    split
    · refine ⟨h.step, fits_leaf c _ (vb_num c _ ?_)⟩
      have := h.headN
      unfold Bd; omega
    split
    · refine ⟨h.step, fits_leaf c _ ⟨by show Bd 0; unfold Bd; decide, ?_⟩⟩
      have := h.headT
      show (txt s.headT).size ≤ c
      simpa [txt, ByteArray.size] using this
    split
    · exact ⟨h.step, fits_leaf c _ (vb_bool c _)⟩
    split
    · exact ⟨h.step, fits_leaf c _ (vb_bool c _)⟩
    split
    · exact ⟨h.step, fits_leaf c _ (vb_nul c)⟩
    split
    · split
      · obtain ⟨h1, h2⟩ := hE _ h.down.step
        exact ⟨(h1.need _ _).up, h2⟩
      · exact ⟨h.down, fits_leaf c _ (vb_nul c)⟩
    split
    · exact ft_call hE _ s h
    · exact ft_nameS s h
theorem gd_lvl {M N : Nat} {E : Pa Ex} (hE : Gd M E) (hM : N ≤ M + 1) : Gd N (lvl E) :=
  gd_left (gd_left (gd_ahead (gd_compares (gd_left (gd_left (gd_ahead (gd_single hE hM) (by decide)) (by decide)) (by decide)) hE hM) (by decide)) (by decide)) (by decide)
theorem ft_lvl {c : Nat} {E : Pa Ex} (hE : Ft c E) : Ft c (lvl E) :=
  ft_left (ft_left (ft_aheads (ft_compares (ft_left (ft_left (ft_aheads (ft_single hE)))) hE)))
theorem ft_expr (c : Nat) : ∀ n, Ft c (expr n)
  | 0 => ft_lvl (fun s h => ⟨h, fits_leaf c _ (vb_nul c)⟩)
  | n + 1 => ft_lvl (ft_expr c n)
def NB (p : Pa Ex) : Prop := ∀ s, s.size = 0 → (p s).2.good = false
theorem nb_single (E : Pa Ex) : NB (single E) := fun s h => by
  match s, h with
  | .bad e a, _ => rfl
  | .ok [] d, _ => rfl
theorem nb_left {ops : List (ByteArray × Int)} {k : Nat} {p : Pa Ex} (hp : NB p) : NB (left ops k p) := fun s h => by
  have h1 := hp s h
  unfold left
  cases hq : (p s).2 with
  | ok l d => rw [hq] at h1; cases h1
  | bad x a => simp only [hq]; rw [lefts_bad]; rfl
theorem nb_ahead {k : Nat} {x : ByteArray} {op : Int} {p : Pa Ex} (hp : NB p) : NB (fun s => ahead k x op p s.size s) := fun s h => by
  simp only [h]
  exact hp s h
theorem nb_compares {p E : Pa Ex} (hp : NB p) : NB (compares p E) := fun s h => by
  have h1 := hp s h
  unfold compares
  cases hq : (p s).2 with
  | ok l d => rw [hq] at h1; cases h1
  | bad x a => simp only [hq]; rw [kb_compareT]; rfl
theorem nb_lvl (E : Pa Ex) : NB (lvl E) := nb_left (nb_left (nb_ahead (nb_compares (nb_left (nb_left (nb_ahead (nb_single E)))))))
theorem gd_expr : ∀ n, Gd n (expr n)
  | 0 => ⟨kb_expr 0, fun s hN h => by rw [show (expr 0 s).2.good = false from nb_lvl _ s (by omega)] at h; cases h⟩
  | n + 1 => gd_lvl (gd_expr n) (Nat.le_refl _)
theorem forms_exprS (s : Ps) (h : (exprS s).2.good = true) : (exprS s).1.forms ≤ s.size := by
  have := (gd_expr s.size).fm s (Nat.le_refl _) h
  unfold exprS
  omega
theorem fits_exprS (c : Nat) (s : Ps) (h : OkT c s) : Ex.fitsX c (exprS s).1 := (ft_expr c s.size s h).2
theorem one_num (r : List UInt8) (t : Tk) (n : Nat) (h : oneTok r = some (t, n)) : t.num ≤ 9223372036854775807 := by
  cases r with
  | nil => simp [oneTok] at h
  | cons c r =>
    change (if letterB c then wordL (c :: r) else if digitB c then numberL (c :: r) else if c.toNat = 39 then textL r else signL (c :: r)) = some (t, n) at h
    split at h
    · unfold wordL at h
      simp only at h
      split at h
      · simp at h; obtain ⟨rfl, rfl⟩ := h; simp
      · cases h
    · split at h
      · unfold numberL at h
        simp only at h
        split at h
        · rename_i hc
          simp at h
          obtain ⟨rfl, rfl⟩ := h
          have := hc.2.2
          show Lx.valOf 0 _ ≤ _
          omega
        · cases h
      · split at h
        · unfold textL at h
          cases hq : quoteL r with
          | none => rw [hq] at h; simp at h
          | some x => rw [hq] at h; simp at h; obtain ⟨rfl, rfl⟩ := h; simp
        · cases r with
          | nil =>
            change (if oneSign c then some (⟨4, [c], 0⟩, 1) else none) = some (t, n) at h
            split at h
            · simp at h; obtain ⟨rfl, rfl⟩ := h; simp
            · cases h
          | cons d r =>
            change (if twoSign c d then some (⟨4, [c, d], 0⟩, 2) else if oneSign c then some (⟨4, [c], 0⟩, 1) else none) = some (t, n) at h
            split at h
            · simp at h; obtain ⟨rfl, rfl⟩ := h; simp
            · split at h
              · simp at h; obtain ⟨rfl, rfl⟩ := h; simp
              · cases h
theorem lexN_num (s : List UInt8) : ∀ (f pos : Nat) (acc l : List Tok), (∀ t ∈ acc, t.tk.num ≤ 9223372036854775807) → lexN f s pos acc = .good l → ∀ t ∈ l, t.tk.num ≤ 9223372036854775807
  | 0, pos, acc, l, ha, h => by simp [lexN] at h
  | f + 1, pos, acc, l, ha, h => by
    unfold lexN at h
    simp only at h
    split at h
    · simp at h
      subst h
      intro t ht
      rcases List.mem_append.1 ht with h1 | h1
      · exact ha t h1
      · simp at h1; subst h1; simp
    · split at h
      · exact lexN_num s f _ acc l ha h
      · split at h
        · cases h
        · rename_i t n ho
          refine lexN_num s f _ _ l (fun x hx => ?_) h
          rcases List.mem_append.1 hx with h1 | h1
          · exact ha x h1
          · simp at h1
            subst h1
            exact one_num _ _ _ ho
theorem readS_ok (t : ByteArray) : OkT 4096 (readS t) ∧ (readS t).size ≤ 4097 := by
  unfold readS
  split
  · exact ⟨trivial, Nat.zero_le _⟩
  · rename_i hs
    split
    · rename_i l hl
      have h1 := lexAll_ok t.data.toList (by have : t.data.toList.length = t.size := rfl
                                             omega) l hl
      have h2 := lexN_num _ _ _ _ _ (fun t ht => by simp at ht) hl
      have h3 := lexN_len _ _ _ _ _ hl
      refine ⟨fun x hx => ⟨h1.text x hx, h2 x hx⟩, ?_⟩
      have : t.data.toList.length = t.size := rfl
      simp only [List.length_nil] at h3
      show l.length ≤ 4097
      omega
    · exact ⟨trivial, Nat.zero_le _⟩
theorem over_good {s : Ps} (h : s.over.good = true) : s.good = true := by
  cases s with
  | ok l d => rfl
  | bad x a => cases h
theorem exprT_ok (t : ByteArray) {x : Ex} {l : List Tok} {d : Nat} (h : exprT t = (x, .ok l d)) : x.forms ≤ 4097 ∧ Ex.fitsX 4096 x := by
  unfold exprT at h
  simp only [Prod.mk.injEq] at h
  obtain ⟨h1, h2⟩ := h
  obtain ⟨k1, k2⟩ := readS_ok t
  have hg : (exprS (readS t)).2.good = true := over_good (by rw [h2]; rfl)
  have := forms_exprS _ hg
  rw [← h1]
  exact ⟨by omega, fits_exprS 4096 _ k1⟩
theorem name_small (c : Nat) (fr : List Tn) (h : Hd) : (bnameK fr h).1.forms ≤ 1 ∧ Ex.fitsX c (bnameK fr h).1 := by
  unfold bnameK
  split
  · exact ⟨Nat.le_of_eq (forms_0 _), fits_leaf c _ (vb_nul c)⟩
  · exact ⟨Nat.le_of_eq (forms_0 _), fits_leaf c _ (vb_nul c)⟩
mutual
theorem bindX_small (c : Nat) (fr : List Tn) (aggs in_ : Bool) : ∀ x : Ex, Ex.fitsX c x → (bindX fr aggs in_ x).1.forms ≤ x.forms ∧ Ex.fitsX c (bindX fr aggs in_ x).1
  | .mk h ks, hf => by
    rw [Ex.fitsX] at hf
    obtain ⟨h1, h2⟩ := bindXs_small c fr aggs (in_ || h.op == 4) ks hf.2
    rw [bindX, Ex.forms]
    unfold bindH
    split
    · exact ⟨by rw [noE, forms_0]; omega, fits_leaf c _ (vb_nul c)⟩
    · split
      · obtain ⟨h3, h4⟩ := name_small c fr h
        exact ⟨by omega, h4⟩
      · split
        · exact ⟨by rw [noE, forms_0]; omega, fits_leaf c _ (vb_nul c)⟩
        · exact ⟨by rw [Ex.forms]; omega, by rw [Ex.fitsX]; exact ⟨hf.1, h2⟩⟩
theorem bindXs_small (c : Nat) (fr : List Tn) (aggs in_ : Bool) : ∀ xs : List Ex, Exs.fitsX c xs → Exs.forms ((bindXs fr aggs in_ xs).map (·.1)) ≤ Exs.forms xs ∧ Exs.fitsX c ((bindXs fr aggs in_ xs).map (·.1))
  | [], _ => by rw [bindXs]; simp only [List.map_nil]; rw [Exs.forms, Exs.fitsX]; exact ⟨Nat.le_refl _, trivial⟩
  | x :: xs, hf => by
    rw [Exs.fitsX] at hf
    obtain ⟨h1, h2⟩ := bindX_small c fr aggs in_ x hf.1
    obtain ⟨h3, h4⟩ := bindXs_small c fr aggs in_ xs hf.2
    rw [bindXs]
    simp only [List.map_cons]
    rw [Exs.forms, Exs.forms, Exs.fitsX]
    exact ⟨by omega, h2, h4⟩
end
end Go.Proofs.YtbeinfhgfflneaaGreat
end
section
namespace Go.Proofs.YtbeinfhgfflneaaGreat
open Go.RowKit
set_option linter.unusedSimpArgs false
set_option linter.unusedVariables false
attribute [local go_sem] Rg.leads_value Rg.leads_skip Rg.leads_enter Rg.brings_value Rg.brings_skip Rg.brings_enter Rg.bringsG_value Rg.bringsG_enter Rg.once_normal Rg.once_exit Rg.once_ret Rg.once_panic Rg.once_goto
theorem at_gr {x : Ex} {r : XR} {W W' : World} (h : Ex.At Al W x r) (hg : Gr W W') : Ex.At Al W' x r := h.of hg.size (fun b _ hb => hg.block b hb)
end Go.Proofs.YtbeinfhgfflneaaGreat
end
section
namespace Go.Proofs.YtbeinfhgfflneaaGreat
open Go.RowKit
set_option linter.unusedSimpArgs false
set_option linter.unusedVariables false
attribute [local go_sem] Rg.leads_value Rg.leads_skip Rg.leads_enter Rg.brings_value Rg.brings_skip Rg.brings_enter Rg.bringsG_value Rg.bringsG_enter Rg.once_normal Rg.once_exit Rg.once_ret Rg.once_panic Rg.once_goto
mutual
def Ex.fitB (c : Nat) : Ex → Bool
  | .mk h ks => Vl.fitsB h.v.n && decide (h.v.s.size ≤ c) && Exs.fitB c ks
def Exs.fitB (c : Nat) : List Ex → Bool
  | [] => true
  | x :: xs => Ex.fitB c x && Exs.fitB c xs
end
mutual
theorem fit_of (c : Nat) : ∀ x : Ex, Ex.fitB c x = true → Ex.fitsX c x
  | .mk h ks, hb => by
    rw [Ex.fitB] at hb
    simp only [Bool.and_eq_true, decide_eq_true_eq] at hb
    rw [Ex.fitsX]
    exact ⟨⟨(Vl.fits_iff _).1 hb.1.1, hb.1.2⟩, fits_of c ks hb.2⟩
theorem fits_of (c : Nat) : ∀ xs : List Ex, Exs.fitB c xs = true → Exs.fitsX c xs
  | [], _ => by rw [Exs.fitsX]; trivial
  | x :: xs, hb => by
    rw [Exs.fitB, Bool.and_eq_true] at hb
    rw [Exs.fitsX]
    exact ⟨fit_of c x hb.1, fits_of c xs hb.2⟩
end
theorem xp_ok {t : ByteArray} {w w' : World} {e : Ending} (h : ExprP t w e w') {x : Ex} {l : List Lx.Tok} {d : Nat} (hx : exprT t = (x, .ok l d)) : Gr w w' ∧ ∃ r, e = .returned (.tuple #[XR.val r, .int .i64 0, .int .i64 0]) ∧ Ex.At (Nw w) w' x r := by
  obtain ⟨h1, h2⟩ := h
  rw [hx] at h2
  exact ⟨h1, h2⟩
set_option maxHeartbeats 8000000 in
set_option maxRecDepth 100000 in
theorem valued_ok (t : ByteArray) (x : Ex) (l : List Lx.Tok) (d k : Nat) (w : World) (hx : exprT t = (x, .ok l d)) (hna : Ex.noAgg x = true) (hf : Ex.fitsX k x) (hs : x.forms * k ≤ 9223372036854775807) (hsz : t.size ≤ maxLen) (m : Int) (hm : w.cell? ⟨0, 0, none⟩ = some (.int .i64 m)) :
    Calls Tryz.prog 19 #[.string t] w (Vp (evX [] agN x) w) := by
  have PC : Hid (∀ W, Gr w W → _) := hid (fun W h => pexpr_any t W hsz m (Gr.keep h hm))
  have EC : Hid (∀ r W, Ex.At Al W x r → _) := hid (fun r W h => eexpr_any x r none 0 [] k W h hna (.inl rfl) hf (fun l hl => by simp at hl) hs)
  generalize evX [] agN x = R at *
  obtain ⟨⟨tn, nn, sn, bn⟩, en⟩ := R
  have HX := hid hx
  clear hx hna hf hs hm
  unfold Vp pairR at *
  go_enter Tryz.func19, Tryz.ntmps19
  go_wp2_with fail
  refine (PC.out _ ((Gr.refl _).alloc _)).mono ?_
  rintro e w1 he
  obtain ⟨hg, r, rfl, hat⟩ := xp_ok he HX.out
  clear he HX PC
  have HAT := hid (hat.mono (S' := Al) (fun _ _ _ => trivial))
  have hZ := (hg.block w.heap.size (by rw [World.size_alloc]; exact Nat.lt_succ_self _)).trans (alloc_at w (.cells zeroV 23))
  have HZ1 := hid hZ
  have HG1 : Hid (Gr w w1) := hid (((Gr.refl w).alloc _).trans hg)
  have HAL := hid (alloc_at w1 (.cells zeroX 26))
  have HGB := hid (fun W5 h => gr_boxE (w1 := w1) (o := .cells zeroX 26) (W := W5) h)
  clear hg hat hZ
  unfold XR.val at *
  go_wp2_with (first | (guard_target =~ wpList _ _ _ (Oper.mk _ (Op.store 26 _ _) _ _ _ _ :: _) _ _; refine st_row (ty := 26) rfl rfl w1.heap.size r.cells rfl rfl 26 _ HAL.out (by kernel_rfl) rfl (by kernel_rfl) ?_; intro W5 hW5 gW5 zW5; have hg5 := HGB.out W5 gW5; have HW5 := hid hW5; clear gW5 zW5 hW5) | (guard_target =~ wpList _ _ _ (Oper.mk _ (Op.load 26 _) _ _ _ _ :: _) _ _; refine wpList_load_row rfl 26 _ rfl w1.heap.size rfl 26 r.cells (0, 0) _ HW5.out Tryz.underlying26 rfl (by kernel_rfl) ?_))
  refine (EC.out r W5 (at_gr HAT.out hg5)).mono ?_
  rintro e w2 ⟨rfl, hg2⟩
  have hG := HG1.out.trans (hg5.trans hg2)
  have hZ := ((hg5.trans hg2).block _ (lt_blk HZ1.out)).trans HZ1.out
  unfold zeroV at hZ
  have cZ := Rg.blk_cells hZ
  have fZ := Rg.blk_free hZ
  have lZ := lt_blk hZ
  clear hg5 hg2 hZ HZ1 HG1 HAL HGB HW5 HAT EC
  go_wp2
  all_goals
    (try (go_step3; (try simp only [Exit.then]); (try change Rg.once _ _ _ _ _ _); rw [Rg.once_goto]; go_wp2))
    (try rw [Rg.once_ret])
    (try rw [Exit.noGoto_ret])
    (try change bodyPost _ _ _ _ _ _)
    first
    | (go_returns; refine ⟨?_, ?_⟩)
    | (refine bodyPost_ret (by simp [results, Tryz.results19, go_sem, *]; try rfl) rfl ⟨?_, ?_⟩)
    rotate_left
    · repeat' (first | exact Gr.refl _ | exact Nat.le_refl _ | exact Nat.le_add_right _ _ | refine Gr.setCell ?_ ?_ _ | refine Gr.alloc ?_ _ | refine Gr.drew ?_ | refine Gr.trans ?_ (by assumption) | omega | (dsimp only; omega))
  all_goals rfl
def knownT (t : ByteArray) (f : V × Int → Bool) : Bool := match exprT t with
  | (x, .ok _ _) => Ex.noAgg x && Ex.fitB 4096 x && decide (x.forms ≤ 1000) && f (evX [] agN x)
  | _ => false
theorem known_val (t : ByteArray) (f : V × Int → Bool) (h : knownT t f = true) (hsz : t.size ≤ maxLen) : ∃ R : V × Int, f R = true ∧ ∀ (w : World) (m : Int), w.cell? ⟨0, 0, none⟩ = some (.int .i64 m) → Calls Tryz.prog 19 #[.string t] w (Vp R w) := by
  unfold knownT at h
  cases hq : exprT t with
  | mk x s =>
    rw [hq] at h
    cases s with
    | bad e a => cases h
    | ok l d =>
      simp only [Bool.and_eq_true, decide_eq_true_eq] at h
      obtain ⟨⟨⟨h1, h2⟩, h3⟩, h4⟩ := h
      exact ⟨_, h4, fun w m hm => valued_ok t x l d 4096 w hq h1 (fit_of _ x h2) (Nat.le_trans (Nat.mul_le_mul_right 4096 h3) (by decide)) hsz m hm⟩
theorem aw_1 : knownT ⟨#[70, 65, 76, 83, 69, 32, 65, 78, 68, 32, 49, 32, 47, 32, 48, 32, 61, 32, 49]⟩ (fun r => r.1.t == 3 && !r.1.b && r.2 == 0) = true := by kernel_rfl
theorem aw_2 : knownT ⟨#[49, 32, 47, 32, 48, 32, 61, 32, 49, 32, 65, 78, 68, 32, 70, 65, 76, 83, 69]⟩ (fun r => r.2 == 162) = true := by kernel_rfl
theorem aw_3 : knownT ⟨#[49, 32, 73, 78, 32, 40, 50, 44, 32, 78, 85, 76, 76, 41]⟩ (fun r => r.1.t == 0 && r.2 == 0) = true := by kernel_rfl
set_option maxHeartbeats 8000000 in
set_option maxRecDepth 100000 in
theorem eawake_any (w : World) (m : Int) (hm : w.cell? ⟨0, 0, none⟩ = some (.int .i64 m)) : Calls Tryz.prog 11 #[] w fun e w' => e = .returned (.bool true) ∧ Gr w w' := by
  obtain ⟨R1, f1, C1⟩ := known_val _ _ aw_1 (by decide)
  obtain ⟨R2, f2, C2⟩ := known_val _ _ aw_2 (by decide)
  obtain ⟨R3, f3, C3⟩ := known_val _ _ aw_3 (by decide)
  obtain ⟨⟨t1, n1, s1, b1⟩, e1⟩ := R1
  obtain ⟨⟨t2, n2, s2, b2⟩, e2⟩ := R2
  obtain ⟨⟨t3, n3, s3, b3⟩, e3⟩ := R3
  simp only [Bool.and_eq_true, beq_iff_eq, Bool.not_eq_true'] at f1 f2 f3
  obtain ⟨⟨rfl, rfl⟩, rfl⟩ := f1
  subst f2
  obtain ⟨rfl, rfl⟩ := f3
  have C1 := hid (C1 w m hm)
  have C2 : Hid (∀ W, Gr w W → _) := hid (fun W h => C2 W m (Gr.keep h hm))
  have C3 : Hid (∀ W, Gr w W → _) := hid (fun W h => C3 W m (Gr.keep h hm))
  clear hm
  unfold Vp pairR at *
  go_enter Tryz.func11, Tryz.ntmps11
  go_wp2_with fail
  refine C1.out.mono ?_
  rintro e w1 ⟨rfl, hg1⟩
  have HG1 := hid hg1
  clear hg1 C1
  go_wp2_with fail
  refine (C2.out _ (HG1.out.alloc _)).mono ?_
  rintro e w2 ⟨rfl, hg2⟩
  have HG2 := hid ((HG1.out.alloc _).trans hg2)
  have HV1 := hid ((hg2.block _ (by simp)).trans (alloc_at w1 _))
  clear hg2 C2 HG1
  go_wp2_with fail
  refine (C3.out _ (HG2.out.alloc _)).mono ?_
  rintro e w3 ⟨rfl, hg3⟩
  have hG := (HG2.out.alloc _).trans hg3
  have hV1 := (hg3.block _ (by have := lt_blk HV1.out; simp; omega)).trans ((((Gr.refl w2).alloc _).block _ (lt_blk HV1.out)).trans HV1.out)
  have c1 := Rg.blk_cells hV1
  have l1 := lt_blk hV1
  clear hg3 C3 HG2 HV1 hV1
  go_wp2
  go_returns
  refine ⟨rfl, ?_⟩
  repeat' (first | exact Gr.refl _ | exact Nat.le_refl _ | exact Nat.le_add_right _ _ | refine Gr.setCell ?_ ?_ _ | refine Gr.alloc ?_ _ | refine Gr.drew ?_ | refine Gr.trans ?_ (by assumption) | omega | (dsimp only; omega))
end Go.Proofs.YtbeinfhgfflneaaGreat
end
section
namespace Go.Proofs.YtbeinfhgfflneaaGreat
open Go.RowKit
set_option linter.unusedSimpArgs false
set_option linter.unusedVariables false
attribute [local go_sem] Rg.leads_value Rg.leads_skip Rg.leads_enter Rg.brings_value Rg.brings_skip Rg.brings_enter Rg.bringsG_value Rg.bringsG_enter Rg.once_normal Rg.once_exit Rg.once_ret Rg.once_panic Rg.once_goto
mutual
theorem fits_mono {c d : Nat} (hd : c ≤ d) : ∀ x : Ex, Ex.fitsX c x → Ex.fitsX d x
  | .mk h ks, hf => by
    rw [Ex.fitsX] at hf ⊢
    exact ⟨hf.1.mono hd, fitss_mono hd ks hf.2⟩
theorem fitss_mono {c d : Nat} (hd : c ≤ d) : ∀ xs : List Ex, Exs.fitsX c xs → Exs.fitsX d xs
  | [], _ => by rw [Exs.fitsX]; trivial
  | x :: xs, hf => by
    rw [Exs.fitsX] at hf ⊢
    exact ⟨fits_mono hd x hf.1, fitss_mono hd xs hf.2⟩
end
theorem fr_one {W : World} {g1 g2 : Nat} {nm0 : ByteArray} {co : Option Addr} {cc0 : Nat} {xo : Option Addr} {xn xc : Nat} {hd0 : Int} {ro : Option Addr} {rn2 rc2 : Nat} {cols : List Cn} {nm : ByteArray} (h1 : W.heap[g1]? = some (.cells (TR.cells ⟨nm0, co, cols.length, cc0, xo, xn, xc, hd0, ro, rn2, rc2⟩) 41 (0, 0))) (h2 : W.heap[g2]? = some (.cells #[.string nm] 9 (0, 0))) (hC : CsAt W co cols) (b1 : cols.length ≤ 9223372036854775806) :
    FrAt W ⟨some ⟨g1, 0, none⟩, 1, 1, some ⟨g2, 0, none⟩, 1, 1⟩ [⟨nm, cols⟩] where
  fn := rfl
  nn := rfl
  le := by show 1 ≤ _; omega
  tot := by unfold totC; simpa using b1
  tab := fun k hk => by
    have : k = 0 := by simpa using hk
    subst this
    refine ⟨g1, 0, ⟨nm0, co, cols.length, cc0, xo, xn, xc, hd0, ro, rn2, rc2⟩, rfl, lt_of_block h1, fun j u hu => ?_, rfl, hC⟩
    have := Rg.blk_cells h1 j
    rw [show 0 + 0 * 5 + j = j by omega, this]
    simpa [TR.f] using hu
  nam := fun k hk => by
    have : k = 0 := by simpa using hk
    subst this
    exact ⟨g2, 0, rfl, lt_of_block h2, Rg.blk_cells h2 0⟩
theorem rows_one {W : World} {g : Nat} {oa : Option Addr} {l : List V} {c : Nat} {T : TypeId} (h : W.heap[g]? = some (.cells #[.slice oa l.length c] T (0, 0))) (hL : VAt W oa l) : RowsAt W (some ⟨g, 0, none⟩) [l] := by
  refine .inr ⟨g, 0, rfl, lt_of_block h, fun k hk => ?_⟩
  have : k = 0 := by simpa using hk
  subst this
  exact ⟨oa, c, Rg.blk_cells h 0, hL⟩
set_option maxHeartbeats 32000000 in
set_option maxRecDepth 100000 in
theorem types_walk (t0 : ByteArray) (nm0 : ByteArray) (co : Option Addr) (cc0 : Nat) (xo : Option Addr) (xn xc : Nat) (hd0 : Int) (ro : Option Addr) (rn2 rc2 : Nat) (cols : List Cn) (oa : Option Addr) (c : Nat) (l : List V) (w : World) (m : Int) (hm : w.cell? ⟨0, 0, none⟩ = some (.int .i64 m)) (hsz : t0.size ≤ maxLen)
    (hC : CsAt w co cols) (hL : VAt w oa l) (b1 : cols.length ≤ 9223372036854775806) (b2 : l.length ≤ 9223372036854775806) (hV : ∀ v ∈ l, VB 140737488355328 v) :
    Calls Tryz.prog 5 #[.string t0, .agg (TR.cells ⟨nm0, co, cols.length, cc0, xo, xn, xc, hd0, ro, rn2, rc2⟩), .slice oa l.length c] w fun e w' => e = .returned (.bool true) ∧ Gr w w' := by
  have hV1 : ∀ q ∈ [l], ∀ v ∈ q, VB 140737488355328 v := fun q hq v hv => by
    have e : q = l := by simpa using hq
    rw [e] at hv
    exact hV v hv
  have EA : Hid (∀ W, Gr w W → Calls Tryz.prog 11 #[] W fun e w' => e = .returned (.bool true) ∧ Gr W w') := hid (fun W h => eawake_any W m (Gr.keep h hm))
  have PC : Hid (∀ W, Gr w W → Calls Tryz.prog 13 #[.string t0] W (ExprP t0 W)) := hid (fun W h => pexpr_any t0 W hsz m (Gr.keep h hm))
  have FC : Hid (∀ W, Gr w W → Calls Tryz.prog 14 #[.agg (TR.cells ⟨nm0, co, cols.length, cc0, xo, xn, xc, hd0, ro, rn2, rc2⟩), .slice oa l.length c] W (Bp (fitL l cols) W)) := hid (fun W h => fits_any nm0 co cc0 xo xn xc hd0 ro rn2 rc2 cols oa c l W (hC.keep h) (hL.keep h) b1 b2)
  have BC : Hid (∀ (x : Ex) (r : XR) (g1 g2 : Nat) W, Gr w W → x.forms ≤ 4097 → Ex.At Al W x r → W.heap[g1]? = some (.cells (TR.cells ⟨nm0, co, cols.length, cc0, xo, xn, xc, hd0, ro, rn2, rc2⟩) 41 (0, 0)) → W.heap[g2]? = some (.cells #[.string ⟨#[116]⟩] 9 (0, 0)) → Calls Tryz.prog 15 #[XR.val r, .slice (some ⟨g1, 0, none⟩) 1 1, .slice (some ⟨g2, 0, none⟩) 1 1, .bool false] W (Xp (bindX [⟨⟨#[116]⟩, cols⟩] false false x) W)) := hid (fun x r g1 g2 W h hx hat h1 h2 => bindE_any x r _ _ 1 1 1 false _ W (by omega) (fr_one h1 h2 (hC.keep h) b1) hat)
  have VC : Hid (∀ (y : Ex) (r : XR) (g : Nat) W, Gr w W → y.forms ≤ 4097 → Ex.noAgg y = true → Ex.fitsX 140737488355328 y → Ex.At Al W y r → W.heap[g]? = some (.cells #[.slice oa l.length c] 42 (0, 0)) → Calls Tryz.prog 8 #[XR.val r, .slice (some ⟨g, 0, none⟩) 1 1, .slice none 0 0] W (Vp (evX [l] agN y) W)) := hid (fun y r g W h hy hna hf hat h1 => eexpr_any y r _ 1 [l] 140737488355328 W hat hna (rows_one h1 (hL.keep h)) hf hV1 (Nat.le_trans (Nat.mul_le_mul_right _ hy) (by decide)))
  have SC : Hid (∀ (y : Ex) (r : XR) W, Ex.At Al W y r → Calls Tryz.prog 16 #[XR.val r] W (Bp (safeX y) W)) := hid (fun y r W h => safe_any y.forms y (Nat.le_refl _) r W h)
  have HCK : Hid (CsAt w co cols) := hid hC
  obtain ⟨W1, hW1⟩ : ∃ W1, w.alloc (.cells (TR.cells ⟨nm0, co, cols.length, cc0, xo, xn, xc, hd0, ro, rn2, rc2⟩) 41) = W1 := ⟨_, rfl⟩
  have HW1 := hid hW1
  have HG1 : Hid (Gr w W1) := hid (by rw [← hW1]; exact (Gr.refl w).alloc _)
  have HT : Hid (W1.heap[w.heap.size]? = some (.cells (TR.cells ⟨nm0, co, cols.length, cc0, xo, xn, xc, hd0, ro, rn2, rc2⟩) 41 (0, 0))) := hid (by rw [← hW1]; exact alloc_at _ _)
  have HB1 := hid b1
  clear hW1 hC hL hm hV hV1 b2
  go_enter Tryz.func5, Tryz.ntmps5
  go_wp2_with fail
  rw [HW1.out]
  clear HW1
  go_loopw [7] (fun s7 wr => Gr W1 wr ∧ ∃ k : Nat, s7 = .int .i64 (k : Int) ∧ k ≤ cols.length) (fun s7 _ => cols.length - (intOf s7).toNat)
  · exact ⟨Gr.refl _, 0, rfl, Nat.zero_le _⟩
  · obtain ⟨hg, k, rfl, hk⟩ := hrel
    have HG := hid (HG1.out.trans hg)
    have HG1r := hid hg
    have HTr := hid ((hg.block _ (lt_of_block HT.out)).trans HT.out)
    have cT := Rg.blk_cells HTr.out
    by_cases hkn : k < cols.length
    · have t1 : decide ((k : Int) < (cols.length : Int)) = true := fi_dec hkn
      have gk : (k : Int) < (cols.length : Int) := fi_lt hkn
      have HWK : Hid _ := hid (fi_wrapL hkn HB1.out)
      have HMS := hid (in_ms hkn)
      obtain ⟨b3, off3, n3, u3, hco, hbl3, hcs3⟩ := HCK.out k hkn
      have hco' : co = some ⟨b3, off3, none⟩ := hco
      subst hco'
      have d1 := HG.out.keep (hcs3 1 _ rfl)
      have hb3 : b3 < wr.heap.size := lt_of_cell d1
      generalize (cols[k]).ty = ty at *
      obtain ⟨y1, e1⟩ : ∃ x, decide (ty < 1) = x := ⟨_, rfl⟩
      obtain ⟨y2, e2⟩ : ∃ x, decide (3 < ty) = x := ⟨_, rfl⟩
      clear hco hcs3 hg hk PC FC BC VC SC HCK
      cases y1 with
      | true =>
        go_wp2_with fail
        refine (EA.out _ (HG.out)).mono ?_
        rintro e w9 ⟨rfl, hg9⟩
        have HG9 := hid hg9
        clear hg9
        go_wp2
        go_returns
        exact ⟨rfl, (HG.out).trans HG9.out⟩
      | false =>
        cases y2 with
        | true =>
          go_wp2_with fail
          refine (EA.out _ (HG.out)).mono ?_
          rintro e w9 ⟨rfl, hg9⟩
          have HG9 := hid hg9
          clear hg9
          go_wp2
          go_returns
          exact ⟨rfl, (HG.out).trans HG9.out⟩
        | false =>
          go_wp2_with fail
          exact ⟨⟨HG1r.out, k + 1, in_next, hkn⟩, HMS.out⟩
    · have t1 : decide ((k : Int) < (cols.length : Int)) = false := fi_dec0 hkn
      have t1n : decide (k < cols.length) = false := fi_decn0 hkn
      clear hk hg HG1 HG1r HCK HT
      go_wp2_with fail
      refine (PC.out _ HG.out).mono ?_
      rintro e w1 ⟨hg1, hx⟩
      have HGA := hid (HG.out.trans hg1)
      have HTA := hid ((hg1.block _ (lt_of_block HTr.out)).trans HTr.out)
      have HAL := hid (alloc_at w1 (.cells zeroX 26))
      have HGB := hid (fun W5 h => gr_boxE (w1 := w1) (o := .cells zeroX 26) (W := W5) h)
      obtain ⟨⟨x, s⟩, hq⟩ : ∃ q, exprT t0 = q := ⟨_, rfl⟩
      rw [hq] at hx
      clear hg1 PC cT
      cases s with
      | bad er at_ =>
        obtain ⟨hne, rfl⟩ := hx
        have q1 : (er != 0) = true := by simpa using hne
        clear FC BC VC SC hne hq
        unfold noX
        go_wp2_with ((guard_target =~ wpList _ _ _ (Oper.mk _ (Op.store 26 _ _) _ _ _ _ :: _) _ _; refine st_row (ty := 26) rfl rfl w1.heap.size zeroX rfl rfl 26 _ HAL.out (by kernel_rfl) rfl (by kernel_rfl) ?_; intro W5 hW5 gW5 zW5; have hg5 := HGB.out W5 gW5; clear gW5 zW5 hW5))
        go_wp2_with fail
        refine (EA.out _ (HGA.out.trans hg5)).mono ?_
        rintro e w9 ⟨rfl, hg9⟩
        have HG9 := hid hg9
        clear hg9
        go_wp2
        go_returns
        exact ⟨rfl, (HGA.out.trans hg5).trans HG9.out⟩
      | ok l0 d0 =>
        obtain ⟨r, rfl, hat⟩ := hx
        obtain ⟨hfo, hfi⟩ := exprT_ok t0 hq
        have HAT : Hid (Ex.At Al w1 x r) := hid (hat.mono (fun _ _ _ => trivial))
        have HFO := hid hfo
        have HFI := hid hfi
        clear hat hfo hfi hq
        unfold XR.val at *
        obtain ⟨bf, hbf⟩ : ∃ b, fitL l cols = b := ⟨_, rfl⟩
        rw [hbf] at FC
        unfold Bp at FC
        cases bf with
        | false =>
          clear BC VC SC
          go_wp2_with (first | (guard_target =~ wpList _ _ _ (Oper.mk _ (Op.store 26 _ _) _ _ _ _ :: _) _ _; refine st_row (ty := 26) rfl rfl w1.heap.size (XR.cells r) rfl rfl 26 _ HAL.out (by kernel_rfl) rfl (by kernel_rfl) ?_; intro W5 hW5 gW5 zW5; have hg5 := HGB.out W5 gW5; have HW5 := hid hW5; have HT5 := hid ((hg5.block _ (lt_of_block HTA.out)).trans HTA.out); have cT5 := Rg.blk_cells HT5.out; clear gW5 zW5 hW5) | (guard_target =~ wpList _ _ _ (Oper.mk _ (Op.load 41 _) _ _ _ _ :: _) _ _; refine wpList_load_row rfl 41 _ rfl w.heap.size rfl 41 (TR.cells ⟨nm0, co, cols.length, cc0, xo, xn, xc, hd0, ro, rn2, rc2⟩) (0, 0) _ HT5.out Tryz.underlying41 rfl (by kernel_rfl) ?_))
          refine (FC.out W5 (HGA.out.trans hg5)).mono ?_
          rintro e w2 ⟨rfl, hg2⟩
          have HG2 := hid ((HGA.out.trans hg5).trans hg2)
          clear hg2 hg5 cT5
          go_wp2_with fail
          refine (EA.out _ (HG2.out)).mono ?_
          rintro e w9 ⟨rfl, hg9⟩
          have HG9 := hid hg9
          clear hg9
          go_wp2
          go_returns
          exact ⟨rfl, (HG2.out).trans HG9.out⟩
        | true =>
          have HFT := hid (fitL_len hbf)
          clear hbf
          go_wp2_with (first | (guard_target =~ wpList _ _ _ (Oper.mk _ (Op.store 26 _ _) _ _ _ _ :: _) _ _; refine st_row (ty := 26) rfl rfl w1.heap.size (XR.cells r) rfl rfl 26 _ HAL.out (by kernel_rfl) rfl (by kernel_rfl) ?_; intro W5 hW5 gW5 zW5; have hg5 := HGB.out W5 gW5; have HW5 := hid hW5; have HT5 := hid ((hg5.block _ (lt_of_block HTA.out)).trans HTA.out); have cT5 := Rg.blk_cells HT5.out; clear gW5 zW5 hW5) | (guard_target =~ wpList _ _ _ (Oper.mk _ (Op.load 41 _) _ _ _ _ :: _) _ _; refine wpList_load_row rfl 41 _ rfl w.heap.size rfl 41 (TR.cells ⟨nm0, co, cols.length, cc0, xo, xn, xc, hd0, ro, rn2, rc2⟩) (0, 0) _ HT5.out Tryz.underlying41 rfl (by kernel_rfl) ?_))
          refine (FC.out W5 (HGA.out.trans hg5)).mono ?_
          rintro e w2 ⟨rfl, hg2⟩
          have HG2 := hid ((HGA.out.trans hg5).trans hg2)
          have HX2 : Hid (w2.heap[w1.heap.size]? = some (.cells (XR.cells r) 26 (0, 0))) := hid ((hg2.block _ (lt_of_block HW5.out)).trans HW5.out)
          have HT2 : Hid (w2.heap[w.heap.size]? = some (.cells (TR.cells ⟨nm0, co, cols.length, cc0, xo, xn, xc, hd0, ro, rn2, rc2⟩) 41 (0, 0))) := hid ((hg2.block _ (lt_of_block HT5.out)).trans HT5.out)
          have HAT2 : Hid (Ex.At Al w2 x r) := hid (at_gr HAT.out (hg5.trans hg2))
          clear hg2 hg5 cT5 HW5 HT5 HAT FC HTA HAL HGB HTr HGA
          have hA : ((w2.alloc (.cells (TR.cells ⟨nm0, co, cols.length, cc0, xo, xn, xc, hd0, ro, rn2, rc2⟩) 41)).alloc (.cells #[.string ⟨#[116]⟩] 9)).heap[w2.heap.size]? = some (.cells (TR.cells ⟨nm0, co, cols.length, cc0, xo, xn, xc, hd0, ro, rn2, rc2⟩) 41 (0, 0)) := (((Gr.refl _).alloc _).block _ (by rw [World.size_alloc]; exact Nat.lt_succ_self _)).trans (alloc_at _ _)
          have HAA := hid hA
          clear hA
          obtain ⟨⟨y, n, f⟩, hb⟩ : ∃ q, bindX [⟨⟨#[116]⟩, cols⟩] false false x = q := ⟨_, rfl⟩
          obtain ⟨hs1, hs2⟩ := bindX_small 4096 [⟨⟨#[116]⟩, cols⟩] false false x HFI.out
          rw [hb] at hs1 hs2
          have HYF : Hid (y.forms ≤ 4097) := hid (Nat.le_trans hs1 HFO.out)
          have HYI : Hid (Ex.fitsX 140737488355328 y) := hid (fits_mono (by decide) y hs2)
          have BC2 : Hid (Calls Tryz.prog 15 #[.agg (XR.cells r), .slice (some ⟨w2.heap.size, 0, none⟩) 1 1, .slice (some ⟨w2.heap.size + 1, 0, none⟩) 1 1, .bool false] ((w2.alloc (.cells (TR.cells ⟨nm0, co, cols.length, cc0, xo, xn, xc, hd0, ro, rn2, rc2⟩) 41)).alloc (.cells #[.string ⟨#[116]⟩] 9)) (Xp (y, n, f) ((w2.alloc (.cells (TR.cells ⟨nm0, co, cols.length, cc0, xo, xn, xc, hd0, ro, rn2, rc2⟩) 41)).alloc (.cells #[.string ⟨#[116]⟩] 9)))) := hid (by
            have := BC.out x r w2.heap.size (w2.heap.size + 1) _ (HG2.out.trans (((Gr.refl w2).alloc _).alloc _)) HFO.out (at_gr HAT2.out (((Gr.refl w2).alloc _).alloc _)) HAA.out (at_2 _ _ _)
            rw [hb] at this
            exact this)
          have HBB := hid hb
          have HGW : Hid (Gr w2 ((w2.alloc (.cells (TR.cells ⟨nm0, co, cols.length, cc0, xo, xn, xc, hd0, ro, rn2, rc2⟩) 41)).alloc (.cells #[.string ⟨#[116]⟩] 9))) := hid (((Gr.refl w2).alloc _).alloc _)
          unfold Xp at BC2
          clear hb hs1 hs2 BC HAA HAT2 HFO HFI
          go_wp2_with (first | (guard_target =~ wpList _ _ _ (Oper.mk _ (Op.load 26 _) _ _ _ _ :: _) _ _; refine wpList_load_row rfl 26 _ rfl w1.heap.size rfl 26 (XR.cells r) (0, 0) _ HX2.out Tryz.underlying26 rfl (by kernel_rfl) ?_) | (guard_target =~ wpList _ _ _ (Oper.mk _ (Op.load 41 _) _ _ _ _ :: _) _ _; refine wpList_load_row rfl 41 _ rfl w.heap.size rfl 41 (TR.cells ⟨nm0, co, cols.length, cc0, xo, xn, xc, hd0, ro, rn2, rc2⟩) (0, 0) _ HT2.out Tryz.underlying41 rfl (by kernel_rfl) ?_))
          refine BC2.out.mono ?_
          rintro e w3 ⟨r2, rfl, hx2, hg3⟩
          have HG3 := hid ((HG2.out.trans HGW.out).trans hg3)
          have HY3 : Hid (Ex.At Al w3 y r2) := hid (hx2.mono (fun _ _ _ => trivial))
          have HAL3 := hid (alloc_at w3 (.cells zeroX 26))
          have HGB3 := hid (fun W5 h => gr_boxE (w1 := w3) (o := .cells zeroX 26) (W := W5) h)
          clear hx2 hg3 BC2 HGW HG2 HX2 HT2
          by_cases hf0 : f = 0
          · subst hf0
            have hty := bind_ty ⟨#[116]⟩ cols l HFT.out false x y n HBB.out
            have HTY := hid hty.1
            have HNA := hid hty.2
            clear hty HFT HBB
            obtain ⟨⟨⟨tn, nn, sn, bn⟩, en⟩, hev⟩ : ∃ q, evX [l] agN y = q := ⟨_, rfl⟩
            rw [hev] at HTY
            have VC2 : Hid (∀ g W, Gr w3 W → W.heap[g]? = some (.cells #[.slice oa l.length c] 42 (0, 0)) → Calls Tryz.prog 8 #[.agg (XR.cells r2), .slice (some ⟨g, 0, none⟩) 1 1, .slice none 0 0] W (Vp (⟨tn, nn, sn, bn⟩, en) W)) := hid (fun g W h h1 => by
              have := VC.out y r2 g W (HG3.out.trans h) HYF.out HNA.out HYI.out (at_gr HY3.out h) h1
              rw [hev] at this
              exact this)
            clear VC HNA HYI HYF hev
            unfold Vp pairR at VC2
            unfold XR.val at *
            simp only
            go_upto_region 12 with (first | (guard_target =~ wpList _ _ _ (Oper.mk _ (Op.store 26 _ _) _ _ _ _ :: _) _ _; refine st_row (ty := 26) rfl rfl w3.heap.size (XR.cells r2) rfl rfl 26 _ HAL3.out (by kernel_rfl) rfl (by kernel_rfl) ?_; intro W6 hW5 gW5 zW5; have HG36 := hid (HGB3.out W6 gW5); have HG6 := hid (HG3.out.trans (HGB3.out W6 gW5)); have HW6 := hid hW5; clear gW5 zW5 hW5))
            go_wp2_with (first | (guard_target =~ wpList _ _ _ (Oper.mk _ (Op.load 26 _) _ _ _ _ :: _) _ _; refine wpList_load_row rfl 26 _ rfl w3.heap.size rfl 26 (XR.cells r2) (0, 0) _ HW6.out Tryz.underlying26 rfl (by kernel_rfl) ?_))
            refine (VC2.out _ _ (HG36.out.alloc _) (alloc_at _ _)).mono ?_
            rintro e w4 ⟨rfl, hg4⟩
            have HG64 : Hid (Gr W6 w4) := hid (((Gr.refl _).alloc _).trans hg4)
            have HAV := hid (alloc_at w4 (.cells zeroV 23))
            have HGV := hid (fun W5 h => gr_boxE (w1 := w4) (o := .cells zeroV 23) (W := W5) h)
            clear hg4 VC2
            by_cases hen : en = 0
            · subst hen
              have hok := HTY.out.ok rfl
              have HOK : Hid (tn = 0 ∨ tn = n) := hid hok
              clear HTY SC hok
              go_upto_region 15 with (first | (guard_target =~ wpList _ _ _ (Oper.mk _ (Op.store 23 _ _) _ _ _ _ :: _) _ _; refine st_row (ty := 23) rfl rfl w4.heap.size #[.int .i64 tn, .int .i64 nn, .string sn, .bool bn] rfl rfl 23 _ HAV.out (by kernel_rfl) rfl (by kernel_rfl) ?_; intro W8 hW5 gW5 zW5; have HG48 := hid (HGV.out W8 gW5); have HG8 := hid ((HG6.out.trans HG64.out).trans (HGV.out W8 gW5)); have HG38 := hid ((HG36.out.trans HG64.out).trans (HGV.out W8 gW5)); have HY8 := hid (((HG64.out.trans (HGV.out W8 gW5)).block _ (lt_of_block HW6.out)).trans HW6.out); have cV := Rg.blk_cells hW5; clear gW5 zW5 hW5))
              obtain ⟨z1, k1⟩ : ∃ x, (tn == 0) = x := ⟨_, rfl⟩
              obtain ⟨z2, k2⟩ : ∃ x, (tn == n) = x := ⟨_, rfl⟩
              have HZ : Hid ((z1 || z2) = true) := hid (by
                rcases HOK.out with e | e
                · rw [← k1, e]; rfl
                · rw [← k2, e]; simp)
              clear HOK
              cases z1 with
              | true =>
                go_wp2_with fail
                refine (EA.out _ HG8.out).mono ?_
                rintro e w9 ⟨rfl, hg9⟩
                have HG9 := hid hg9
                clear hg9
                go_wp2
                go_returns
                exact ⟨rfl, HG8.out.trans HG9.out⟩
              | false =>
                obtain rfl : z2 = true := HZ.out
                go_wp2_with fail
                refine (EA.out _ HG8.out).mono ?_
                rintro e w9 ⟨rfl, hg9⟩
                have HG9 := hid hg9
                clear hg9
                go_wp2
                go_returns
                exact ⟨rfl, HG8.out.trans HG9.out⟩
            · have q1 : (en != 0) = true := by simpa using hen
              have hbad := HTY.out.bad hen
              have hsf : safeX y = false := by
                cases h : safeX y with
                | false => rfl
                | true => exact absurd (HTY.out.safe h) hen
              have SC2 : Hid (∀ W, Gr w3 W → Calls Tryz.prog 16 #[.agg (XR.cells r2)] W (Bp false W)) := hid (fun W h => by
                have := SC.out y r2 W (at_gr HY3.out h)
                rw [hsf] at this
                exact this)
              unfold Bp at SC2
              clear HTY SC hsf hen
              rcases hbad with rfl | rfl
              all_goals
                go_upto_region 14 with (first | (guard_target =~ wpList _ _ _ (Oper.mk _ (Op.store 23 _ _) _ _ _ _ :: _) _ _; refine st_row (ty := 23) rfl rfl w4.heap.size #[.int .i64 tn, .int .i64 nn, .string sn, .bool bn] rfl rfl 23 _ HAV.out (by kernel_rfl) rfl (by kernel_rfl) ?_; intro W8 hW5 gW5 zW5; have HG48 := hid (HGV.out W8 gW5); have HG8 := hid ((HG6.out.trans HG64.out).trans (HGV.out W8 gW5)); have HG38 := hid ((HG36.out.trans HG64.out).trans (HGV.out W8 gW5)); have HY8 := hid (((HG64.out.trans (HGV.out W8 gW5)).block _ (lt_of_block HW6.out)).trans HW6.out); have cV := Rg.blk_cells hW5; clear gW5 zW5 hW5))
                have cY := Rg.blk_cells HY8.out
                go_wp2_with fail
                refine (SC2.out _ HG38.out).mono ?_
                rintro e w7 ⟨rfl, hg7⟩
                have HG7 := hid (HG8.out.trans hg7)
                clear hg7 cY
                go_wp2_with fail
                refine (EA.out _ HG7.out).mono ?_
                rintro e w9 ⟨rfl, hg9⟩
                have HG9 := hid hg9
                clear hg9
                go_wp2
                go_returns
                exact ⟨rfl, HG7.out.trans HG9.out⟩
          · have q1 : (f != 0) = true := by simpa using hf0
            clear VC SC HFT HBB HYI HYF hf0 HY3
            unfold XR.val at *
            simp only
            go_wp2_with (first | (guard_target =~ wpList _ _ _ (Oper.mk _ (Op.store 26 _ _) _ _ _ _ :: _) _ _; refine st_row (ty := 26) rfl rfl w3.heap.size (XR.cells r2) rfl rfl 26 _ HAL3.out (by kernel_rfl) rfl (by kernel_rfl) ?_; intro W6 hW5 gW5 zW5; have HG36 := hid (HGB3.out W6 gW5); have HG6 := hid (HG3.out.trans (HGB3.out W6 gW5)); have HW6 := hid hW5; clear gW5 zW5 hW5))
            refine (EA.out _ HG6.out).mono ?_
            rintro e w9 ⟨rfl, hg9⟩
            have HG9 := hid hg9
            clear hg9
            go_wp2
            go_returns
            exact ⟨rfl, HG6.out.trans HG9.out⟩
end Go.Proofs.YtbeinfhgfflneaaGreat
end
section
namespace Go.Proofs.YtbeinfhgfflneaaGreat
open Go.RowKit Go.WideShapes Go.ChangeShapes
set_option linter.unusedVariables false
section
variable {H : Type} {enc : TypeId × Value → H} {P : Program} {f : Func} {s : ChangeSpec} {apart fresh handsOn again : Bool} {W W' : World} {args : Array Value} {v : Value} {ds gs : List (DataW H)} {before pa pv : List MemPlace}
theorem post_kept (hW : DataW.Whole enc P f.params.toList s.vars apart W args.toList ds gs before) (hb : Below W.heap.size W W') (hps : before = pa ++ pv)
    (hres : ∀ (b : Nat) (sp : Nat → Bool) (hd : Bool), DataW.TrodAll enc P W' b sp hd f.resultTypes.toList (v.resultList f.resultTypes.size) (s.fn H (ds ++ gs)).results [])
    (hargs : ∀ sp : Nat → Bool, (∀ p ∈ before, sp p.block = true) → DataW.TrodAll enc P W' 0 sp true f.params.toList args.toList (s.fn H (ds ++ gs)).args pa)
    (hvars : ∀ sp : Nat → Bool, (∀ p ∈ before, sp p.block = true) → DataW.TrodVars enc P W' sp s.vars (s.fn H (ds ++ gs)).vars pv)
    (hok : ∀ (j : Nat) (t : TypeId) (r : Value), f.resultTypes[j]? = some t → (v.resultList f.resultTypes.size)[j]? = some r → Value.okWide P W' .any 0 t r) :
    s.post enc P f apart fresh handsOn again W args v W' := by
  have below : ∀ p ∈ before, p.block < W.heap.size := fun p hp => hW.lt p hp
  have seen : ∀ p ∈ before, decide (p.block < W.heap.size) = true := fun p hp => decide_eq_true (below p hp)
  have whole := hW
  obtain ⟨_, _, _, _, _, frz, ndp⟩ := whole
  refine ⟨ds, gs, before, [], pa, pv, hW, hres _ _ _, hargs (fun b => decide (b < W.heap.size)) seen, hvars (fun b => decide (b < W.heap.size)) seen, ?_, fun _ => ⟨hok, _, _, ([] ++ pa) ++ pv, ⟨[] ++ pa, pv, trodAll_append (hargs _ (fun _ _ => rfl)) (hres _ _ _), hvars _ (fun _ _ => rfl), rfl, ?_, ?_⟩, ?_⟩⟩
  · refine World.keptBut_mono (fun p hp => ⟨hp, ?_⟩) (hb.frame (· ∈ before))
    rw [hps, List.mem_append] at hp
    exact Or.inr hp
  · intro b off hp
    have hin : MemPlace.cell b off ∈ before := by rw [hps]; simpa using hp
    rw [hb.frozen (below _ hin)]
    exact frz b off hin
  · intro ha
    have h := ndp ha
    rw [hps] at h
    simpa using h
  · intro p hp _
    rw [hps]
    simpa using hp
end
end Go.Proofs.YtbeinfhgfflneaaGreat
end
section
namespace Go.Proofs.YtbeinfhgfflneaaGreat
open Go.ChangeShapes Go.WideShapes Go.RowKit Go.Joins
open Go.ChangeMaps (open_string shut_string)
set_option linter.unusedVariables false
def V.data {H : Type} (v : V) : DataW H := .agg [.lit (.int .i64 v.t), .lit (.int .i64 v.n), .lit (.string v.s.data.toList), .lit (.bool v.b)]
end Go.Proofs.YtbeinfhgfflneaaGreat
end
section
namespace Go.Proofs.YtbeinfhgfflneaaGreat
theorem bd_of_wf {n : Int} (h : (Lit.int .i64 n).wf = true) : Bd n := by
  have h' : IntKind.i64.min ≤ n ∧ n ≤ 9223372036854775807 := by simpa [Lit.wf] using h
  exact ⟨h'.1, h'.2⟩
end Go.Proofs.YtbeinfhgfflneaaGreat
end

/- row: tables; whether a row fits. (By mkK1.py.) -/
import Derived.Test.YtacbhkmkknicoaaDoorAw
namespace Go.Proofs.YtacbhkmkknicoaaDoor
open Go.RowKit
set_option linter.unusedSimpArgs false
set_option linter.unusedVariables false
attribute [local go_sem] Rg.leads_value Rg.leads_skip Rg.leads_enter Rg.brings_value Rg.brings_skip Rg.brings_enter Rg.bringsG_value Rg.bringsG_enter
def idxB {α : Type} (p : α → Bool) : List α → Nat → Int
  | [], _ => -1
  | x :: r, i => if p x = true then (i : Int) else idxB p r (i + 1)
theorem idx_drop {α : Type} {p : α → Bool} {l : List α} {k : Nat} (h : k < l.length) : idxB p (l.drop k) k = if p l[k] = true then (k : Int) else idxB p (l.drop (k + 1)) (k + 1) := by
  rw [List.drop_eq_getElem_cons h]; rfl
theorem idx_bd {α : Type} {p : α → Bool} : ∀ (l : List α) (i : Nat), idxB p l i = -1 ∨ ∃ k, ∃ h : k < l.length, idxB p l i = ((i + k : Nat) : Int) ∧ p l[k] = true ∧ ∀ j (hj : j < k), p (l[j]'(by omega)) = false
  | [], _ => .inl rfl
  | x :: r, i => by
    unfold idxB
    split
    · rename_i h; exact .inr ⟨0, by simp, rfl, h, fun j hj => by omega⟩
    · rename_i h
      rcases idx_bd r (i + 1) with h1 | ⟨k, hk, h1, h2, h3⟩
      · exact .inl h1
      · refine .inr ⟨k + 1, by simpa using hk, by rw [h1]; congr 1; omega, by simpa using h2, fun j hj => ?_⟩
        cases j with
        | zero => simpa using h
        | succ j => simpa using h3 j (by omega)
theorem idx_neg {α : Type} {p : α → Bool} : ∀ (l : List α) (i : Nat), idxB p l i < 0 ↔ ∀ x ∈ l, p x = false
  | [], i => by simp [idxB]
  | x :: r, i => by
    unfold idxB
    split
    · rename_i h
      simp only [List.mem_cons, forall_eq_or_imp, h]
      constructor
      · intro h0; omega
      · intro h0; cases h0.1
    · rename_i h
      rw [idx_neg r (i + 1)]
      simp [h]

structure Col where
  nm : ByteArray
  ty : Int
  nn : Bool
  uq : Bool
structure Ix where
  nm : ByteArray
  co : Int
  uq : Bool
def cF (x : Col) : List Value := [.string x.nm, .int .i64 x.ty, .bool x.nn, .bool x.uq]
def xF (x : Ix) : List Value := [.string x.nm, .int .i64 x.co, .bool x.uq]
theorem cE : Enc cF 4 := ⟨fun _ => rfl, fun x u hu => by simp [cF] at hu; rcases hu with rfl | rfl | rfl | rfl <;> rfl, by omega⟩
theorem xE : Enc xF 3 := ⟨fun _ => rfl, fun x u hu => by simp [xF] at hu; rcases hu with rfl | rfl | rfl <;> rfl, by omega⟩
abbrev CAt := AtF cF 4
abbrev XAt := AtF xF 3
theorem c_get {w : World} {oa : Option Addr} {l : List Col} (h : CAt w oa l) (k : Nat) (hk : k < l.length) : ∃ b off, oa = some ⟨b, off, none⟩ ∧
    w.cell? ⟨b, off + k * 4, none⟩ = some (.string l[k].nm) ∧ w.cell? ⟨b, off + k * 4 + 1, none⟩ = some (.int .i64 l[k].ty) ∧ w.cell? ⟨b, off + k * 4 + 2, none⟩ = some (.bool l[k].nn) ∧ w.cell? ⟨b, off + k * 4 + 3, none⟩ = some (.bool l[k].uq) := by
  obtain ⟨b, off, e, _, hc⟩ := h.get k hk
  refine ⟨b, off, e, ?_, hc 1 _ rfl, hc 2 _ rfl, hc 3 _ rfl⟩
  have := hc 0 (.string l[k].nm) rfl
  simpa using this
theorem x_get {w : World} {oa : Option Addr} {l : List Ix} (h : XAt w oa l) (k : Nat) (hk : k < l.length) : ∃ b off, oa = some ⟨b, off, none⟩ ∧
    w.cell? ⟨b, off + k * 3, none⟩ = some (.string l[k].nm) ∧ w.cell? ⟨b, off + k * 3 + 1, none⟩ = some (.int .i64 l[k].co) ∧ w.cell? ⟨b, off + k * 3 + 2, none⟩ = some (.bool l[k].uq) := by
  obtain ⟨b, off, e, _, hc⟩ := h.get k hk
  refine ⟨b, off, e, ?_, hc 1 _ rfl, hc 2 _ rfl⟩
  have := hc 0 (.string l[k].nm) rfl
  simpa using this
/-- a table -/
structure Tb where
  nm : ByteArray
  oc : Option Addr
  cs : List Col
  cc : Nat
  ox : Option Addr
  xs : List Ix
  cx : Nat
  hd : Int
  od : Option Addr
  rs : List Int
  cr : Nat
def Tb.val (t : Tb) : Value := .agg #[.string t.nm, .slice t.oc t.cs.length t.cc, .slice t.ox t.xs.length t.cx, .int .i64 t.hd, .slice t.od t.rs.length t.cr]
structure TbAt (w : World) (t : Tb) : Prop where
  c : CAt w t.oc t.cs
  x : XAt w t.ox t.xs
  r : IAt w t.od t.rs
  cl : t.cs.length ≤ 9223372036854775807
  xl : t.xs.length ≤ 9223372036854775807
  rl : t.rs.length ≤ 9223372036854775807
theorem TbAt.keep {w w' : World} {t : Tb} (h : TbAt w t) (hg : Gr w w') : TbAt w' t := ⟨h.c.keep hg, h.x.keep hg, h.r.keep hg, h.cl, h.xl, h.rl⟩
def longB (v : V) : Bool := (v.t == 2) && decide (40 < v.s.size)
set_option maxHeartbeats 2000000 in
set_option maxRecDepth 100000 in
theorem long_any (v : V) (w : World) : Calls Tryd.prog 27 #[v.val] w fun e w' => e = .returned (.bool (longB v)) ∧ Gr w w' := by
  obtain ⟨t, n, s, b⟩ := v
  unfold longB V.val
  simp only
  by_cases h1 : t = 2
  · subst h1
    rw [show ((2 : Int) == 2) = true from rfl, Bool.true_and]
    obtain ⟨q, hq⟩ : ∃ q, decide (40 < s.size) = q := ⟨_, rfl⟩
    have hq2 : decide ((40 : Int) < (s.size : Int)) = q := by rw [← hq]; congr 1; simp; omega
    rw [hq]
    go_enter Tryd.func27, Tryd.ntmps27
    go_wp2
    go_ret
    exact ⟨rfl, (Gr.refl _).alloc _⟩
  · have q1 : (t == 2) = false := by simpa using h1
    rw [q1, Bool.false_and]
    clear h1
    go_enter Tryd.func27, Tryd.ntmps27
    go_wp2
    go_ret
    exact ⟨rfl, (Gr.refl _).alloc _⟩
theorem xis_any (x : Ix) (n : Int) (gp : Nat) (w : World) (h1 : w.cell? ⟨gp, 0, none⟩ = some (.int .i64 n)) :
    Calls Tryd.prog 26 #[.agg #[.string x.nm, .int .i64 x.co, .bool x.uq], .pointer (some ⟨gp, 0, none⟩)] w fun e w' => e = .returned (.bool (x.co == n)) ∧ Gr w w' := by
  have l1 := lt_of_cell h1
  have l3 : gp < w.heap.size + 1 := by omega
  go_enter Tryd.func26, Tryd.ntmps26
  go_wp2
  go_ret
  exact ⟨rfl, (Gr.refl _).alloc _⟩
set_option maxHeartbeats 2000000 in
set_option maxRecDepth 100000 in
theorem xindex (oa : Option Addr) (c : Nat) (l : List Ix) (n : Int) (gp : Nat) (w : World) (hl : l.length ≤ 9223372036854775807) (hp : XAt w oa l) (h1 : w.cell? ⟨gp, 0, none⟩ = some (.int .i64 n)) :
    Calls Tryd.prog 55 #[.slice oa l.length c, .func (.func 26) #[] #[.pointer (some ⟨gp, 0, none⟩)]] w fun e w' => e = .returned (.int .i64 (idxB (fun x => x.co == n) l 0)) ∧ Gr w w' := by
  obtain ⟨RR, hRR⟩ : ∃ R, R = idxB (fun x : Ix => x.co == n) l 0 := ⟨_, rfl⟩
  rw [← hRR]
  have HR : Hid (RR = idxB (fun x : Ix => x.co == n) (l.drop 0) 0) := hid hRR
  have HP := hid hp
  clear hRR hp
  go_enter Tryd.func55, Tryd.ntmps55
  go_wp2_with fail
  go_loopw [8] (fun i wr => ∃ k : Nat, i = .int .i64 k ∧ k ≤ l.length ∧ Gr w wr ∧ Hid (RR = idxB (fun x : Ix => x.co == n) (l.drop k) k)) (fun i _ => l.length - (intOf i).toNat)
  case atStart => exact ⟨0, rfl, Nat.zero_le _, Gr.refl _, HR⟩
  case round =>
    obtain ⟨k, rfl, hk, hg, H⟩ := hrel
    by_cases hlt : k < l.length
    · obtain ⟨b, off, rfl, c0, c1, c2⟩ := x_get (HP.out.keep hg) k hlt
      have HH := H.out
      rw [idx_drop hlt] at HH
      have hbb := lt_of_cell c0
      have hkn : (k : Int) ≤ 9223372036854775807 := by omega
      have gk : decide ((l.length : Int) ≤ (k : Int)) = false := by simp; omega
      obtain ⟨tb, htb⟩ : ∃ t, (l[k].co == n) = t := ⟨_, rfl⟩
      have I := fun W (hW : Gr w W) => xis_any l[k] n gp W (hW.keep h1)
      simp only [htb] at HH I
      have HI := hid I
      clear I H htb
      generalize l[k] = x at *
      cases tb
      · have HH' : Hid (RR = idxB (fun x : Ix => x.co == n) (l.drop (k + 1)) (k + 1)) := hid (by simpa using HH)
        clear HH
        go_wp2_with fail
        refine (HI.out _ hg).mono ?_
        rintro e w1 ⟨rfl, h1⟩
        go_wp2
        exact ⟨⟨k + 1, by go_num, by omega, hg.trans h1, HH'⟩, by simp [intOf]; omega⟩
      · have HH' : Hid (RR = (k : Int)) := hid (by simpa using HH)
        clear HH
        go_wp2_with fail
        refine (HI.out _ hg).mono ?_
        rintro e w1 ⟨rfl, h1⟩
        go_wp2
        go_ret
        exact ⟨by rw [HH'.out]; rfl, hg.trans h1⟩
    · obtain rfl : k = l.length := by omega
      have hn : RR = -1 := by rw [H.out, List.drop_length]; rfl
      subst hn
      go_wp2
      go_ret
      exact ⟨rfl, hg⟩
/-- has a column an index of the list? -/
def hasX (l : List Ix) (n : Int) : Bool := l.any fun x => x.co == n
theorem has_idx (l : List Ix) (n : Int) : decide ((0 : Int) ≤ idxB (fun x : Ix => x.co == n) l 0) = hasX l n := by
  unfold hasX
  rw [Bool.eq_iff_iff, decide_eq_true_iff, List.any_eq_true]
  have h := idx_neg (p := fun x : Ix => x.co == n) l 0
  constructor
  · intro h0
    have hn : ¬ ∀ x ∈ l, (fun x : Ix => x.co == n) x = false := fun h' => by have := h.2 h'; omega
    have : ∃ x ∈ l, ¬ (fun x : Ix => x.co == n) x = false := by
      false_or_by_contra
      rename_i hh
      exact hn fun x hx => by
        false_or_by_contra
        rename_i hq
        exact hh ⟨x, hx, hq⟩
    obtain ⟨x, hx, hq⟩ := this
    exact ⟨x, hx, by simpa using hq⟩
  · rintro ⟨x, hx, hq⟩
    false_or_by_contra
    rename_i hneg
    have h2 := h.1 (by omega) x hx
    have h3 : (x.co == n) = false := h2
    rw [hq] at h3
    cases h3
theorem xhas (oa : Option Addr) (c : Nat) (l : List Ix) (n : Int) (gp : Nat) (w : World) (hl : l.length ≤ 9223372036854775807) (hp : XAt w oa l) (h1 : w.cell? ⟨gp, 0, none⟩ = some (.int .i64 n)) :
    Calls Tryd.prog 25 #[.slice oa l.length c, .func (.func 26) #[] #[.pointer (some ⟨gp, 0, none⟩)]] w fun e w' => e = .returned (.bool (hasX l n)) ∧ Gr w w' := by
  have C := hid (xindex oa c l n gp w hl hp h1)
  have hd := has_idx l n
  generalize idxB (fun x : Ix => x.co == n) l 0 = I at *
  generalize hasX l n = H at *
  clear hp h1
  go_enter Tryd.func25, Tryd.ntmps25
  go_wp2_with fail
  refine C.out.mono ?_
  rintro e w1 ⟨rfl, hg1⟩
  go_wp2
  go_ret
  exact ⟨rfl, hg1⟩
end Go.Proofs.YtacbhkmkknicoaaDoor

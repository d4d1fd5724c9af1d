/- redo: lines; Analyze. -/
import Derived.Test.YtmanokhadppeeaaS3
import Derived.Test.YtmanokhadppeeaaRf
import Derived.Deep.DeepCutAuto
namespace Go.Proofs.Ytmanokhadppeeaa
open Go.RowKit
set_option linter.unusedSimpArgs false
set_option linter.unusedVariables false
attribute [local go_sem] Rg.leads_value Rg.leads_skip Rg.leads_enter Rg.brings_value Rg.brings_skip Rg.brings_enter Rg.bringsG_value Rg.bringsG_enter
def bF (x : Int) : List Value := [.int .u8 x]
theorem bE : Enc bF 1 := ⟨fun _ => rfl, fun x u hu => by simp [bF] at hu; subst hu; rfl, by omega⟩
abbrev BAt := AtF bF 1
/-- a line of the log -/
structure Ln where
  lsn : Int
  kind : Int
  txn : Int
  prev : Int
  next : Int
  page : Int
  off : Int
  ob : Option Addr
  bs : List Int
  cb : Nat
  oa : Option Addr
  es : List Int
  ca : Nat
  ot : Option Addr
  ts : List Tx
  ct : Nat
  od : Option Addr
  ds : List Dy
  cd : Nat
  cnt : Int
def rF (x : Ln) : List Value := [.int .i64 x.kind, .int .i64 x.txn, .int .i64 x.prev, .int .i64 x.next, .int .i64 x.page, .int .i64 x.off, .slice x.ob x.bs.length x.cb, .slice x.oa x.es.length x.ca, .slice x.ot x.ts.length x.ct, .slice x.od x.ds.length x.cd, .int .i64 x.cnt]
def nF (x : Ln) : List Value := .int .i64 x.lsn :: rF x
theorem rE : Enc rF 11 := ⟨fun _ => rfl, fun x u hu => by simp [rF] at hu; rcases hu with rfl | rfl | rfl | rfl | rfl | rfl | rfl | rfl | rfl | rfl | rfl <;> rfl, by omega⟩
theorem nE : Enc nF 12 := ⟨fun _ => rfl, fun x u hu => by simp [nF, rF] at hu; rcases hu with rfl | rfl | rfl | rfl | rfl | rfl | rfl | rfl | rfl | rfl | rfl | rfl <;> rfl, by omega⟩
structure LnOk (w : World) (x : Ln) : Prop where
  b : BAt w x.ob x.bs
  a : BAt w x.oa x.es
  t : TAt w x.ot x.ts
  d : DAt w x.od x.ds
theorem LnOk.keep {w w' : World} {x : Ln} (h : LnOk w x) (hg : Gr w w') : LnOk w' x := ⟨h.b.keep hg, h.a.keep hg, h.t.keep hg, h.d.keep hg⟩
structure LAt (w : World) (ol : Option Addr) (l : List Ln) : Prop where
  at' : AtF nF 12 w ol l
  ok : ∀ x ∈ l, LnOk w x
theorem LAt.keep {w w' : World} {ol : Option Addr} {l : List Ln} (h : LAt w ol l) (hg : Gr w w') : LAt w' ol l := ⟨h.at'.keep hg, fun x hx => (h.ok x hx).keep hg⟩
theorem n_get {w : World} {oa : Option Addr} {l : List Ln} (h : LAt w oa l) (k : Nat) (hk : k < l.length) : ∃ b off, oa = some ⟨b, off, none⟩ ∧
    w.cell? ⟨b, off + k * 12, none⟩ = some (.int .i64 l[k].lsn) ∧ w.cell? ⟨b, off + k * 12 + 1, none⟩ = some (.int .i64 l[k].kind) ∧ w.cell? ⟨b, off + k * 12 + 2, none⟩ = some (.int .i64 l[k].txn) ∧ w.cell? ⟨b, off + k * 12 + 3, none⟩ = some (.int .i64 l[k].prev) ∧
    w.cell? ⟨b, off + k * 12 + 4, none⟩ = some (.int .i64 l[k].next) ∧ w.cell? ⟨b, off + k * 12 + 5, none⟩ = some (.int .i64 l[k].page) ∧ w.cell? ⟨b, off + k * 12 + 6, none⟩ = some (.int .i64 l[k].off) ∧ w.cell? ⟨b, off + k * 12 + 7, none⟩ = some (.slice l[k].ob l[k].bs.length l[k].cb) ∧
    w.cell? ⟨b, off + k * 12 + 8, none⟩ = some (.slice l[k].oa l[k].es.length l[k].ca) ∧ w.cell? ⟨b, off + k * 12 + 9, none⟩ = some (.slice l[k].ot l[k].ts.length l[k].ct) ∧ w.cell? ⟨b, off + k * 12 + 10, none⟩ = some (.slice l[k].od l[k].ds.length l[k].cd) ∧ w.cell? ⟨b, off + k * 12 + 11, none⟩ = some (.int .i64 l[k].cnt) := by
  obtain ⟨b, off, e, _, hc⟩ := h.at'.get k hk
  exact ⟨b, off, e, by simpa using hc 0 _ rfl, hc 1 _ rfl, hc 2 _ rfl, hc 3 _ rfl, hc 4 _ rfl, hc 5 _ rfl, hc 6 _ rfl, hc 7 _ rfl, hc 8 _ rfl, hc 9 _ rfl, hc 10 _ rfl, hc 11 _ rfl⟩
theorem own_apart {w : World} {b1 b2 n1 n2 m1 m2 e1 e2 : Nat} {v1 v2 : Value} {xs ys : List Value} (h1 : w.ownsRow b1 e1 n1 v1 m1 xs) (h2 : w.ownsRow b2 e2 n2 v2 m2 ys) (he : e1 ≠ e2) : v1.ownBlock = none ∨ v1.ownBlock ≠ v2.ownBlock := by
  rcases h1.2 with ⟨rfl, _⟩ | ⟨g, cap, cur, rfl, _, hg, _⟩
  · exact .inl rfl
  · refine .inr fun e => ?_
    rcases h2.2 with ⟨rfl, _⟩ | ⟨g', cap', cur', rfl, _, hg', _⟩
    · simp [Value.ownBlock] at e
    · simp [Value.ownBlock] at e
      subst e
      rw [hg] at hg'
      simp at hg'
      exact he hg'.2
theorem Gz.cell {v : Value} {w w' : World} {b k : Nat} {u : Value} (h : Gz v w w') (hc : w.cell? ⟨b, k, none⟩ = some u) (hb : ∀ g, v.ownBlock = some g → g ≠ b) : w'.cell? ⟨b, k, none⟩ = some u :=
  World.grownBy.cell h hc (fun e => hb b (by simpa using e.symm) rfl)
/-- a block of type e stands there -/
def Ty (e : TypeId) (w : World) (b : Nat) : Prop := ∃ cur fz, w.heap[b]? = some (.cells cur e fz)
theorem Ty.lt {e : TypeId} {w : World} {b : Nat} (h : Ty e w b) : b < w.heap.size := by
  obtain ⟨cur, fz, h⟩ := h
  exact (Array.getElem?_eq_some_iff.1 h).1
theorem Ty.gr {e : TypeId} {w w' : World} {b : Nat} (h : Ty e w b) (hg : Gr w w') : Ty e w' b := by
  have hl := h.lt
  obtain ⟨cur, fz, h⟩ := h
  exact ⟨cur, fz, by have := hg.block b hl; rw [this]; exact h⟩
theorem Ty.gz {e : TypeId} {w w' : World} {b : Nat} {v : Value} (h : Ty e w b) (hg : Gz v w w') (hb : v.ownBlock ≠ some b) : Ty e w' b := by
  have hl := h.lt
  obtain ⟨cur, fz, h⟩ := h
  exact ⟨cur, fz, by rw [hg.block b hl (fun x => hb x.symm)]; exact h⟩
theorem Ty.ne {e e' : TypeId} {w : World} {b base n m : Nat} {v : Value} {xs : List Value} (h : Ty e w b) (ho : w.ownsRow base e' n v m xs) (he : e ≠ e') : v.ownBlock ≠ some b := by
  obtain ⟨cur, fz, h⟩ := h
  rcases ho.2 with ⟨rfl, _⟩ | ⟨g, cap, cur', rfl, _, hg, _⟩
  · simp [Value.ownBlock]
  · intro hh
    simp [Value.ownBlock] at hh
    subst hh
    rw [h] at hg
    simp at hg
    exact he hg.2.1
theorem Ty.new (w : World) (cs : Array Value) (e : TypeId) : Ty e (w.alloc (.cells cs e)) w.heap.size := ⟨cs, (0, 0), heap_alloc_new w _⟩
theorem cells3 {w : World} {g : Nat} {a b c : Value} (h0 : w.cell? ⟨g, 0, none⟩ = some a) (h1 : w.cell? ⟨g, 1, none⟩ = some b) (h2 : w.cell? ⟨g, 2, none⟩ = some c) : ∀ j u, [a, b, c][j]? = some u → w.cell? ((⟨g, 0, none⟩ : Addr).add j) = some u := by
  intro j u hu
  rw [addN, Nat.zero_add]
  match j, hu with
  | 0, hu => simp at hu; subst hu; exact h0
  | 1, hu => simp at hu; subst hu; exact h1
  | 2, hu => simp at hu; subst hu; exact h2
theorem one3 (a b c : Int) : ∀ u ∈ [Value.int .i64 a, .int .i64 b, .int .i64 c], u.oneCell' = true := by
  intro u hu
  simp at hu
  rcases hu with rfl | rfl | rfl <;> rfl
theorem Gz.up {w a b : World} {v : Value} {e n m : Nat} {xs : List Value} (h : Gr w a) (k : Gz v a b) (ho : a.ownsRow w.heap.size e n v m xs) : Gr w b := h.grown k (fun g hg => (World.ownsRow.lt ho g hg).1)
theorem own_mono {w : World} {b1 b2 n m e : Nat} {v : Value} {xs : List Value} (h : w.ownsRow b1 e n v m xs) (hb : b2 ≤ b1) : w.ownsRow b2 e n v m xs := by
  refine ⟨h.1, ?_⟩
  rcases h.2 with h' | ⟨g, cap, cur, hv, hg, rest⟩
  · exact .inl h'
  · exact .inr ⟨g, cap, cur, hv, Nat.le_trans hb hg, rest⟩
def GT (base : Nat) (l : List Tx) (u : Value) (w : World) : Prop := w.ownsRow base 53 3 u l.length (cellsF tF l)
def GD (base : Nat) (l : List Dy) (u : Value) (w : World) : Prop := w.ownsRow base 36 2 u l.length (cellsF dF l)
theorem g_keep (base : Nat) (l : List Tx) (m : List Dy) : ∀ k u w w', Rg.Gat [(2, GT base l), (5, GD base m), (8, GT base l), (9, GD base m)] k u w → Rg.Up w w' → Rg.Gat [(2, GT base l), (5, GD base m), (8, GT base l), (9, GD base m)] k u w' := by
  intro k u w w' h hu
  unfold Rg.Gat at h ⊢
  split at h
  · rename_i hk; rw [if_pos hk]; exact own_keep h hu
  · rename_i hk; rw [if_neg hk]
    unfold Rg.Gat at h ⊢
    split at h
    · rename_i hk; rw [if_pos hk]; exact own_keep h hu
    · rename_i hk; rw [if_neg hk]
      unfold Rg.Gat at h ⊢
      split at h
      · rename_i hk; rw [if_pos hk]; exact own_keep h hu
      · rename_i hk; rw [if_neg hk]
        unfold Rg.Gat at h ⊢
        split at h
        · rename_i hk; rw [if_pos hk]; exact own_keep h hu
        · rename_i hk; rw [if_neg hk]; trivial
theorem sf_det {P : Program} {ops : Array Oper} {W : World} {F : List Nat} {Ds : List (Nat × List Nat)} {Gs : List (Nat × (Value → World → Prop))} {fr : Nat → Bool} {v : Nat → Value} {c : Value} {i : Nat} {o : Oper} {a : Act}
    (hF : F.contains i = false) (hw : Region.wanted o (yielded ops a.tmps) = true) (h : ∀ w, Rg.Up W w → Rg.facts Gs v w (Rg.Dat Ds i) → Rg.Brings P w c ((execOp a.eval o).run P w)) : Rg.StepOf P ops W F Ds Gs fr v (some c) i o a := by
  unfold Rg.StepOf
  simp only [hF, Bool.false_eq_true, if_false]
  exact Or.inl ⟨hw, h⟩
theorem sf_free {P : Program} {ops : Array Oper} {W : World} {F : List Nat} {Ds : List (Nat × List Nat)} {Gs : List (Nat × (Value → World → Prop))} {fr : Nat → Bool} {v : Nat → Value} {i : Nat} {o : Oper} {a : Act}
    (hF : F.contains i = false) (hw : Region.wanted o (yielded ops a.tmps) = true) (h : ∀ w, Rg.Up W w → Rg.facts Gs v w (Rg.Dat Ds i) → Rg.BringsG P w (Rg.Gat Gs i) (fr i) ((execOp a.eval o).run P w)) : Rg.StepOf P ops W F Ds Gs fr v none i o a := ⟨hF, hw, h⟩
def chB (k : Int) : Bool := k == 2 || k == 3
theorem change_any (a0 a1 a2 a3 a4 a5 a10 : Int) (a6 a7 a8 a9 : Value) (w : World) : Calls Try.prog 18 #[.agg #[.int .i64 a0, .int .i64 a1, .int .i64 a2, .int .i64 a3, .int .i64 a4, .int .i64 a5, a6, a7, a8, a9, .int .i64 a10]] w fun e w' => e = .returned (.bool (chB a0)) ∧ Gr w w' := by
  by_cases h : a0 = 2
  · subst h
    go_enter Try.func18, Try.ntmps18
    go_wp2
    go_ret
    exact ⟨rfl, (Gr.refl w).alloc _⟩
  · have h1 : (a0 == 2) = false := by simpa using h
    have hR : Hid (chB a0 = (a0 == 3)) := hid (by unfold chB; rw [h1]; rfl)
    go_enter Try.func18, Try.ntmps18
    go_wp2
    go_ret
    exact ⟨by rw [hR.out]; rfl, (Gr.refl w).alloc _⟩
/-- what the analysis has found -/
structure An where
  ts : List Tx
  ds : List Dy
  n : Int
def putT (x : Ln) (ts : List Tx) : List Tx :=
  let k := idxB (fun t : Tx => t.id == x.txn) ts 0
  let us := if k < 0 then ts ++ [⟨x.txn, 0, 1⟩] else ts
  let j := if k < 0 then ts.length else k.toNat
  match us[j]? with
  | none => us
  | some t => if x.kind = 4 then us.set j ⟨t.id, x.lsn, 2⟩ else if x.kind = 5 then us.set j ⟨t.id, x.lsn, 3⟩ else if x.kind = 6 then us.eraseIdx j else us.set j ⟨t.id, x.lsn, t.st⟩
def stepA (a : An) (x : Ln) : An :=
  if x.kind = 7 then ⟨x.ts, x.ds, x.cnt⟩ else
    ⟨if x.txn ≤ 0 then a.ts else putT x a.ts, if chB x.kind = true ∧ idxB (fun d : Dy => d.page == x.page) a.ds 0 < 0 then a.ds ++ [⟨x.page, x.lsn⟩] else a.ds, if x.kind = 4 then wrap64 (a.n + 1) else a.n⟩
def an0 : An := ⟨[], [], 0⟩
def anR (l : List Ln) : An := l.foldl stepA an0
def ARel (w : World) (l : List Ln) (T : An) (s2 s3 s4 s11 : Value) (wr : World) : Prop :=
  ∃ (i : Nat) (a : An), s11 = .int .i64 i ∧ s4 = .int .i64 a.n ∧ i ≤ l.length ∧ wr.ownsRow w.heap.size 53 3 s2 a.ts.length (cellsF tF a.ts) ∧ wr.ownsRow w.heap.size 36 2 s3 a.ds.length (cellsF dF a.ds) ∧ Gr w wr ∧ (l.drop i).foldl stepA a = T ∧ a.ts.length ≤ 1000000 + i ∧ a.ds.length ≤ 1000000 + i
set_option maxHeartbeats 4000000 in
set_option maxRecDepth 100000 in
theorem analyze_any (ol : Option Addr) (cl : Nat) (l : List Ln) (w : World) (h : LAt w ol l) (hl : l.length ≤ 1000000) (hts : ∀ x ∈ l, x.ts.length ≤ 1000000 ∧ x.ds.length ≤ 1000000) (hT : (anR l).ts.length ≤ 19) (hD : (anR l).ds.length ≤ 19) :
    Calls Try.prog 8 #[.slice ol l.length cl] w fun e w' => ∃ ot ct od cd, e = .returned (.tuple #[.slice ot (anR l).ts.length ct, .slice od (anR l).ds.length cd, .int .i64 (anR l).n]) ∧ TAt w' ot (sortF (fun x => x.id) (anR l).ts) ∧ DAt w' od (sortF (fun x => x.page) (anR l).ds) ∧ Gr w w' := by
  obtain ⟨T, hTT⟩ : ∃ T, anR l = T := ⟨_, rfl⟩
  rw [hTT] at hT hD ⊢
  have h0 : ARel w l T (.slice none 0 0) (.slice none 0 0) (.int .i64 0) (.int .i64 0) w := ⟨0, an0, rfl, rfl, Nat.zero_le _, World.ownsRow_nil _ _ _ _, World.ownsRow_nil _ _ _ _, Gr.refl _, hTT, by simp [an0], by simp [an0]⟩
  have HL := hid h
  have HTS := hid hts
  clear hTT h hts
  go_enter Try.func8, Try.ntmps8
  go_wp2_with fail
  go_loopw [2, 3, 4, 11] (fun s2 s3 s4 s11 wr => ARel w l T s2 s3 s4 s11 wr) (fun _ _ _ s11 _ => l.length - (intOf s11).toNat)
  case atStart => exact h0
  case round =>
    clear h0
    obtain ⟨i, a, rfl, rfl, hi, hO2, hO3, hG, hF, hb2, hb3⟩ := hrel
    have HO2 := hid hO2
    have HO3 := hid hO3
    have HF := hid hF
    clear hO2 hO3 hF
    by_cases hlt : i < l.length
    · obtain ⟨b, off, rfl, c0, c1, c2, c3, c4, c5, c6, c7, c8, c9, c10, c11⟩ := n_get (HL.out.keep hG) i hlt
      have hok := hid ((HL.out.ok _ (List.getElem_mem hlt)).keep hG)
      have hbd := HTS.out _ (List.getElem_mem hlt)
      have hst : Hid ((l.drop (i + 1)).foldl stepA (stepA a l[i]) = T) := hid (by
        rw [← HF.out, List.drop_eq_getElem_cons hlt]; rfl)
      clear HF
      generalize l[i] = x at *
      have zb := lt_of_cell c0
      have gki : decide ((l.length : Int) ≤ (i : Int)) = false := by rw [decide_eq_false_iff_not]; omega
      go_upto_region 5 with (fail)
      obtain ⟨W, hW⟩ : ∃ W, W = (wr.alloc (.cells #[.int .i64 x.lsn, .int .i64 x.kind, .int .i64 x.txn, .int .i64 x.prev, .int .i64 x.next, .int .i64 x.page, .int .i64 x.off, .slice x.ob x.bs.length x.cb, .slice x.oa x.es.length x.ca, .slice x.ot x.ts.length x.ct, .slice x.od x.ds.length x.cd, .int .i64 x.cnt] 34)).alloc (.cells #[.int .i64 x.kind, .int .i64 x.txn, .int .i64 x.prev, .int .i64 x.next, .int .i64 x.page, .int .i64 x.off, .slice x.ob x.bs.length x.cb, .slice x.oa x.es.length x.ca, .slice x.ot x.ts.length x.ct, .slice x.od x.ds.length x.cd, .int .i64 x.cnt] 32) := ⟨_, rfl⟩
      have gW : Gr wr W := by rw [hW]; exact ((Gr.refl _).alloc _).alloc _
      have n0 : W.cell? ⟨wr.heap.size, 0, none⟩ = some (.int .i64 x.lsn) := by rw [hW]; go_simp
      have r0 : W.cell? ⟨wr.heap.size + 1, 0, none⟩ = some (.int .i64 x.kind) := by rw [hW]; go_simp
      have r1 : W.cell? ⟨wr.heap.size + 1, 1, none⟩ = some (.int .i64 x.txn) := by rw [hW]; go_simp
      have r2 : W.cell? ⟨wr.heap.size + 1, 2, none⟩ = some (.int .i64 x.prev) := by rw [hW]; go_simp
      have r3 : W.cell? ⟨wr.heap.size + 1, 3, none⟩ = some (.int .i64 x.next) := by rw [hW]; go_simp
      have r4 : W.cell? ⟨wr.heap.size + 1, 4, none⟩ = some (.int .i64 x.page) := by rw [hW]; go_simp
      have r5 : W.cell? ⟨wr.heap.size + 1, 5, none⟩ = some (.int .i64 x.off) := by rw [hW]; go_simp
      have r6 : W.cell? ⟨wr.heap.size + 1, 6, none⟩ = some (.slice x.ob x.bs.length x.cb) := by rw [hW]; go_simp
      have r7 : W.cell? ⟨wr.heap.size + 1, 7, none⟩ = some (.slice x.oa x.es.length x.ca) := by rw [hW]; go_simp
      have r8 : W.cell? ⟨wr.heap.size + 1, 8, none⟩ = some (.slice x.ot x.ts.length x.ct) := by rw [hW]; go_simp
      have r9 : W.cell? ⟨wr.heap.size + 1, 9, none⟩ = some (.slice x.od x.ds.length x.cd) := by rw [hW]; go_simp
      have r10 : W.cell? ⟨wr.heap.size + 1, 10, none⟩ = some (.int .i64 x.cnt) := by rw [hW]; go_simp
      have T7 : Ty 32 W (wr.heap.size + 1) := by
        rw [hW]
        have := Ty.new (wr.alloc (.cells #[.int .i64 x.lsn, .int .i64 x.kind, .int .i64 x.txn, .int .i64 x.prev, .int .i64 x.next, .int .i64 x.page, .int .i64 x.off, .slice x.ob x.bs.length x.cb, .slice x.oa x.es.length x.ca, .slice x.ot x.ts.length x.ct, .slice x.od x.ds.length x.cd, .int .i64 x.cnt] 34)) #[.int .i64 x.kind, .int .i64 x.txn, .int .i64 x.prev, .int .i64 x.next, .int .i64 x.page, .int .i64 x.off, .slice x.ob x.bs.length x.cb, .slice x.oa x.es.length x.ca, .slice x.ot x.ts.length x.ct, .slice x.od x.ds.length x.cd, .int .i64 x.cnt] 32
        simpa using this
      rw [← hW]
      have HOK := hid (hok.out.keep gW)
      have HP2 := hid (own_keep HO2.out gW)
      have HP3 := hid (own_keep HO3.out gW)
      have GW : Gr w W := hG.trans gW
      have z6 := lt_of_cell n0
      have z7 := lt_of_cell r0
      have hwl := hG.size
      have lt2 := fun g h => (World.ownsRow.lt HO2.out g h).2
      have lt3 := fun g h => (World.ownsRow.lt HO3.out g h).2
      have LT2 := hid lt2
      have LT3 := hid lt3
      clear hW c0 c1 c2 c3 c4 c5 c6 c7 c8 c9 c10 c11 hok HO2 HO3 gW hG zb lt2 lt3
      by_cases hk7 : x.kind = 7
      · have g7 : (x.kind == 7) = true := by simpa using hk7
        have hst2 : Hid ((l.drop (i + 1)).foldl stepA ⟨x.ts, x.ds, x.cnt⟩ = T) := hid (by
          rw [← hst.out]; unfold stepA; rw [if_pos hk7])
        have CT := fun W' (h : Rg.Up W W') => tclone x.ot x.ct x.ts W' hbd.1 (HOK.out.t.keep h)
        have CD := fun W' (h : Rg.Up W W') => dclone x.od x.cd x.ds W' hbd.2 (HOK.out.d.keep h)
        have HCT := hid CT
        have HCD := hid CD
        clear hst CT CD
        go_upto_region 6 with (fail)
        refine Rg.region_facts (W := W) 10 [] [(8, [2]), (9, [5])] [(2, GT w.heap.size x.ts), (5, GD w.heap.size x.ds), (8, GT w.heap.size x.ts), (9, GD w.heap.size x.ds)] (fun _ => false) [2, 5, 8, 9]
          [some (.pointer (some ⟨wr.heap.size + 1, 8, none⟩)), some (.slice x.ot x.ts.length x.ct), none, some (.pointer (some ⟨wr.heap.size + 1, 9, none⟩)), some (.slice x.od x.ds.length x.cd), none,
           some (.pointer (some ⟨wr.heap.size + 1, 10, none⟩)), some (.int .i64 x.cnt), none, none]
          (Below.drew (Below.refl _ _)) (by kernel_rfl) (by kernel_rfl) ⟨rfl, rfl, rfl, rfl, trivial⟩ (g_keep _ _ _) (fun _ _ d _ _ h => by cases d <;> exact h) ?_
        intro v
        simp only [List.take_succ_cons, List.take_zero, Rg.wpF, Option.getD_some, Option.getD_none, Act.put, List.setIfInBounds_toArray, List.set_cons_zero, List.set_cons_succ]
        refine ⟨?_, ?_, ?_, ?_, ?_, ?_, ?_, ?_, ?_, ?_, ?_⟩
        all_goals first
          | (refine sf_det (by rfl) (by rfl) (fun w' hS hF => ?_)
             have hc := Gr.cells hS
             have hf := Gr.frees hS
             go_simp
             first
             | exact Below.refl _ _
             | (refine ⟨?_, Below.refl _ _⟩; with_reducible rfl))
          | (refine sf_free (by rfl) (by rfl) (fun w' hS hF => ?_)
             go_simp
             first
             | ((with_reducible refine (HCT.out _ hS).mono ?_)
                rintro e w'' ⟨u, rfl, ho, hg⟩
                exact ⟨u, rfl, own_mono ho (Nat.le_trans GW.size (Gr.size hS)), hg⟩)
             | ((with_reducible refine (HCD.out _ hS).mono ?_)
                rintro e w'' ⟨u, rfl, ho, hg⟩
                exact ⟨u, rfl, own_mono ho (Nat.le_trans GW.size (Gr.size hS)), hg⟩)
             | exact ⟨hF.1, Below.refl _ _⟩)
          | skip
        intro w6 hK
        have hup : Gr W w6 := hK.up
        have f8 : GT w.heap.size x.ts (v 8) w6 := hK.fact 8 (by decide) rfl rfl
        have f9 : GD w.heap.size x.ds (v 9) w6 := hK.fact 9 (by decide) rfl rfl
        have F8 := hid f8
        have F9 := hid f9
        clear hK f8 f9 HP2 HP3 HCT HCD
        generalize v 8 = v8 at *
        generalize v 9 = v9 at *
        generalize v 2 = v2 at *
        generalize v 5 = v5 at *
        have GE := hid (GW.trans hup)
        have hb4 : x.ts.length ≤ 1000000 + (i + 1) := by omega
        have hb5 : x.ds.length ≤ 1000000 + (i + 1) := by omega
        go_wp2
        exact ⟨⟨i + 1, ⟨x.ts, x.ds, x.cnt⟩, by go_num, rfl, by omega, F8.out, F9.out, GE.out, hst2.out, hb4, hb5⟩, by simp [intOf]; omega⟩
      · have g7 : (x.kind == 7) = false := by simpa using hk7
        obtain ⟨n1, hn1⟩ : ∃ n1, (if x.kind = 4 then wrap64 (a.n + 1) else a.n) = n1 := ⟨_, rfl⟩
        obtain ⟨b2, hb2'⟩ : ∃ b2 : Bool, (chB x.kind && decide (idxB (fun d : Dy => d.page == x.page) a.ds 0 < 0)) = b2 := ⟨_, rfl⟩
        obtain ⟨ds1, hds1⟩ : ∃ ds1, (if b2 = true then a.ds ++ [⟨x.page, x.lsn⟩] else a.ds) = ds1 := ⟨_, rfl⟩
        obtain ⟨ts1, hts1⟩ : ∃ ts1, (if x.txn ≤ 0 then a.ts else putT x a.ts) = ts1 := ⟨_, rfl⟩
        have hst2 : Hid ((l.drop (i + 1)).foldl stepA ⟨ts1, ds1, n1⟩ = T) := hid (by
          rw [← hst.out]; unfold stepA; rw [if_neg hk7, hn1, hts1, ← hds1, ← hb2']
          simp only [Bool.and_eq_true, decide_eq_true_eq])
        have Hn1 := hid hn1
        have Hb2 := hid hb2'
        have Hds1 := hid hds1
        have Hts1 := hid hts1
        clear hst hn1 hb2' hds1 hts1 hbd
        go_upto_if 30 with (fail)
        go_cut [4] from 31 to 32 (fun s4 wx => s4 = .int .i64 n1 ∧ W = wx)
        case first =>
          by_cases h4 : x.kind = 4
          · have g4 : (x.kind == 4) = true := by simpa using h4
            have e := Hn1.out
            rw [if_pos h4] at e
            have He := hid e
            clear e
            go_wp2
            go_meet
            exact ⟨by rw [← He.out], rfl⟩
          · have g4 : (x.kind == 4) = false := by simpa using h4
            have e := Hn1.out
            rw [if_neg h4] at e
            have He := hid e
            clear e
            go_wp2
            go_meet
            exact ⟨by rw [← He.out], rfl⟩
        case rest =>
          obtain ⟨rfl, rfl⟩ := hcut
          obtain ⟨od2, cd2, e3, hat3, _, _⟩ := own_at dE HP3.out
          subst e3
          have CH := fun W' => change_any x.kind x.txn x.prev x.next x.page x.off x.cnt (.slice x.ob x.bs.length x.cb) (.slice x.oa x.es.length x.ca) (.slice x.ot x.ts.length x.ct) (.slice x.od x.ds.length x.cd) W'
          have AT3 := fun W' (h : Gr W W') => dat od2 cd2 a.ds x.page W' (by omega) (hat3.keep h)
          generalize idxB (fun d : Dy => d.page == x.page) a.ds 0 = ix at *
          generalize chB x.kind = ch at *
          have HAT3 := hid AT3
          have Hat3 := hid hat3
          clear AT3 hat3
          go_upto_region 9 with (fail)
          go_cut [41] from 33 to 41 (fun s41 wx => s41 = .bool b2 ∧ Gr W wx)
          case first =>
            cases ch
            · have hb : b2 = false := by rw [← Hb2.out]; rfl
              subst hb
              go_wp2_with fail
              refine (CH _).mono ?_
              rintro e w1 ⟨rfl, hg⟩
              go_wp2
              go_meet
              exact ⟨rfl, hg⟩
            · have hb : b2 = decide (ix < 0) := by rw [← Hb2.out]; rfl
              have Hb := hid hb
              clear hb Hb2
              go_wp2_with fail
              refine (CH _).mono ?_
              rintro e w1 ⟨rfl, hg⟩
              have p4 := hg.keep r4
              have q7 := lt_of_cell p4
              go_wp2_with fail
              refine (HAT3.out _ hg).mono ?_
              rintro e w2 ⟨rfl, hg2⟩
              go_wp2
              go_meet
              exact ⟨by rw [Hb.out], hg.trans hg2⟩
          case rest =>
            obtain ⟨rfl, hgc⟩ := hcut
            have T7 := T7.gr hgc
            have n0 := hgc.keep n0
            have r0 := hgc.keep r0
            have r1 := hgc.keep r1
            have r4 := hgc.keep r4
            have z6 := lt_of_cell n0
            have z7 := lt_of_cell r0
            have GC := GW.trans hgc
            have P2 := hid (own_keep HP2.out hgc)
            have P3 := hid (own_keep HP3.out hgc)
            clear r2 r3 r5 r6 r7 r8 r9 r10 HP2 HP3 HOK Hat3 HAT3 CH Hb2 hgc
            obtain ⟨i0, hi0, hz0, hz1, hz2⟩ := info_parts d_info
            go_upto_if 41 with (fail)
            go_cut [3] from 42 to 49 (fun s3 wx => Hid (wx.ownsRow w.heap.size 36 2 s3 ds1.length (cellsF dF ds1)) ∧ Hid (Gz (.slice od2 a.ds.length cd2) wc wx))
            case first =>
              cases b2
              · have e : a.ds = ds1 := by rw [← Hds1.out]; rfl
                have He := hid e
                clear e
                go_wp2
                go_meet
                exact ⟨hid (by rw [← He.out]; exact P3.out), hid (Gz.refl _ _)⟩
              · have e : a.ds ++ [⟨x.page, x.lsn⟩] = ds1 := by rw [← Hds1.out]; rfl
                have He := hid e
                clear e
                go_wp2_with (at_builtin; refine wpList_append_own _ rfl _ _ 26 rfl w.heap.size 36 i0 (.agg #[.int .i64 0, .int .i64 0]) 2 16 Try.underlying26 hi0 hz0 hz1 hz2 rfl (by decide) _ _ _ rfl (P3.out.alloc _) ⟨wc.heap.size, 0, none⟩ 1 1 [.int .i64 x.page, .int .i64 x.lsn] rfl rfl ?c1 ?c2 ?c3 ?c4 ?c5 ?_)
                case c2 => exact ⟨rfl, rfl⟩
                case c3 => unfold maxLen; omega
                case c4 => omega
                case c5 => have := GC.size; omega
                intro v' w2 hown hg2 _
                have HO : Hid (w2.ownsRow w.heap.size 36 2 v' ds1.length (cellsF dF ds1)) := hid (by
                  rw [← He.out, List.length_append, cellsF_snoc]; exact hown)
                have HG : Hid (Gz (.slice od2 a.ds.length cd2) wc w2) := hid (Gz.trans (.of ((Gr.refl _).alloc _)) hg2)
                clear hown hg2
                go_wp2
                go_meet
                exact ⟨HO, HG⟩
            case rest =>
              obtain ⟨P3', G3⟩ := hcut
              have n0 := G3.out.cell n0 (fun g hgg => by have := LT3.out g hgg; omega)
              have r0 := G3.out.cell r0 (fun g hgg => by have := LT3.out g hgg; omega)
              have r1 := G3.out.cell r1 (fun g hgg => by have := LT3.out g hgg; omega)
              have z6 := lt_of_cell n0
              have z7 := lt_of_cell r0
              have T7 := T7.gz G3.out (T7.ne P3.out (by decide))
              have P2' := hid (P2.out.kept G3.out (own_apart P2.out P3.out (by decide)))
              have GD := Gz.up GC G3.out P3.out
              have hd1 : ds1.length ≤ 1000000 + (i + 1) := by
                rw [← Hds1.out]; split
                · simp; omega
                · omega
              clear P2 P3 G3 GC Hds1 hz0 hz1 hz2 hi0 i0 r4
              by_cases htx : x.txn ≤ 0
              · have gtx : decide (x.txn ≤ 0) = true := by simpa using htx
                have e : a.ts = ts1 := by rw [← Hts1.out, if_pos htx]
                have He := hid e
                clear e
                go_wp2
                refine ⟨⟨i + 1, ⟨ts1, ds1, n1⟩, by go_num, rfl, by omega, ?_, P3'.out, GD, hst2.out, ?_, hd1⟩, by simp [intOf]; omega⟩
                · rw [← He.out]; exact P2'.out
                · show ts1.length ≤ 1000000 + (i + 1)
                  rw [← He.out]; omega
              · have gtx : decide (x.txn ≤ 0) = false := by simpa using htx
                rw [if_neg htx] at Hts1
                obtain ⟨ot2, ct2, e2, hat2, _, _⟩ := own_at tE P2'.out
                subst e2
                have AT2 := fun W' (h : Gr _ W') => tat ot2 ct2 a.ts x.txn W' (by omega) (hat2.keep h)
                have hix := idx_bd (p := fun t : Tx => t.id == x.txn) a.ts 0
                obtain ⟨ix2, hix2⟩ : ∃ k, idxB (fun t : Tx => t.id == x.txn) a.ts 0 = k := ⟨_, rfl⟩
                rw [hix2] at AT2 hix
                obtain ⟨us, hus⟩ : ∃ us, (if ix2 < 0 then a.ts ++ [⟨x.txn, 0, 1⟩] else a.ts) = us := ⟨_, rfl⟩
                obtain ⟨j, hj⟩ : ∃ j, (if ix2 < 0 then a.ts.length else ix2.toNat) = j := ⟨_, rfl⟩
                have Hput := Hts1.out
                unfold putT at Hput
                simp only [hix2, hus, hj] at Hput
                have hju : j < us.length := by
                  rw [← hj, ← hus]
                  by_cases h0 : ix2 < 0
                  · rw [if_pos h0, if_pos h0]; simp
                  · rw [if_neg h0, if_neg h0]
                    rcases hix with h | ⟨k, hk, h, _⟩
                    · omega
                    · omega
                have hul : us.length ≤ 1000000 + (i + 1) := by
                  rw [← hus]; split
                  · simp; omega
                  · omega
                rw [List.getElem?_eq_getElem hju] at Hput
                simp only at Hput
                have HPUT := hid Hput
                have HUS := hid hus
                have HJ := hid hj
                have HAT2 := hid AT2
                have hix3 : ix2 ≤ 9223372036854775807 := by
                  rcases hix with h | ⟨k, hk, h, _⟩
                  · omega
                  · omega
                clear Hput hus hj AT2 hat2 Hts1 hix2 hix
                go_wp2_with fail
                refine (HAT2.out _ (Gr.refl _)).mono ?_
                rintro e w4 ⟨rfl, hg4⟩
                have n0 := hg4.keep n0
                have r0 := hg4.keep r0
                have r1 := hg4.keep r1
                have z6 := lt_of_cell n0
                have z7 := lt_of_cell r0
                have T7 := T7.gr hg4
                have P2'' := hid (own_keep P2'.out hg4)
                have P3'' := hid (own_keep P3'.out hg4)
                have GE := GD.trans hg4
                clear P2' P3' hg4 GD HAT2
                obtain ⟨i0, hi0, hz0, hz1, hz2⟩ := info_parts t_info
                obtain ⟨bx, hbx⟩ : ∃ b, decide (ix2 < 0) = b := ⟨_, rfl⟩
                have Hbx := hid hbx
                go_upto_if 58 with (fail)
                go_cut [2, 8] from 59 to 66 (fun s2 s8 wx => s8 = .int .i64 j ∧ Hid (wx.ownsRow w.heap.size 53 3 s2 us.length (cellsF tF us)) ∧ Hid (Gz (.slice ot2 a.ts.length ct2) w4 wx))
                case first =>
                  cases bx
                  rotate_left
                  · have h0 : ix2 < 0 := by simpa using Hbx.out
                    have hus := HUS.out
                    have hj := HJ.out
                    rw [if_pos h0] at hus hj
                    have HU := hid hus
                    have HJ2 := hid hj
                    clear hus hj
                    go_wp2_with (at_builtin; refine wpList_append_own _ rfl _ _ 25 rfl w.heap.size 53 i0 (.agg #[.int .i64 0, .int .i64 0, .int .i64 0]) 3 24 Try.underlying25 hi0 hz0 hz1 hz2 rfl (by decide) _ _ _ rfl (P2''.out.alloc _) ⟨w4.heap.size, 0, none⟩ 1 1 [.int .i64 x.txn, .int .i64 0, .int .i64 1] rfl rfl ?d1 ?d2 ?d3 ?d4 ?d5 ?_)
                    case d1 => exact cells3 (by go_simp) (by go_simp) (by go_simp)
                    case d2 => exact one3 _ _ _
                    case d3 => unfold maxLen; omega
                    case d4 => omega
                    case d5 => have := GE.size; simp; omega
                    intro v' w2 hown hg2 _
                    have HO : Hid (w2.ownsRow w.heap.size 53 3 v' us.length (cellsF tF us)) := hid (by
                      rw [← HU.out, List.length_append, cellsF_snoc]; exact hown)
                    have HG : Hid (Gz (.slice ot2 a.ts.length ct2) w4 w2) := hid (Gz.trans (.of ((Gr.refl _).alloc _)) hg2)
                    clear hown hg2
                    go_wp2
                    go_meet
                    exact ⟨by rw [HJ2.out], HO, HG⟩
                  · have h0 : ¬ ix2 < 0 := by simpa using Hbx.out
                    have hus := HUS.out
                    have hj := HJ.out
                    rw [if_neg h0] at hus hj
                    have HU := hid hus
                    have HJ2 : Hid (ix2 = (j : Int)) := hid (by omega)
                    clear hus hj
                    go_wp2
                    go_meet
                    exact ⟨by rw [HJ2.out], hid (by rw [← HU.out]; exact P2''.out), hid (Gz.refl _ _)⟩
                case rest =>
                  obtain ⟨rfl, P4, G4⟩ := hcut
                  have n0 := G4.out.cell n0 (fun g hgg => by have := LT2.out g hgg; omega)
                  have r0 := G4.out.cell r0 (fun g hgg => by have := LT2.out g hgg; omega)
                  have T7 := T7.gz G4.out (T7.ne P2''.out (by decide))
                  have z6 := lt_of_cell n0
                  have z7 := lt_of_cell r0
                  have P3b := hid (P3''.out.kept G4.out (own_apart P3''.out P2''.out (by decide)))
                  have GF := Gz.up GE G4.out P2''.out
                  obtain ⟨g2, cap2, e4, hg2b, hg2l, hg2c⟩ := own_form P4.out (by omega)
                  subst e4
                  have ne7 : ¬ g2 = wr.heap.size + 1 := fun e => T7.ne P4.out (by decide) (by rw [e]; rfl)
                  have hcapm : cap2 ≤ 9223372036854775807 := by
                    rcases P4.out.2 with ⟨h, _⟩ | ⟨_, _, _, h, _, _, _, h2, _⟩
                    · cases h
                    · cases h; exact h2
                  have ST := fun (t : Tx) (jj : Nat) (hjj : jj < 3) (u : Value) (ht : tF t = (tF us[j]).set jj u) => own_store tE P4.out j hju t jj hjj u ht
                  have gj : decide ((us.length : Int) ≤ (j : Int)) = false := by rw [decide_eq_false_iff_not]; omega
                  have gj2 : (j : Int) < (us.length : Int) := by omega
                  have gj3 : (0 : Int) ≤ (j : Int) := by omega
                  have f1 := P4.out.frozenAt (j * 3 + 1)
                  have cj := (own_room P4.out (j * 3 + 1) (by omega)).1
                  obtain ⟨uo, hcu⟩ := Option.isSome_iff_exists.1 cj
                  clear hz0 hz1 hz2 hi0 i0 P2'' P3'' GE G4 Hbx HUS HJ cj
                  go_upto_region 17 with (fail)
                  obtain ⟨S9, G9⟩ := ST ⟨us[j].id, x.lsn, us[j].st⟩ 1 (by omega) (.int .i64 x.lsn) (by simp [tF])
                  obtain ⟨W9, hW9⟩ : ∃ W9, W9 = wc.setCell ⟨g2, j * 3 + 1, none⟩ (.int .i64 x.lsn) := ⟨_, rfl⟩
                  rw [← hW9] at S9 G9 ⊢
                  clear hW9 ST f1 hcu
                  have hb2 : w.heap.size ≤ g2 := hg2b
                  have G10 : Gr w W9 := GF.grown G9 (fun b hb => by cases hb; exact hg2b)
                  have r0 : W9.cell? ⟨wr.heap.size + 1, 0, none⟩ = some (.int .i64 x.kind) := World.grownBy.cell G9 r0 (by simpa using fun e => ne7 e.symm)
                  have z7 := lt_of_cell r0
                  have P3c := hid (P3b.out.kept (row := some g2) G9 (by
                    rcases own_apart P3b.out P4.out (by decide) with h | h
                    · exact .inl h
                    · exact .inr h))
                  have hml : (us.set j ⟨us[j].id, x.lsn, us[j].st⟩).length = us.length := List.length_set
                  have hse4 : (us.set j ⟨us[j].id, x.lsn, us[j].st⟩).set j ⟨us[j].id, x.lsn, 2⟩ = us.set j ⟨us[j].id, x.lsn, 2⟩ := List.set_set ..
                  have hse5 : (us.set j ⟨us[j].id, x.lsn, us[j].st⟩).set j ⟨us[j].id, x.lsn, 3⟩ = us.set j ⟨us[j].id, x.lsn, 3⟩ := List.set_set ..
                  have hse6 : (us.set j ⟨us[j].id, x.lsn, us[j].st⟩).eraseIdx j = us.eraseIdx j := List.eraseIdx_set_eq ..
                  have hmj : (us.set j ⟨us[j].id, x.lsn, us[j].st⟩)[j]'(by rw [hml]; exact hju) = ⟨us[j].id, x.lsn, us[j].st⟩ := List.getElem_set_self _
                  have hts4 : x.kind = 4 → us.set j ⟨us[j].id, x.lsn, 2⟩ = ts1 := fun h => by have := HPUT.out; rwa [if_pos h] at this
                  have hts5 : x.kind = 5 → us.set j ⟨us[j].id, x.lsn, 3⟩ = ts1 := fun h => by have := HPUT.out; rwa [if_neg (by omega), if_pos h] at this
                  have hts6 : x.kind = 6 → us.eraseIdx j = ts1 := fun h => by have := HPUT.out; rwa [if_neg (by omega), if_neg (by omega), if_pos h] at this
                  have hts0 : x.kind ≠ 4 → x.kind ≠ 5 → x.kind ≠ 6 → us.set j ⟨us[j].id, x.lsn, us[j].st⟩ = ts1 := fun h4 h5 h6 => by have := HPUT.out; rwa [if_neg h4, if_neg h5, if_neg h6] at this
                  have hmj2 : tF ⟨us[j].id, x.lsn, 2⟩ = (tF ((us.set j ⟨us[j].id, x.lsn, us[j].st⟩)[j]'(by rw [hml]; exact hju))).set 2 (.int .i64 2) := by rw [hmj]; simp [tF]
                  have hmj3 : tF ⟨us[j].id, x.lsn, 3⟩ = (tF ((us.set j ⟨us[j].id, x.lsn, us[j].st⟩)[j]'(by rw [hml]; exact hju))).set 2 (.int .i64 3) := by rw [hmj]; simp [tF]
                  rw [← hml] at S9 gj gj2 ⊢
                  generalize us.set j ⟨us[j].id, x.lsn, us[j].st⟩ = m at *
                  have hjm : j < m.length := by rw [hml]; exact hju
                  have hmset : ∀ t : Tx, m.length = (us.set j t).length := fun t => by rw [hml, List.length_set]
                  generalize us[j].id = usid at *
                  generalize us[j].st = usst at *
                  have FIN : ∀ (Wn : World) (len : Nat), len = ts1.length → Wn.ownsRow w.heap.size 53 3 (.slice (some ⟨g2, 0, none⟩) len cap2) ts1.length (cellsF tF ts1) → W9.grownBy Wn (some g2) → ts1.length ≤ 1000000 + (i + 1) →
                      ARel w l T (.slice (some ⟨g2, 0, none⟩) len cap2) u3 (.int .i64 n1) (.int .i64 ((i : Int) + 1)) Wn := fun Wn len hlen hS hG hb => by
                    refine ⟨i + 1, ⟨ts1, ds1, n1⟩, by go_num, rfl, by omega, hS, P3c.out.kept hG ?_, G10.grown hG (fun b hb => by cases hb; exact hb2), hst2.out, hb, hd1⟩
                    rcases own_apart P3c.out S9 (by decide) with h | h
                    · exact .inl h
                    · exact .inr h
                  have HS9 := hid S9
                  by_cases k4 : x.kind = 4
                  · have q4 : (x.kind == 4) = true := by simpa using k4
                    have hts := hts4 k4
                    obtain ⟨hc2, hf2⟩ := own_room S9 (j * 3 + 2) (by omega)
                    obtain ⟨uo, hcu⟩ := Option.isSome_iff_exists.1 hc2
                    obtain ⟨S10, G11⟩ := own_store tE S9 j hjm ⟨usid, x.lsn, 2⟩ 2 (by omega) (.int .i64 2) hmj2
                    rw [hse4, hts] at S10
                    have FI := FIN _ m.length (by rw [← hts]; exact hmset _) S10 G11 (by rw [← hts, List.length_set]; exact hul)
                    have HFI := hid FI
                    clear FI S10 G11 hts hts4 hts5 hts6 hts0 HPUT FIN S9 P3b P3c P4 HTS HL
                    go_wp2
                    exact ⟨HFI.out, by simp [intOf]; omega⟩
                  · have q4 : (x.kind == 4) = false := by simpa using k4
                    by_cases k5 : x.kind = 5
                    · have q5 : (x.kind == 5) = true := by simpa using k5
                      have hts := hts5 k5
                      obtain ⟨hc2, hf2⟩ := own_room S9 (j * 3 + 2) (by omega)
                      obtain ⟨uo, hcu⟩ := Option.isSome_iff_exists.1 hc2
                      obtain ⟨S10, G11⟩ := own_store tE S9 j hjm ⟨usid, x.lsn, 3⟩ 2 (by omega) (.int .i64 3) hmj3
                      rw [hse5, hts] at S10
                      have FI := FIN _ m.length (by rw [← hts]; exact hmset _) S10 G11 (by rw [← hts, List.length_set]; exact hul)
                      have HFI := hid FI
                      clear FI S10 G11 hts hts4 hts5 hts6 hts0 HPUT FIN S9 P3b P3c P4 HTS HL
                      go_wp2
                      exact ⟨HFI.out, by simp [intOf]; omega⟩
                    · have q5 : (x.kind == 5) = false := by simpa using k5
                      by_cases k6 : x.kind = 6
                      · have q6 : (x.kind == 6) = true := by simpa using k6
                        have hts := hts6 k6
                        have DL := tdelete w.heap.size g2 cap2 m j W9 hjm (by omega) hcapm S9
                        rw [hse6, hts, hml] at DL
                        have hwj : IntKind.i64.wrap ((j : Int) + 1) = (j : Int) + 1 := by rw [IntKind.wrap_i64]; omega
                        have hwj2 : wrap64 ((j : Int) + 1) = (j : Int) + 1 := by unfold wrap64; omega
                        have hbl : ts1.length ≤ 1000000 + (i + 1) := by rw [← hts]; have := List.length_eraseIdx_le us j; omega
                        have HF := hid FIN
                        have HDL := hid DL
                        clear DL hts hts4 hts5 hts6 hts0 HPUT FIN S9 P3b P3c P4 HTS HL
                        go_wp2_with fail
                        with_reducible refine HDL.out.mono ?_
                        rintro e w11 ⟨rfl, S11, G11⟩
                        have FI := HF.out w11 ts1.length rfl S11 G11 hbl
                        have HFI := hid FI
                        clear FI S11 G11 HF
                        go_wp2
                        exact ⟨HFI.out, by simp [intOf]; omega⟩
                      · have q6 : (x.kind == 6) = false := by simpa using k6
                        have hts := hts0 k4 k5 k6
                        have FI := FIN W9 m.length (by rw [hts]) (by rw [← hts]; exact S9) (World.grownBy.refl _ _) (by rw [← hts, hml]; exact hul)
                        have HFI := hid FI
                        clear FI hts hts4 hts5 hts6 hts0 HPUT FIN S9 P3b P3c P4 HTS HL
                        go_wp2
                        exact ⟨HFI.out, by simp [intOf]; omega⟩
    · obtain rfl : i = l.length := by omega
      have haT : a = T := by rw [← HF.out, List.drop_length]; rfl
      subst haT
      have S1 := tsort w.heap.size u2 a.ts wr hT HO2.out
      have S2 := fun W h => dsort w.heap.size u3 a.ds W hD h
      have C1 := fun oa c (W : World) (hn : a.ts.length ≤ c) => tclip oa a.ts.length c W hn
      have C2 := fun oa c (W : World) (hn : a.ds.length ≤ c) => dclip oa a.ds.length c W hn
      have t1 : (sortF (fun x : Tx => x.id) a.ts).length = a.ts.length := sort_len _ _ _ _
      have d1 : (sortF (fun x : Dy => x.page) a.ds).length = a.ds.length := sort_len _ _ _ _
      have HS2 := hid S2
      clear HF S2
      go_wp2_with fail
      refine S1.mono ?_
      rintro e w1 ⟨rfl, h2, g2⟩
      have G1 : Gr w w1 := Gz.up hG g2 HO2.out
      have O3 : w1.ownsRow w.heap.size 36 2 u3 a.ds.length (cellsF dF a.ds) := HO3.out.kept g2 (own_apart HO3.out HO2.out (by decide))
      have HO3' := hid O3
      have HO2' := hid h2
      clear HO2 HO3 g2 O3 h2
      go_wp2_with fail
      refine (HS2.out _ HO3'.out).mono ?_
      rintro e w2 ⟨rfl, h3, g3⟩
      have G2 : Gr w w2 := Gz.up G1 g3 HO3'.out
      have O2 := HO2'.out.kept g3 (own_apart HO2'.out HO3'.out (by decide))
      obtain ⟨ot, ct, e2, ha2, hc2, _⟩ := own_at tE O2
      obtain ⟨od, cd, e3, ha3, hc3, _⟩ := own_at dE h3
      rw [t1] at e2 hc2
      rw [d1] at e3 hc3
      subst e2 e3
      have HA2 := hid ha2
      have HA3 := hid ha3
      clear O2 h3 HO2' HO3' ha2 ha3 g3
      go_wp2_with fail
      refine (C1 _ _ _ hc2).mono ?_
      rintro e w' ⟨rfl, rfl⟩
      go_wp2_with fail
      refine (C2 _ _ _ hc3).mono ?_
      rintro e w' ⟨rfl, rfl⟩
      go_wp2
      refine bodyPost_ret (by simp [results, Try.results8, go_sem]; try rfl) rfl ⟨ot, a.ts.length, od, a.ds.length, rfl, HA2.out, HA3.out, G2⟩
end Go.Proofs.Ytmanokhadppeeaa

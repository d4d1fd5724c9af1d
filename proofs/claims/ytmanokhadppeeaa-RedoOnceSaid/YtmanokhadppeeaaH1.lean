/- redo: what history writes: the plain side, and its memory. -/
import Derived.Test.YtmanokhadppeeaaU2
import Derived.Test.YtmanokhadppeeaaR1
import Derived.Deep.AppendLies
import Derived.WalkSmall
namespace Go.Proofs.Ytmanokhadppeeaa
open Go.RowKit
set_option linter.unusedSimpArgs false
set_option linter.unusedVariables false
/-- a step that came in -/
structure Sp where
  kind : Int
  txn : Int
  page : Int
  off : Int
def sF (x : Sp) : List Value := [.int .i64 x.kind, .int .i64 x.txn, .int .i64 x.page, .int .i64 x.off]
theorem sE : Enc sF 4 := ⟨fun _ => rfl, fun x u hu => by simp [sF] at hu; rcases hu with rfl | rfl | rfl | rfl <;> rfl, by omega⟩
abbrev StAt := AtF sF 4
theorem st_get {w : World} {oa : Option Addr} {l : List Sp} (h : StAt w oa l) (k : Nat) (hk : k < l.length) : ∃ b off, oa = some ⟨b, off, none⟩ ∧ w.cell? ⟨b, off + k * 4, none⟩ = some (.int .i64 l[k].kind) ∧ w.cell? ⟨b, off + k * 4 + 1, none⟩ = some (.int .i64 l[k].txn) ∧ w.cell? ⟨b, off + k * 4 + 2, none⟩ = some (.int .i64 l[k].page) ∧ w.cell? ⟨b, off + k * 4 + 3, none⟩ = some (.int .i64 l[k].off) := by
  obtain ⟨b, off, e, _, hc⟩ := h.get k hk
  exact ⟨b, off, e, by simpa using hc 0 _ rfl, hc 1 _ rfl, hc 2 _ rfl, hc 3 _ rfl⟩
/-- what a line of the log tells, without its places in memory -/
structure Co where
  lsn : Int
  kind : Int
  txn : Int
  prev : Int
  next : Int
  page : Int
  off : Int
  bs : List Int
  es : List Int
/-- with its places -/
structure Az where
  c : Co
  ob : Option Addr
  cb : Nat
  oa : Option Addr
  ca : Nat
def Az.ln (z : Az) : Ln := { lsn := z.c.lsn, kind := z.c.kind, txn := z.c.txn, prev := z.c.prev, next := z.c.next, page := z.c.page, off := z.c.off, ob := z.ob, bs := z.c.bs, cb := z.cb, oa := z.oa, es := z.c.es, ca := z.ca, ot := none, ts := [], ct := 0, od := none, ds := [], cd := 0, cnt := 0 }
def zF (z : Az) : List Value := nF z.ln
theorem zE : Enc zF 12 := ⟨fun _ => nE.len _, fun x => nE.one _, by omega⟩
theorem cells_zF (zs : List Az) : cellsF zF zs = cellsF nF (zs.map Az.ln) := by
  unfold cellsF zF
  rw [List.flatMap_map]
/-- a function, at one place turned -/
def up5 {α : Type} (f : Nat → α) (t : Nat) (x : α) : Nat → α := fun q => if q = t then x else f q
def r5 {α : Type} (f : Nat → α) : List α := [f 0, f 1, f 2, f 3, f 4]
theorem r5_up {α : Type} (f : Nat → α) (t : Nat) (x : α) (h : t < 5) : r5 (up5 f t x) = (r5 f).set t x := by
  match t, h with
  | 0, _ => rfl
  | 1, _ => rfl
  | 2, _ => rfl
  | 3, _ => rfl
  | 4, _ => rfl
theorem r5_get {α : Type} (f : Nat → α) (t : Nat) (h : t < 5) : (r5 f)[t]? = some (f t) := by
  match t, h with
  | 0, _ => rfl
  | 1, _ => rfl
  | 2, _ => rfl
  | 3, _ => rfl
  | 4, _ => rfl
/-- what history knows on its way -/
structure Hs where
  log : List Co
  last : Nat → Int
  done : Nat → Bool
  todo : Nat → List Int
def tOf (x : Int) : Nat := (BitVec.ofInt 64 x).toNat % 4 + 1
def pOf (x : Int) : Nat := (BitVec.ofInt 64 x).toNat % 4
def oOf (x : Int) : Nat := (BitVec.ofInt 64 x).toNat % 8
theorem tOf_bd (x : Int) : 1 ≤ tOf x ∧ tOf x ≤ 4 := by unfold tOf; omega
theorem and_t (x : Int) : bits .and .i64 x 3 = (pOf x : Int) := by
  have h : (BitVec.ofInt 64 x &&& BitVec.ofInt 64 3).toNat = (BitVec.ofInt 64 x).toNat % 4 := by
    rw [BitVec.toNat_and]
    exact Nat.and_two_pow_sub_one_eq_mod _ 2
  show IntKind.i64.wrap ((BitVec.ofInt 64 x &&& BitVec.ofInt 64 3).toNat : Int) = _
  rw [h]
  unfold pOf
  have h4 : (BitVec.ofInt 64 x).toNat % 4 < 4 := Nat.mod_lt _ (by omega)
  generalize (BitVec.ofInt 64 x).toNat % 4 = m at h4 ⊢
  rw [IntKind.wrap_i64]; omega
theorem and_o (x : Int) : bits .and .i64 x 7 = (oOf x : Int) := by
  have h : (BitVec.ofInt 64 x &&& BitVec.ofInt 64 7).toNat = (BitVec.ofInt 64 x).toNat % 8 := by
    rw [BitVec.toNat_and]
    exact Nat.and_two_pow_sub_one_eq_mod _ 3
  show IntKind.i64.wrap ((BitVec.ofInt 64 x &&& BitVec.ofInt 64 7).toNat : Int) = _
  rw [h]
  unfold oOf
  have h4 : (BitVec.ofInt 64 x).toNat % 8 < 8 := Nat.mod_lt _ (by omega)
  generalize (BitVec.ofInt 64 x).toNat % 8 = m at h4 ⊢
  rw [IntKind.wrap_i64]; omega
/-- the record that a step writes, and what is left to undo -/
def recR (i : Nat) (h : Hs) (s : Sp) : Co × (Nat → Bool) × (Nat → List Int) :=
  let t := tOf s.txn
  let lsn : Int := 10 * ((h.log.length : Int) + 1)
  if h.last t = 0 then (⟨lsn, 1, t, h.last t, 0, 0, 0, [], []⟩, h.done, h.todo)
  else if s.kind = 2 then (⟨lsn, 4, t, h.last t, 0, 0, 0, [], []⟩, up5 h.done t true, h.todo)
  else if s.kind = 3 ∧ 0 < (h.todo t).length then
    match h.log[((h.todo t).getLastD 0).toNat]? with
    | none => (⟨lsn, 3, t, h.last t, 0, 0, 0, [], []⟩, h.done, h.todo)
    | some u => (⟨lsn, 3, t, h.last t, u.prev, u.page, u.off, [], u.bs⟩, h.done, up5 h.todo t (h.todo t).dropLast)
  else (⟨lsn, 2, t, h.last t, 0, pOf s.page, oOf s.off, [(i : Int)], [(i : Int) + 1]⟩, h.done, up5 h.todo t (h.todo t ++ [(h.log.length : Int)]))
def stepH (i : Nat) (h : Hs) (s : Sp) : Hs :=
  if h.done (tOf s.txn) = true then h
  else ⟨h.log ++ [(recR i h s).1], up5 h.last (tOf s.txn) (10 * ((h.log.length : Int) + 1)), (recR i h s).2.1, (recR i h s).2.2⟩
def h0 : Hs := ⟨[], fun _ => 0, fun _ => false, fun _ => []⟩
def histF : Nat → Hs → List Sp → Hs
  | _, h, [] => h
  | i, h, s :: r => histF (i + 1) (stepH i h s) r
def hist (l : List Sp) : List Co := (histF 0 h0 (l.take 60)).log
theorem BOk.gz {w w' : World} {oa : Option Addr} {l : List Int} {v : Value} {base e n m : Nat} {xs : List Value} (h : BOk w oa l) (hg : Gz v w w') (ho : w.ownsRow base e n v m xs) (he : 5 ≠ e) : BOk w' oa l := by
  by_cases hl : l = []
  · exact ⟨.inl hl, fun b o q e hne => absurd hl hne⟩
  · rcases h.1 with h1 | ⟨b, off, e1, hb, hr⟩
    · exact absurd h1 hl
    · have T := h.2 b off none e1 hl
      have hne := T.ne ho he
      refine ⟨.inr ⟨b, off, e1, Nat.lt_of_lt_of_le hb hg.size, fun k hk j u hu => ?_⟩, fun b' o q e hne' => ?_⟩
      · exact Gz.cell hg (hr k hk j u hu) (fun g hv e => hne (by rw [hv, e]))
      · rw [e1] at e
        cases e
        exact T.gz hg hne
/-- its memory -/
structure HM (w0 : World) (v3 : Value) (zs : List Az) (h : Hs) (nb : Nat) (wx : World) : Prop where
  up : Gr w0 wx
  log : zs.map Az.c = h.log
  inb : ∀ t, ∀ v ∈ h.todo t, 0 ≤ v ∧ v < (nb : Int)
  tlen : ∀ t, (h.todo t).length ≤ nb
  row : wx.ownsRow w0.heap.size 34 12 v3 zs.length (cellsF zF zs)
  ok : ∀ z ∈ zs, BOk wx z.ob z.c.bs ∧ BOk wx z.oa z.c.es
  last : wx.ownsRow w0.heap.size 56 1 (.slice (some ⟨w0.heap.size, 0, none⟩) 5 5) 5 (r5 fun t => .int .i64 (h.last t))
  done : wx.ownsRow w0.heap.size 57 1 (.slice (some ⟨w0.heap.size + 1, 0, none⟩) 5 5) 5 (r5 fun t => .bool (h.done t))
  todo : ∃ vs : Nat → Value, wx.ownsRow w0.heap.size 58 1 (.slice (some ⟨w0.heap.size + 1 + 1, 0, none⟩) 5 5) 5 (r5 vs) ∧
    (∀ t, t < 5 → wx.ownsRow w0.heap.size 3 1 (vs t) (h.todo t).length (cellsF iF (h.todo t))) ∧ ∀ s t, s < 5 → t < 5 → s ≠ t → (vs s).ownBlock = none ∨ (vs s).ownBlock ≠ (vs t).ownBlock
section
variable {w0 wx wy : World} {v3 : Value} {zs : List Az} {h : Hs} {nb : Nat}
theorem HM.gr (H : HM w0 v3 zs h nb wx) (hg : Gr wx wy) : HM w0 v3 zs h nb wy := by
  obtain ⟨vs, h1, h2, h3⟩ := H.todo
  exact ⟨H.up.trans hg, H.log, H.inb, H.tlen, own_keep H.row hg, fun z hz => ⟨(H.ok z hz).1.gr hg, (H.ok z hz).2.gr hg⟩, own_keep H.last hg, own_keep H.done hg, vs, own_keep h1 hg, fun t ht => own_keep (h2 t ht) hg, h3⟩
theorem HM.lastAt (H : HM w0 v3 zs h nb wx) (t : Nat) (ht : t < 5) : wx.cell? ⟨w0.heap.size, t, none⟩ = some (.int .i64 (h.last t)) ∧ wx.frozen? ⟨w0.heap.size, t, none⟩ = false := ⟨by rw [H.last.cellAt t (by omega), r5_get _ t ht], H.last.frozenAt t⟩
theorem HM.doneAt (H : HM w0 v3 zs h nb wx) (t : Nat) (ht : t < 5) : wx.cell? ⟨w0.heap.size + 1, t, none⟩ = some (.bool (h.done t)) ∧ wx.frozen? ⟨w0.heap.size + 1, t, none⟩ = false := ⟨by rw [H.done.cellAt t (by omega), r5_get _ t ht], H.done.frozenAt t⟩
theorem HM.todoAt (H : HM w0 v3 zs h nb wx) (t : Nat) (ht : t < 5) : ∃ v, wx.cell? ⟨w0.heap.size + 1 + 1, t, none⟩ = some v ∧ wx.frozen? ⟨w0.heap.size + 1 + 1, t, none⟩ = false ∧ wx.ownsRow w0.heap.size 3 1 v (h.todo t).length (cellsF iF (h.todo t)) := by
  obtain ⟨vs, h1, h2, h3⟩ := H.todo
  exact ⟨vs t, by rw [h1.cellAt t (by omega), r5_get _ t ht], h1.frozenAt t, h2 t ht⟩
theorem r5_map {α β : Type} (f : α → β) (g : Nat → α) (t : Nat) (x : α) : (fun q => f (up5 g t x q)) = up5 (fun q => f (g q)) t (f x) := by
  funext q
  unfold up5
  split <;> rfl
theorem HM.nbUp (H : HM w0 v3 zs h nb wx) {n : Nat} (hn : nb ≤ n) : HM w0 v3 zs h n wx := ⟨H.up, H.log, fun t v hv => by have := H.inb t v hv; omega, fun t => Nat.le_trans (H.tlen t) hn, H.row, H.ok, H.last, H.done, H.todo⟩
/-- the last place is told anew -/
theorem HM.setLast (H : HM w0 v3 zs h nb wx) (t : Nat) (ht : t < 5) (n : Int) : HM w0 v3 zs { h with last := up5 h.last t n } nb (wx.setCell ⟨w0.heap.size, t, none⟩ (.int .i64 n)) := by
  obtain ⟨vs, h1, h2, h3⟩ := H.todo
  obtain ⟨s1, g1⟩ := H.last.stored t (.int .i64 n)
  rw [← r5_up (fun t => Value.int .i64 (h.last t)) t _ ht, ← r5_map (fun x : Int => Value.int .i64 x)] at s1
  have G : Gz (.slice (some ⟨w0.heap.size, 0, none⟩) 5 5) wx (wx.setCell ⟨w0.heap.size, t, none⟩ (.int .i64 n)) := g1
  exact ⟨Gz.up H.up G H.last, H.log, H.inb, H.tlen, H.row.kept G (own_apart H.row H.last (by decide)), fun z hz => ⟨(H.ok z hz).1.gz G H.last (by decide), (H.ok z hz).2.gz G H.last (by decide)⟩, s1, H.done.kept G (own_apart H.done H.last (by decide)), vs, h1.kept G (own_apart h1 H.last (by decide)), fun q hq => (h2 q hq).kept G (own_apart (h2 q hq) H.last (by decide)), h3⟩
theorem HM.setDone (H : HM w0 v3 zs h nb wx) (t : Nat) (ht : t < 5) (n : Bool) : HM w0 v3 zs { h with done := up5 h.done t n } nb (wx.setCell ⟨w0.heap.size + 1, t, none⟩ (.bool n)) := by
  obtain ⟨vs, h1, h2, h3⟩ := H.todo
  obtain ⟨s1, g1⟩ := H.done.stored t (.bool n)
  rw [← r5_up (fun t => Value.bool (h.done t)) t _ ht, ← r5_map (fun x : Bool => Value.bool x)] at s1
  have G : Gz (.slice (some ⟨w0.heap.size + 1, 0, none⟩) 5 5) wx (wx.setCell ⟨w0.heap.size + 1, t, none⟩ (.bool n)) := g1
  exact ⟨Gz.up H.up G H.done, H.log, H.inb, H.tlen, H.row.kept G (own_apart H.row H.done (by decide)), fun z hz => ⟨(H.ok z hz).1.gz G H.done (by decide), (H.ok z hz).2.gz G H.done (by decide)⟩, H.last.kept G (own_apart H.last H.done (by decide)), s1, vs, h1.kept G (own_apart h1 H.done (by decide)), fun q hq => (h2 q hq).kept G (own_apart (h2 q hq) H.done (by decide)), h3⟩
/-- another block than all of these turned -/
theorem HM.gz (H : HM w0 v3 zs h nb wx) {v : Value} {base e n m : Nat} {xs : List Value} (hg : Gz v wx wy) (ho : wx.ownsRow base e n v m xs) (hb : w0.heap.size ≤ base) (he : e ≠ 34 ∧ e ≠ 5 ∧ e ≠ 56 ∧ e ≠ 57 ∧ e ≠ 58 ∧ e ≠ 3) : HM w0 v3 zs h nb wy := by
  obtain ⟨vs, h1, h2, h3⟩ := H.todo
  exact ⟨Gz.up H.up hg (own_mono ho hb), H.log, H.inb, H.tlen, H.row.kept hg (own_apart H.row ho (Ne.symm he.1)), fun z hz => ⟨(H.ok z hz).1.gz hg ho (Ne.symm he.2.1), (H.ok z hz).2.gz hg ho (Ne.symm he.2.1)⟩, H.last.kept hg (own_apart H.last ho (Ne.symm he.2.2.1)), H.done.kept hg (own_apart H.done ho (Ne.symm he.2.2.2.1)), vs, h1.kept hg (own_apart h1 ho (Ne.symm he.2.2.2.2.1)), fun q hq => (h2 q hq).kept hg (own_apart (h2 q hq) ho (Ne.symm he.2.2.2.2.2)), h3⟩
/-- a line is appended -/
theorem HM.push (H : HM w0 v3 zs h nb wx) (z : Az) {v' : Value} (hown : wy.ownsRow w0.heap.size 34 12 v' (zs.length + 1) (cellsF zF zs ++ zF z)) (hg : Gz v3 wx wy) (hz : BOk wx z.ob z.c.bs ∧ BOk wx z.oa z.c.es) : HM w0 v' (zs ++ [z]) { h with log := h.log ++ [z.c] } nb wy := by
  obtain ⟨vs, h1, h2, h3⟩ := H.todo
  refine ⟨Gz.up H.up hg H.row, by rw [List.map_append, H.log]; rfl, fun t v hv => ?_, H.tlen, by rw [List.length_append, cellsF_snoc]; exact hown, fun y hy => ?_, H.last.kept hg (own_apart H.last H.row (by decide)), H.done.kept hg (own_apart H.done H.row (by decide)), vs, h1.kept hg (own_apart h1 H.row (by decide)), fun q hq => (h2 q hq).kept hg (own_apart (h2 q hq) H.row (by decide)), h3⟩
  · exact H.inb t v hv
  · rcases List.mem_append.1 hy with hy | hy
    · exact ⟨(H.ok y hy).1.gz hg H.row (by decide), (H.ok y hy).2.gz hg H.row (by decide)⟩
    · simp only [List.mem_singleton] at hy
      subst hy
      exact ⟨hz.1.gz hg H.row (by decide), hz.2.gz hg H.row (by decide)⟩
/-- the newest one to undo is taken away -/
theorem HM.pop (H : HM w0 v3 zs h nb wx) (t : Nat) (ht : t < 5) {g cap : Nat} (hc : wx.cell? ⟨w0.heap.size + 1 + 1, t, none⟩ = some (.slice (some ⟨g, 0, none⟩) (h.todo t).length cap)) (hpos : 0 < (h.todo t).length) :
    HM w0 v3 zs { h with todo := up5 h.todo t (h.todo t).dropLast } nb (wx.setCell ⟨w0.heap.size + 1 + 1, t, none⟩ (.slice (some ⟨g, 0, none⟩) ((h.todo t).length - 1) cap)) := by
  obtain ⟨vs, h1, h2, h3⟩ := H.todo
  have hvt : vs t = .slice (some ⟨g, 0, none⟩) (h.todo t).length cap := by
    have := h1.cellAt t (by omega)
    rw [hc, r5_get _ t ht] at this
    exact (Option.some.inj this).symm
  obtain ⟨s1, g1⟩ := h1.stored t (.slice (some ⟨g, 0, none⟩) ((h.todo t).length - 1) cap)
  rw [← r5_up vs t _ ht] at s1
  have G : Gz (.slice (some ⟨w0.heap.size + 1 + 1, 0, none⟩) 5 5) wx (wx.setCell ⟨w0.heap.size + 1 + 1, t, none⟩ (.slice (some ⟨g, 0, none⟩) ((h.todo t).length - 1) cap)) := g1
  have hne : h.todo t ≠ [] := by intro e; rw [e] at hpos; simp at hpos
  have hpop : wx.ownsRow w0.heap.size 3 1 (.slice (some ⟨g, 0, none⟩) ((h.todo t).length - 1) cap) ((h.todo t).length - 1) (cellsF iF (h.todo t).dropLast) := by
    have h4 := h2 t ht
    rw [hvt] at h4
    have e1 : (h.todo t).length = (h.todo t).length - 1 + 1 := by omega
    have e2 : cellsF iF (h.todo t) = cellsF iF (h.todo t).dropLast ++ iF ((h.todo t).getLast hne) := by
      rw [← cellsF_snoc, List.dropLast_concat_getLast]
    refine ownsRow_pop (last := iF ((h.todo t).getLast hne)) (by rw [iE.cells_len, List.length_dropLast]) ?_
    rw [← e2, ← e1]
    exact h4
  refine ⟨Gz.up H.up G h1, H.log, fun q v hv => ?_, fun q => ?_, H.row.kept G (own_apart H.row h1 (by decide)), fun z hz => ⟨(H.ok z hz).1.gz G h1 (by decide), (H.ok z hz).2.gz G h1 (by decide)⟩, H.last.kept G (own_apart H.last h1 (by decide)), H.done.kept G (own_apart H.done h1 (by decide)), up5 vs t (.slice (some ⟨g, 0, none⟩) ((h.todo t).length - 1) cap), s1, fun q hq => ?_, fun a b ha hb hab => ?_⟩
  · by_cases e : q = t
    · subst e
      have e1 : up5 h.todo q (h.todo q).dropLast q = (h.todo q).dropLast := by unfold up5; rw [if_pos rfl]
      simp only [e1] at hv
      exact H.inb q v ((List.dropLast_sublist _).subset hv)
    · have e1 : up5 h.todo t (h.todo t).dropLast q = h.todo q := by unfold up5; rw [if_neg e]
      simp only [e1] at hv
      exact H.inb q v hv
  · have := H.tlen q
    show (up5 h.todo t (h.todo t).dropLast q).length ≤ nb
    unfold up5
    split
    · rename_i e; subst e; rw [List.length_dropLast]; omega
    · exact this
  · by_cases e : q = t
    · subst e
      have e1 : up5 h.todo q (h.todo q).dropLast q = (h.todo q).dropLast := by unfold up5; rw [if_pos rfl]
      have e2 : up5 vs q (.slice (some ⟨g, 0, none⟩) ((h.todo q).length - 1) cap) q = .slice (some ⟨g, 0, none⟩) ((h.todo q).length - 1) cap := by unfold up5; rw [if_pos rfl]
      simp only [e1, e2, List.length_dropLast]
      exact hpop.kept G (own_apart hpop h1 (by decide))
    · have e1 : up5 h.todo t (h.todo t).dropLast q = h.todo q := by unfold up5; rw [if_neg e]
      have e2 : up5 vs t (.slice (some ⟨g, 0, none⟩) ((h.todo t).length - 1) cap) q = vs q := by unfold up5; rw [if_neg e]
      simp only [e1, e2]
      exact (h2 q hq).kept G (own_apart (h2 q hq) h1 (by decide))
  · have own : ∀ q, (up5 vs t (.slice (some ⟨g, 0, none⟩) ((h.todo t).length - 1) cap) q).ownBlock = (vs q).ownBlock := by
      intro q
      unfold up5
      split
      · rename_i e; subst e; rw [hvt]; rfl
      · rfl
    rw [own a, own b]
    exact h3 a b ha hb hab
theorem HM.todoKeep (H : HM w0 v3 zs h nb wx) (t : Nat) (ht : t < 5) {v : Value} (hc : wx.cell? ⟨w0.heap.size + 1 + 1, t, none⟩ = some v) (hg : Gz v wx wy) : wy.cell? ⟨w0.heap.size + 1 + 1, t, none⟩ = some v ∧ wy.frozen? ⟨w0.heap.size + 1 + 1, t, none⟩ = false := by
  obtain ⟨vs, h1, h2, h3⟩ := H.todo
  have hvt : vs t = v := by
    have := h1.cellAt t (by omega)
    rw [hc, r5_get _ t ht] at this
    exact (Option.some.inj this).symm
  have hv := h2 t ht
  rw [hvt] at hv
  have k1 := h1.kept hg (own_apart h1 hv (by decide))
  exact ⟨by rw [k1.cellAt t (by omega), r5_get _ t ht, hvt], k1.frozenAt t⟩
/-- one more to undo -/
theorem HM.putTodo (H : HM w0 v3 zs h nb wx) (t : Nat) (ht : t < 5) {v v' : Value} {n : Int} (hc : wx.cell? ⟨w0.heap.size + 1 + 1, t, none⟩ = some v) (hown : wy.ownsRow w0.heap.size 3 1 v' ((h.todo t).length + 1) (cellsF iF (h.todo t) ++ iF n)) (hg : Gz v wx wy) (hat : v'.ownBlock = v.ownBlock ∨ ∃ g, v'.ownBlock = some g ∧ wx.heap.size ≤ g) (hn : 0 ≤ n ∧ n < ((nb + 1 : Nat) : Int)) :
    HM w0 v3 zs { h with todo := up5 h.todo t (h.todo t ++ [n]) } (nb + 1) (wy.setCell ⟨w0.heap.size + 1 + 1, t, none⟩ v') := by
  obtain ⟨vs, h1, h2, h3⟩ := H.todo
  have hvt : vs t = v := by
    have := h1.cellAt t (by omega)
    rw [hc, r5_get _ t ht] at this
    exact (Option.some.inj this).symm
  have hv := h2 t ht
  rw [hvt] at hv
  have k1 := h1.kept hg (own_apart h1 hv (by decide))
  obtain ⟨s1, g1⟩ := k1.stored t v'
  rw [← r5_up vs t _ ht] at s1
  have G : Gz (.slice (some ⟨w0.heap.size + 1 + 1, 0, none⟩) 5 5) wy (wy.setCell ⟨w0.heap.size + 1 + 1, t, none⟩ v') := g1
  have row1 := H.row.kept hg (own_apart H.row hv (by decide))
  have last1 := H.last.kept hg (own_apart H.last hv (by decide))
  have done1 := H.done.kept hg (own_apart H.done hv (by decide))
  have ok1 : ∀ z ∈ zs, BOk wy z.ob z.c.bs ∧ BOk wy z.oa z.c.es := fun z hz => ⟨(H.ok z hz).1.gz hg hv (by decide), (H.ok z hz).2.gz hg hv (by decide)⟩
  have up1 := Gz.up H.up hg hv
  have e1 : ∀ q, up5 h.todo t (h.todo t ++ [n]) q = if q = t then h.todo t ++ [n] else h.todo q := fun q => rfl
  have e2 : ∀ q, up5 vs t v' q = if q = t then v' else vs q := fun q => rfl
  refine ⟨Gz.up up1 G k1, H.log, fun q x hx => ?_, fun q => ?_, row1.kept G (own_apart row1 k1 (by decide)), fun z hz => ⟨(ok1 z hz).1.gz G k1 (by decide), (ok1 z hz).2.gz G k1 (by decide)⟩, last1.kept G (own_apart last1 k1 (by decide)), done1.kept G (own_apart done1 k1 (by decide)), up5 vs t v', s1, fun q hq => ?_, fun a b ha hb hab => ?_⟩
  · simp only [e1] at hx
    by_cases e : q = t
    · rw [if_pos e] at hx
      rcases List.mem_append.1 hx with hx | hx
      · have := H.inb t x hx; omega
      · simp only [List.mem_singleton] at hx
        subst hx
        exact hn
    · rw [if_neg e] at hx
      have := H.inb q x hx; omega
  · have := H.tlen q
    simp only [e1]
    split
    · rename_i e; subst e; rw [List.length_append, List.length_singleton]; omega
    · omega
  · simp only [e1, e2]
    by_cases e : q = t
    · rw [if_pos e, if_pos e]
      have : wy.ownsRow w0.heap.size 3 1 v' (h.todo t ++ [n]).length (cellsF iF (h.todo t ++ [n])) := by
        rw [List.length_append, cellsF_snoc]; exact hown
      exact this.kept G (own_apart this k1 (by decide))
    · rw [if_neg e, if_neg e]
      have hs := h2 q hq
      have hk : wy.ownsRow w0.heap.size 3 1 (vs q) (h.todo q).length (cellsF iF (h.todo q)) := hs.kept hg (by
        have := h3 q t hq ht e
        rwa [hvt] at this)
      exact hk.kept G (own_apart hk k1 (by decide))
  · simp only [e2]
    have far : ∀ s, s < 5 → s ≠ t → (vs s).ownBlock = none ∨ (vs s).ownBlock ≠ v'.ownBlock := fun s hs hne => by
      rcases h3 s t hs ht hne with h | h
      · exact .inl h
      · rcases hat with h' | ⟨g, h', hge⟩
        · rw [h', ← hvt]; exact .inr h
        · cases hb : (vs s).ownBlock with
          | none => exact .inl rfl
          | some k =>
            have := ((h2 s hs).lt k hb).2
            refine .inr fun e => ?_
            rw [h'] at e
            cases e
            omega
    by_cases ea : a = t
    · rw [if_pos ea]
      rw [if_neg (fun e => hab (by rw [ea, e]))]
      subst ea
      rcases far b hb (fun e => hab e.symm) with h | h
      · rcases hv' : v'.ownBlock with _ | k
        · exact .inl rfl
        · rw [h]; exact .inr (by simp)
      · exact .inr fun e => h e.symm
    · rw [if_neg ea]
      by_cases eb : b = t
      · rw [if_pos eb]; exact far a ha ea
      · rw [if_neg eb]; exact h3 a b ha hb hab
theorem byte_ok {W : World} {g : Nat} {x : Int} (hc : W.cell? ⟨g, 0, none⟩ = some (.int .u8 x)) (ht : Ty 5 W g) : BOk W (some ⟨g, 0, none⟩) [x] := by
  refine ⟨.inr ⟨g, 0, rfl, lt_of_cell hc, fun k hk j u hu => ?_⟩, fun b o q e _ => by cases e; exact ht⟩
  obtain rfl : k = 0 := by simpa using hk
  have hj : j < 1 := by rw [← bE.len x]; exact (List.getElem?_eq_some_iff.1 hu).1
  obtain rfl : j = 0 := by omega
  simp [bF] at hu
  subst hu
  simpa using hc
theorem HM.init (w : World) : HM w (.slice none 0 0) [] h0 0 (((w.alloc (.cells #[.int .i64 0, .int .i64 0, .int .i64 0, .int .i64 0, .int .i64 0] 56)).alloc (.cells #[.bool false, .bool false, .bool false, .bool false, .bool false] 57)).alloc (.cells #[.slice none 0 0, .slice none 0 0, .slice none 0 0, .slice none 0 0, .slice none 0 0] 58)) := by
  have a1 := World.ownsRow_lit (base := w.heap.size) (e := 56) (size := 1) w #[.int .i64 0, .int .i64 0, .int .i64 0, .int .i64 0, .int .i64 0] 5 (Nat.le_refl _) (by decide) rfl
  have a2 := World.ownsRow_lit (base := w.heap.size) (e := 57) (size := 1) (w.alloc (.cells #[.int .i64 0, .int .i64 0, .int .i64 0, .int .i64 0, .int .i64 0] 56)) #[.bool false, .bool false, .bool false, .bool false, .bool false] 5 (by simp) (by decide) rfl
  have a3 := World.ownsRow_lit (base := w.heap.size) (e := 58) (size := 1) ((w.alloc (.cells #[.int .i64 0, .int .i64 0, .int .i64 0, .int .i64 0, .int .i64 0] 56)).alloc (.cells #[.bool false, .bool false, .bool false, .bool false, .bool false] 57)) #[.slice none 0 0, .slice none 0 0, .slice none 0 0, .slice none 0 0, .slice none 0 0] 5 (by simp; omega) (by decide) rfl
  have e2 : (w.alloc (.cells #[.int .i64 0, .int .i64 0, .int .i64 0, .int .i64 0, .int .i64 0] 56)).heap.size = w.heap.size + 1 := by simp
  have e3 : ((w.alloc (.cells #[.int .i64 0, .int .i64 0, .int .i64 0, .int .i64 0, .int .i64 0] 56)).alloc (.cells #[.bool false, .bool false, .bool false, .bool false, .bool false] 57)).heap.size = w.heap.size + 1 + 1 := by simp
  rw [e2] at a2
  rw [e3] at a3
  exact ⟨(((Gr.refl w).alloc _).alloc _).alloc _, rfl, fun t v hv => by simp [h0] at hv, fun t => Nat.le_refl _, World.ownsRow_nil _ _ _ _, fun z hz => by simp at hz, (a1.alloc _).alloc _, a2.alloc _, fun _ => .slice none 0 0, a3, fun t ht => World.ownsRow_nil _ _ _ _, fun _ _ _ _ _ => .inl rfl⟩
end
end Go.Proofs.Ytmanokhadppeeaa

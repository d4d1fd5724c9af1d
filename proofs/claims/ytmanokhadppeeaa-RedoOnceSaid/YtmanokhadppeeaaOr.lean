/- redo: the plain law of RedoOnce: the law's own scan against what the history keeps. -/
import Derived.Test.YtmanokhadppeeaaOp
namespace Go.Proofs.Ytmanokhadppeeaa
open Go.RowKit
set_option linter.unusedSimpArgs false
set_option linter.unusedVariables false
theorem drop_mem {α : Type} {l : List α} {n : Nat} {x : α} : x ∈ l.drop n ↔ ∃ k, n ≤ k ∧ l[k]? = some x := by
  rw [List.mem_iff_getElem?]
  constructor
  · rintro ⟨k, h⟩
    rw [List.getElem?_drop] at h
    exact ⟨n + k, by omega, h⟩
  · rintro ⟨k, h1, h2⟩
    exact ⟨k - n, by rw [List.getElem?_drop, show n + (k - n) = k by omega]; exact h2⟩
theorem az_get {zs : List Az} {h : Hs} (hz : zs.map Az.c = h.log) (k : Nat) : h.log[k]? = (zs[k]?).map Az.c := by rw [← hz, List.getElem?_map]
theorem won_iff {zs : List Az} {h : Hs} (hz : zs.map Az.c = h.log) (i : Nat) (z : Az) : wonB (zs.map Az.ln) i z.ln = true ↔ wonP h.log i z.c := by
  unfold wonB wonP
  rw [List.any_eq_true]
  constructor
  · rintro ⟨x, hx, hp⟩
    obtain ⟨k, h1, h2⟩ := drop_mem.1 hx
    rw [List.getElem?_map] at h2
    obtain ⟨y, hy, rfl⟩ := Option.map_eq_some_iff.1 h2
    simp only [Bool.and_eq_true, beq_iff_eq] at hp
    exact ⟨k, y.c, by omega, by rw [az_get hz, hy]; rfl, hp.1, hp.2⟩
  · rintro ⟨k, x, h1, h2, h3, h4⟩
    rw [az_get hz] at h2
    obtain ⟨y, hy, rfl⟩ := Option.map_eq_some_iff.1 h2
    refine ⟨y.ln, drop_mem.2 ⟨k, by omega, by rw [List.getElem?_map, hy]; rfl⟩, ?_⟩
    simp only [Bool.and_eq_true, beq_iff_eq]
    exact ⟨h3, h4⟩
theorem gone_iff {zs : List Az} {h : Hs} (hz : zs.map Az.c = h.log) (i : Nat) (z : Az) : goneN (zs.map Az.ln) i z.ln = 0 ↔ ¬ goneP h.log i z.c := by
  unfold goneN goneP
  rw [List.length_eq_zero_iff, List.filter_eq_nil_iff]
  constructor
  · rintro hn ⟨k, x, h1, h2, h3, h4, h5⟩
    rw [az_get hz] at h2
    obtain ⟨y, hy, rfl⟩ := Option.map_eq_some_iff.1 h2
    refine hn y.ln (drop_mem.2 ⟨k, by omega, by rw [List.getElem?_map, hy]; rfl⟩) ?_
    simp only [Bool.and_eq_true, beq_iff_eq, decide_eq_true_eq]
    exact ⟨⟨h3, h4⟩, h5⟩
  · intro hn x hx hp
    obtain ⟨k, h1, h2⟩ := drop_mem.1 hx
    rw [List.getElem?_map] at h2
    obtain ⟨y, hy, rfl⟩ := Option.map_eq_some_iff.1 h2
    simp only [Bool.and_eq_true, beq_iff_eq, decide_eq_true_eq] at hp
    exact hn ⟨k, y.c, by omega, by rw [az_get hz, hy]; rfl, hp.1.1, hp.1.2, hp.2⟩
/-- an update is open if it stands in the stack of a transaction not done -/
theorem open_iff {zs : List Az} {h : Hs} (hz : zs.map Az.c = h.log) (H : OI h) (i : Nat) : openB (zs.map Az.ln) i = true ↔ ∃ t : Nat, h.done t = false ∧ (i : Int) ∈ h.todo t := by
  unfold openB
  rw [List.getElem?_map]
  cases e : zs[i]? with
  | none =>
    simp only [Option.map_none]
    constructor
    · intro h; cases h
    · rintro ⟨t, h1, h2⟩
      obtain ⟨c, g1, _⟩ := (H.ch t h1).le (i : Int) (by simpa using h2)
      rw [Int.toNat_natCast, az_get hz, e] at g1
      cases g1
  | some z =>
    have hc : h.log[i]? = some z.c := by rw [az_get hz, e]; rfl
    simp only [Option.map_some, Bool.and_eq_true, Bool.not_eq_true', beq_iff_eq]
    have hw := won_iff hz i z
    have hg := gone_iff hz i z
    have hk : z.ln.kind = z.c.kind := rfl
    rw [hk]
    constructor
    · rintro ⟨⟨h1, h2⟩, h3⟩
      have hd : h.done z.c.txn.toNat = false := by
        cases e2 : h.done z.c.txn.toNat with
        | false => rfl
        | true =>
          have := hw.2 ((H.won i z.c hc h1).1 e2)
          rw [h2] at this; cases this
      exact ⟨_, hd, (H.gone i z.c hc h1 hd).2 (hg.1 h3)⟩
    · rintro ⟨t, h1, h2⟩
      obtain ⟨c, g1, g2, g3, g4, g5⟩ := (H.ch t h1).le (i : Int) (by simpa using h2)
      rw [Int.toNat_natCast, hc] at g1
      cases g1
      have ht : z.c.txn.toNat = t := by omega
      rw [← ht] at h1 h2
      refine ⟨⟨g3, ?_⟩, hg.2 ((H.gone i z.c hc g3 h1).1 h2)⟩
      cases e2 : wonB (zs.map Az.ln) i z.ln with
      | false => rfl
      | true =>
        have := (H.won i z.c hc g3).2 (hw.1 e2)
        rw [h1] at this; cases this
end Go.Proofs.Ytmanokhadppeeaa

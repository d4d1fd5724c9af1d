/- redo: what an update's record and a CLR's are to be. -/
import Derived.Test.YtmanokhadppeeaaUr
import Derived.Test.YtmanokhadppeeaaH1
namespace Go.Proofs.Ytmanokhadppeeaa
open Go.RowKit
set_option linter.unusedVariables false
theorem own_uniq {w : World} {base e n g cap m : Nat} {xs ys : List Value} (h : w.ownsRow base e n (.slice (some ⟨g, 0, none⟩) m cap) m xs) (k : w.ownsRow base e n (.slice (some ⟨g, 0, none⟩) m cap) m ys) : xs = ys := by
  apply List.ext_getElem?
  intro i
  by_cases hi : i < m * n
  · rw [← h.cellAt i hi, ← k.cellAt i hi]
  · rw [List.getElem?_eq_none (by rw [h.1]; omega), List.getElem?_eq_none (by rw [k.1]; omega)]
def FinU (k : Nat) (pp qq : Int) : Nat → Value → World → Prop
  | 0, u, _ => u = .int .i64 2
  | 4, u, _ => u = .int .i64 pp
  | 5, u, _ => u = .int .i64 qq
  | 6, u, w => ∃ g, u = .slice (some ⟨g, 0, none⟩) 1 1 ∧ BOk w (some ⟨g, 0, none⟩) [(k : Int)]
  | 7, u, w => ∃ g, u = .slice (some ⟨g, 0, none⟩) 1 1 ∧ BOk w (some ⟨g, 0, none⟩) [(k : Int) + 1]
  | _, _, _ => False
theorem finU_ok (base g k : Nat) (pp qq : Int) : FinOk base 32 11 g (FinU k pp qq) := by
  intro j u b c ho hg h
  obtain ⟨xs, hx⟩ := ho
  unfold FinU at h ⊢
  split at h
  · exact h
  · exact h
  · exact h
  · obtain ⟨g0, e, hb⟩ := h
    exact ⟨g0, e, hb.gz hg hx (by decide)⟩
  · obtain ⟨g0, e, hb⟩ := h
    exact ⟨g0, e, hb.gz hg hx (by decide)⟩
  · exact h
/-- the record when all but the last place are told -/
theorem finU_row {base g k : Nat} {pp qq : Int} {W w : World} {a1 a2 a3 a8 a9 a10 x0 x4 x5 x6 x7 : Value} (h : MvU base 32 11 g (FinU k pp qq) W w) (hW : W.ownsRow base 32 11 (vG g) 1 [x0, a1, a2, a3, x4, x5, x6, x7, a8, a9, a10])
    (f0 : CellG base 32 11 g (FinU k pp qq) 0 undef w) (f4 : CellG base 32 11 g (FinU k pp qq) 4 undef w) (f5 : CellG base 32 11 g (FinU k pp qq) 5 undef w) (f6 : CellG base 32 11 g (FinU k pp qq) 6 undef w) :
    ∃ g0 y7, w.ownsRow base 32 11 (vG g) 1 [.int .i64 2, a1, a2, a3, .int .i64 pp, .int .i64 qq, .slice (some ⟨g0, 0, none⟩) 1 1, y7, a8, a9, a10] ∧ BOk w (some ⟨g0, 0, none⟩) [(k : Int)] := by
  have h1 : ∃ xs', w.ownsRow base 32 11 (vG g) 1 xs' ∧ ∀ j, xs'[j]? = [x0, a1, a2, a3, x4, x5, x6, x7, a8, a9, a10][j]? ∨ ∃ u, xs'[j]? = some u ∧ FinU k pp qq j u w := by
    rcases h with rfl | h
    · exact ⟨_, hW, fun j => .inl rfl⟩
    · exact h.at' _ hW
  obtain ⟨xs, hx, hj⟩ := h1
  have get : ∀ j, CellG base 32 11 g (FinU k pp qq) j undef w → ∃ u, xs[j]? = some u ∧ FinU k pp qq j u w := fun j ⟨ys, hy, u, hu, hf⟩ => ⟨u, by rw [own_uniq hx hy]; exact hu, hf⟩
  obtain ⟨u0, e0, q0⟩ := get 0 f0
  obtain ⟨u4, e4, q4⟩ := get 4 f4
  obtain ⟨u5, e5, q5⟩ := get 5 f5
  obtain ⟨u6, e6, g0, q6, hb⟩ := get 6 f6
  have same : ∀ j, (∀ u, ¬ FinU k pp qq j u w) → xs[j]? = [x0, a1, a2, a3, x4, x5, x6, x7, a8, a9, a10][j]? := fun j hn => by
    rcases hj j with h | ⟨u, _, h⟩
    · exact h
    · exact absurd h (hn u)
  have s1 := same 1 (fun u h => h)
  have s2 := same 2 (fun u h => h)
  have s3 := same 3 (fun u h => h)
  have s8 := same 8 (fun u h => h)
  have s9 := same 9 (fun u h => h)
  have s10 := same 10 (fun u h => h)
  have hlen : xs.length = 11 := by have := hx.1; omega
  have e7 : xs[7]? = some (xs[7]'(by omega)) := List.getElem?_eq_getElem (by omega)
  refine ⟨g0, xs[7]'(by omega), ?_, hb⟩
  have q0 : u0 = .int .i64 2 := q0
  have q4 : u4 = .int .i64 pp := q4
  have q5 : u5 = .int .i64 qq := q5
  subst q0 q4 q5 q6
  have : xs = [.int .i64 2, a1, a2, a3, .int .i64 pp, .int .i64 qq, .slice (some ⟨g0, 0, none⟩) 1 1, xs[7]'(by omega), a8, a9, a10] := by
    apply List.ext_getElem?
    intro i
    match i with
    | 0 => exact e0
    | 1 => exact s1
    | 2 => exact s2
    | 3 => exact s3
    | 4 => exact e4
    | 5 => exact e5
    | 6 => exact e6
    | 7 => exact e7
    | 8 => exact s8
    | 9 => exact s9
    | 10 => exact s10
    | i + 11 => rw [List.getElem?_eq_none (by omega), List.getElem?_eq_none (by simp)]
  rw [← this]
  exact hx
theorem ur_keep {base g k : Nat} {pp qq : Int} (xs ys : List Value) : ∀ i u w w', Rg.Gat [(8, SoG base 32 11 g 5 1 xs), (12, SoG base 32 11 g 5 1 ys), (14, CellG base 32 11 g (FinU k pp qq) 0), (16, CellG base 32 11 g (FinU k pp qq) 4), (18, CellG base 32 11 g (FinU k pp qq) 5), (20, CellG base 32 11 g (FinU k pp qq) 6)] i u w → MvU base 32 11 g (FinU k pp qq) w w' →
    Rg.Gat [(8, SoG base 32 11 g 5 1 xs), (12, SoG base 32 11 g 5 1 ys), (14, CellG base 32 11 g (FinU k pp qq) 0), (16, CellG base 32 11 g (FinU k pp qq) 4), (18, CellG base 32 11 g (FinU k pp qq) 5), (20, CellG base 32 11 g (FinU k pp qq) 6)] i u w' := by
  intro i u w w' h hu
  have hF := finU_ok base g k pp qq
  iterate 6
    unfold Rg.Gat at h ⊢
    split at h
    · rename_i hk; rw [if_pos hk]
      first
      | exact SoG.keep (by decide) h hu
      | exact CellG.keep (u' := u) hF h hu
    rename_i hk; rw [if_neg hk]
  trivial
def FinC (c0 c4 c5 c7 : Value) : Nat → Value → World → Prop
  | 0, u, _ => u = c0
  | 4, u, _ => u = c4
  | 5, u, _ => u = c5
  | 7, u, _ => u = c7
  | _, _, _ => False
theorem finC_ok (base g : Nat) (c0 c4 c5 c7 : Value) : FinOk base 32 11 g (FinC c0 c4 c5 c7) := by
  intro j u b c ho hg h
  unfold FinC at h ⊢
  split at h <;> exact h
theorem finC_row {base g : Nat} {c0 c4 c5 c7 : Value} {W w : World} {a1 a2 a3 a6 a8 a9 a10 x0 x4 x5 x7 : Value} (h : MvU base 32 11 g (FinC c0 c4 c5 c7) W w) (hW : W.ownsRow base 32 11 (vG g) 1 [x0, a1, a2, a3, x4, x5, a6, x7, a8, a9, a10])
    (f0 : CellG base 32 11 g (FinC c0 c4 c5 c7) 0 undef w) (f4 : CellG base 32 11 g (FinC c0 c4 c5 c7) 4 undef w) (f5 : CellG base 32 11 g (FinC c0 c4 c5 c7) 5 undef w) (f7 : CellG base 32 11 g (FinC c0 c4 c5 c7) 7 undef w) :
    w.ownsRow base 32 11 (vG g) 1 [c0, a1, a2, a3, c4, c5, a6, c7, a8, a9, a10] := by
  have h1 : ∃ xs', w.ownsRow base 32 11 (vG g) 1 xs' ∧ ∀ j, xs'[j]? = [x0, a1, a2, a3, x4, x5, a6, x7, a8, a9, a10][j]? ∨ ∃ u, xs'[j]? = some u ∧ FinC c0 c4 c5 c7 j u w := by
    rcases h with rfl | h
    · exact ⟨_, hW, fun j => .inl rfl⟩
    · exact h.at' _ hW
  obtain ⟨xs, hx, hj⟩ := h1
  have get : ∀ j, CellG base 32 11 g (FinC c0 c4 c5 c7) j undef w → ∃ u, xs[j]? = some u ∧ FinC c0 c4 c5 c7 j u w := fun j ⟨ys, hy, u, hu, hf⟩ => ⟨u, by rw [own_uniq hx hy]; exact hu, hf⟩
  obtain ⟨u0, e0, q0⟩ := get 0 f0
  obtain ⟨u4, e4, q4⟩ := get 4 f4
  obtain ⟨u5, e5, q5⟩ := get 5 f5
  obtain ⟨u7, e7, q7⟩ := get 7 f7
  have same : ∀ j, (∀ u, ¬ FinC c0 c4 c5 c7 j u w) → xs[j]? = [x0, a1, a2, a3, x4, x5, a6, x7, a8, a9, a10][j]? := fun j hn => by
    rcases hj j with h | ⟨u, _, h⟩
    · exact h
    · exact absurd h (hn u)
  have s1 := same 1 (fun u h => h)
  have s2 := same 2 (fun u h => h)
  have s3 := same 3 (fun u h => h)
  have s6 := same 6 (fun u h => h)
  have s8 := same 8 (fun u h => h)
  have s9 := same 9 (fun u h => h)
  have s10 := same 10 (fun u h => h)
  have hlen : xs.length = 11 := by have := hx.1; omega
  have q0 : u0 = c0 := q0
  have q4 : u4 = c4 := q4
  have q5 : u5 = c5 := q5
  have q7 : u7 = c7 := q7
  subst q0 q4 q5 q7
  have : xs = [u0, a1, a2, a3, u4, u5, a6, u7, a8, a9, a10] := by
    apply List.ext_getElem?
    intro i
    match i with
    | 0 => exact e0
    | 1 => exact s1
    | 2 => exact s2
    | 3 => exact s3
    | 4 => exact e4
    | 5 => exact e5
    | 6 => exact s6
    | 7 => exact e7
    | 8 => exact s8
    | 9 => exact s9
    | 10 => exact s10
    | i + 11 => rw [List.getElem?_eq_none (by omega), List.getElem?_eq_none (by simp)]
  rw [← this]
  exact hx
theorem cr_keep {base g : Nat} {c0 c4 c5 c7 : Value} : ∀ i u w w', Rg.Gat [(9, CellG base 32 11 g (FinC c0 c4 c5 c7) 0), (11, CellG base 32 11 g (FinC c0 c4 c5 c7) 4), (13, CellG base 32 11 g (FinC c0 c4 c5 c7) 5), (15, CellG base 32 11 g (FinC c0 c4 c5 c7) 7)] i u w → MvU base 32 11 g (FinC c0 c4 c5 c7) w w' →
    Rg.Gat [(9, CellG base 32 11 g (FinC c0 c4 c5 c7) 0), (11, CellG base 32 11 g (FinC c0 c4 c5 c7) 4), (13, CellG base 32 11 g (FinC c0 c4 c5 c7) 5), (15, CellG base 32 11 g (FinC c0 c4 c5 c7) 7)] i u w' := by
  intro i u w w' h hu
  have hF := finC_ok base g c0 c4 c5 c7
  iterate 4
    unfold Rg.Gat at h ⊢
    split at h
    · rename_i hk; rw [if_pos hk]
      exact CellG.keep (u' := u) hF h hu
    rename_i hk; rw [if_neg hk]
  trivial
theorem HM.lines {w0 wx : World} {o3 : Option Addr} {n c nb : Nat} {zs : List Az} {h : Hs} (H : HM w0 (.slice o3 n c) zs h nb wx) : LAt wx o3 (zs.map Az.ln) := by
  have hr := H.row
  obtain ⟨oa, c', e, hat, _⟩ := own_at zE hr
  cases e
  refine ⟨?_, fun x hx => ?_⟩
  · rcases hat with h1 | ⟨b, off, e1, hb, hrow⟩
    · exact .inl (by rw [h1]; rfl)
    · refine .inr ⟨b, off, e1, hb, fun k hk j u hu => ?_⟩
      have hk' : k < zs.length := by simpa using hk
      refine hrow k hk' j u ?_
      rw [List.getElem_map] at hu
      exact hu
  · obtain ⟨z, hz, rfl⟩ := List.mem_map.1 hx
    exact ⟨(H.ok z hz).1.1, (H.ok z hz).2.1, .inl rfl, .inl rfl⟩
end Go.Proofs.Ytmanokhadppeeaa

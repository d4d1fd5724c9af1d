/- row: rows of rows: a slice of one's own whose elements are slices of values; exchanges. -/
import Derived.Test.YtacbhkmkknicoaaDoorC2
import Derived.Test.YtacbhkmkknicoaaDoorT1
namespace Go.Proofs.YtacbhkmkknicoaaDoor
open Go.RowKit
set_option linter.unusedSimpArgs false
set_option linter.unusedVariables false
/-- a row as it lies in a list of rows -/
structure Rw where
  oa : Option Addr
  l : List V
  c : Nat
instance : Inhabited Rw := ⟨⟨none, [], 0⟩⟩
def gx (d : List Rw) (i : Nat) : Rw := d[i]!
theorem gx_of (d : List Rw) (i : Nat) (h : i < d.length) : gx d i = d[i] := getElem!_pos d i h
def rwV (r : Rw) : Value := .slice r.oa r.l.length r.c
def rF (r : Rw) : List Value := [rwV r]
theorem rE : Enc rF 1 := ⟨fun _ => rfl, fun x u hu => by simp [rF, rwV] at hu; subst hu; rfl, by omega⟩
/-- a row of values stands, and not in block g -/
def RwOk (g : Nat) (w : World) (r : Rw) : Prop := VAt w r.oa r.l ∧ r.l.length ≤ 9223372036854775807 ∧ r.l.length ≤ r.c ∧ (r.l = [] ∨ ∀ b off, r.oa = some ⟨b, off, none⟩ → b ≠ g)
/-- a list of rows of one's own -/
structure SD (base g cap : Nat) (w : World) (d : List Rw) : Prop where
  own : w.ownsRow base 35 1 (.slice (some ⟨g, 0, none⟩) d.length cap) d.length (cellsF rF d)
  ok : ∀ r ∈ d, RwOk g w r
theorem RwOk.go {g : Nat} {w w' : World} {r : Rw} (h : RwOk g w r) (hg : Go1 g w w') : RwOk g w' r := by
  obtain ⟨h1, h2, h3, h4⟩ := h
  refine ⟨?_, h2, h3, h4⟩
  rcases h4 with h0 | h4
  · exact .inl h0
  · exact vat_go h1 hg h4
theorem RwOk.gr {g : Nat} {w w' : World} {r : Rw} (h : RwOk g w r) (hg : Gr w w') : RwOk g w' r := h.go (Go1.of hg)
theorem SD.gr {base g cap : Nat} {w w' : World} {d : List Rw} (h : SD base g cap w d) (hg : Gr w w') : SD base g cap w' d := ⟨own_keep h.own hg, fun r hr => (h.ok r hr).gr hg⟩
theorem SD.lt {base g cap : Nat} {w : World} {d : List Rw} (h : SD base g cap w d) : base ≤ g ∧ g < w.heap.size := World.ownsRow.lt h.own g rfl
theorem SD.cell {base g cap : Nat} {w : World} {d : List Rw} (h : SD base g cap w d) (i : Nat) (hi : i < d.length) : w.cell? ⟨g, i, none⟩ = some (rwV (gx d i)) := by
  have := h.own.cells (g := g) rfl i (rwV (gx d i)) (by
    have h2 := rE.cells_get d i hi 0 (by omega)
    simp only [Nat.mul_one, Nat.add_zero] at h2
    rw [h2, gx_of d i hi]; rfl)
  rw [addN, Nat.zero_add] at this
  exact this
/-- what is exchanged -/
def swp (d : List Rw) (i j : Nat) : List Rw := (d.set i (gx d j)).set j (gx d i)
theorem swp_len (d : List Rw) (i j : Nat) : (swp d i j).length = d.length := by simp [swp]
theorem SD.set {base g cap : Nat} {w : World} {d : List Rw} (h : SD base g cap w d) (i : Nat) (hi : i < d.length) (x : Rw) (hx : x ∈ d) : SD base g cap (w.setCell ⟨g, i, none⟩ (rwV x)) (d.set i x) := by
  have hG := Go1.set g i w (rwV x)
  refine ⟨?_, fun r hr => ?_⟩
  · have := (own_store rE h.own i hi x 0 (by omega) (rwV x) rfl).1
    simp only [Nat.mul_one, Nat.add_zero] at this
    rw [List.length_set] at this ⊢
    exact this
  · rcases List.mem_or_eq_of_mem_set hr with h1 | h1
    · exact (h.ok r h1).go hG
    · rw [h1]; exact (h.ok x hx).go hG
theorem get_mem! (d : List Rw) (i : Nat) (hi : i < d.length) : (gx d i) ∈ d := by
  rw [gx_of d i hi]; exact List.getElem_mem hi
theorem SD.swap {base g cap : Nat} {w : World} {d : List Rw} (h : SD base g cap w d) (i j : Nat) (hi : i < d.length) (hj : j < d.length) :
    SD base g cap ((w.setCell ⟨g, i, none⟩ (rwV (gx d j))).setCell ⟨g, j, none⟩ (rwV (gx d i))) (swp d i j) ∧ Go1 g w ((w.setCell ⟨g, i, none⟩ (rwV (gx d j))).setCell ⟨g, j, none⟩ (rwV (gx d i))) := by
  have h1 := h.set i hi (gx d j) (get_mem! d j hj)
  refine ⟨?_, (Go1.set g i w _).trans (Go1.set g j _ _)⟩
  have hx : RwOk g w (gx d i) := h.ok _ (get_mem! d i hi)
  have hj' : j < (d.set i (gx d j)).length := by simpa using hj
  refine ⟨?_, fun r hr => ?_⟩
  · have := (own_store rE h1.own j hj' (gx d i) 0 (by omega) (rwV (gx d i)) rfl).1
    simp only [Nat.mul_one, Nat.add_zero] at this
    have e : (swp d i j).length = d.length := swp_len d i j
    rw [List.length_set] at this
    rw [e]
    have e2 : ((d.set i (gx d j)).set j (gx d i)).length = d.length := by simp
    rw [e2] at this
    exact this
  · rcases List.mem_or_eq_of_mem_set hr with h2 | h2
    · exact (h1.ok r h2).go (Go1.set g j _ _)
    · rw [h2]; exact (hx.go (Go1.set g i w _)).go (Go1.set g j _ _)
theorem SD.frozen {base g cap : Nat} {w : World} {d : List Rw} (h : SD base g cap w d) (i : Nat) (hi : i < d.length) : w.frozen? ⟨g, i, none⟩ = false := by
  rcases h.own.2 with ⟨e, _⟩ | ⟨g', cap', cur, e, _, hh, _⟩
  · cases e
  · cases e
    exact Rg.blk_free hh _
/-- one row is before another -/
def ltR (x y : Rw) : Bool := decide (cmpR x.l y.l < 0)
/-- insertion: what stands at a + n is moved down -/
def insJ (a : Nat) : Nat → List Rw → List Rw
  | 0, d => d
  | n + 1, d => if ltR (gx d (a + n + 1)) (gx d (a + n)) = true then insJ a n (swp d (a + n + 1) (a + n)) else d
def insI (a : Nat) : Nat → List Rw → List Rw
  | 0, d => d
  | n + 1, d => insJ a (n + 1) (insI a n d)
theorem insJ_len (a : Nat) : ∀ (n : Nat) (d : List Rw), (insJ a n d).length = d.length
  | 0, d => rfl
  | n + 1, d => by
    unfold insJ
    split
    · rw [insJ_len a n, swp_len]
    · rfl
theorem insI_len (a : Nat) : ∀ (n : Nat) (d : List Rw), (insI a n d).length = d.length
  | 0, d => rfl
  | n + 1, d => by unfold insI; rw [insJ_len, insI_len a n]
/-- an exchange: before it, and behind its first store -/
def Sw1 (base g cap : Nat) (w : World) (d : List Rw) (i j : Nat) (s : Nat) (W : World) : Prop := if s = 0 then SD base g cap W d ∧ Go1 g w W else ∃ W0, SD base g cap W0 d ∧ Go1 g w W0 ∧ W = W0.setCell ⟨g, i, none⟩ (rwV (gx d j))
section
variable {base g cap i j : Nat} {w W W' : World} {d : List Rw}
theorem sw_gr (h : Sw1 base g cap w d i j 0 W) (hg : Gr W W') : Sw1 base g cap w d i j 0 W' := by
  unfold Sw1 at h ⊢
  rw [if_pos rfl] at h ⊢
  exact ⟨h.1.gr hg, h.2.trans (Go1.of hg)⟩
theorem sw_c (h : Sw1 base g cap w d i j 0 W) (k : Nat) (hk : k < d.length) : W.cell? ⟨g, k, none⟩ = some (rwV (gx d k)) ∧ W.frozen? ⟨g, k, none⟩ = false ∧ g < W.heap.size := by
  unfold Sw1 at h
  rw [if_pos rfl] at h
  exact ⟨h.1.cell k hk, h.1.frozen k hk, h.1.lt.2⟩
theorem sw_step (h : Sw1 base g cap w d i j 0 W) : Sw1 base g cap w d i j 1 (W.setCell ⟨g, i, none⟩ (rwV (gx d j))) := by
  unfold Sw1 at h ⊢
  rw [if_pos rfl] at h
  rw [if_neg (by omega)]
  exact ⟨W, h.1, h.2, rfl⟩
theorem sw_1 (h : Sw1 base g cap w d i j 1 W) (hi : i < d.length) (hj : j < d.length) : (∃ u, W.cell? ⟨g, j, none⟩ = some u) ∧ W.frozen? ⟨g, j, none⟩ = false ∧ g < W.heap.size := by
  unfold Sw1 at h
  rw [if_neg (by omega)] at h
  obtain ⟨W0, h1, h2, rfl⟩ := h
  have h3 := h1.set i hi (gx d j) (get_mem! d j hj)
  have hj' : j < (d.set i (gx d j)).length := by simpa using hj
  exact ⟨⟨_, h3.cell j hj'⟩, h3.frozen j hj', h3.lt.2⟩
theorem sw_fin (h : Sw1 base g cap w d i j 1 W) (hi : i < d.length) (hj : j < d.length) : SD base g cap (W.setCell ⟨g, j, none⟩ (rwV (gx d i))) (swp d i j) ∧ Go1 g w (W.setCell ⟨g, j, none⟩ (rwV (gx d i))) := by
  unfold Sw1 at h
  rw [if_neg (by omega)] at h
  obtain ⟨W0, h1, h2, rfl⟩ := h
  obtain ⟨h3, h4⟩ := h1.swap i j hi hj
  exact ⟨h3, h2.trans h4⟩
end
end Go.Proofs.YtacbhkmkknicoaaDoor

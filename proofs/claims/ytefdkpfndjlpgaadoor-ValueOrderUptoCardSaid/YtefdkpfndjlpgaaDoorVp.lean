/- ValueOrder: what the law's walk meets. -/
import Derived.Test.YtefdkpfndjlpgaaDoorEn
import Derived.Test.YtefdkpfndjlpgaaDoorLx
import Derived.Deep.DeepCutAuto
import Derived.Laws.BytesString
namespace Go.Proofs.YtefdkpfndjlpgaaDoor
open Go.RowKit
set_option linter.unusedSimpArgs false
set_option linter.unusedVariables false
attribute [local go_sem] Rg.once_normal Rg.once_exit Rg.once_ret Rg.once_panic Rg.once_goto Rg.leads_value Rg.leads_skip Rg.leads_enter Rg.brings_value Rg.brings_skip Rg.brings_enter
theorem vrow_list (W : World) (l : List V) (T : TypeId) : VRow (W.alloc (.cells (lCells l).toArray T)) W.heap.size l := fun k i u hk hu => by
  rw [cell_of_row _ _ _ _ _ _ (heap_alloc_new W _), List.getElem?_toArray]
  exact lCells_get l k i u hk hu
/-- two values of one type, and their bytes -/
structure PairOK (x y : V) : Prop where
  t : x.t = y.t
  nz : x.t = 1 ∨ x.t = 2 ∨ x.t = 3
  enc : ∃ lx ly, (∀ W, Calls Tryd.prog 32 #[x.val] W (EncPost W lx)) ∧ (∀ W, Calls Tryd.prog 32 #[y.val] W (EncPost W ly)) ∧ Op.bytesLess lx ly = decide (cmpV x y < 0)
theorem cmpInt_neg (x y : Int) : decide (Lib.compareInt x y < 0) = decide (x < y) := by
  unfold Lib.compareInt
  apply decide_eq_decide.2
  split
  · simp [*]
  · split <;> simp [*] <;> omega
theorem cmpBytes_neg (l m : List UInt8) : decide (Lib.compareBytes l m < 0) = Op.bytesLess l m := by
  rw [← cmpR_bytes]
  unfold cmpR
  by_cases h : l = m
  · subst h
    have : Op.bytesLess l l = false := by
      induction l with
      | nil => rfl
      | cons c r ih => simp [Op.bytesLess, ih]
    simp [this]
  · have h2 : (l == m) = false := by simpa using h
    rw [h2]
    cases Op.bytesLess l m <;> simp
theorem pair_int (a b : Int) (ha : Vl.fitsB a = true) (hb : Vl.fitsB b = true) : PairOK (numV a) (numV b) :=
  ⟨rfl, .inl rfl, Eo.encI a, Eo.encI b, fun W => enc_int a _ _ W ha, fun W => enc_int b _ _ W hb, by rw [Eo.encI_less a b ha hb]; exact (cmpInt_neg a b).symm⟩
theorem pair_text (s t : ByteArray) (hs : s.size ≤ 1048576) (ht : t.size ≤ 1048576) : PairOK (textV s) (textV t) :=
  ⟨rfl, .inr (.inl rfl), Eo.encT s.data.toList, Eo.encT t.data.toList, fun W => enc_text _ s _ W hs, fun W => enc_text _ t _ W ht, by rw [Eo.encT_less]; exact (cmpBytes_neg _ _).symm⟩
theorem pair_bool (p q : Bool) : PairOK (boolV p) (boolV q) :=
  ⟨rfl, .inr (.inr rfl), Eo.encB p, Eo.encB q, fun W => enc_bool _ _ p W, fun W => enc_bool _ _ q W, by rw [Eo.encB_less]; cases p <;> cases q <;> decide⟩
theorem less_pair (op : Int) (x y : V) (h1 : 9 ≤ op) (h2 : op ≤ 14) (ht : x.t = y.t) (hz : x.t ≠ 0) (W : World) : Calls Tryd.prog 27 #[.int .i64 op, x.val, y.val] W fun e w' => e = .returned (.tuple #[.agg #[.int .i64 3, .int .i64 0, .string ⟨#[]⟩, .bool (opB op (cmpV x y))], .int .i64 0]) ∧ Gr W w' := by
  have h := less_any op x y W
  have e : lessR op x y = (boolV (opB op (cmpV x y)), 0) := by
    unfold lessR
    have z1 : (x.t == 0) = false := by simpa using hz
    have z2 : (y.t == 0) = false := by rw [← ht]; exact z1
    have z3 : (x.t != y.t) = false := by simp [ht]
    rw [decide_eq_false (by omega), decide_eq_false (by omega), z1, z2, z3]
    rfl
  rw [e] at h
  exact h
theorem less_nul (op : Int) (x : V) (h1 : 9 ≤ op) (h2 : op ≤ 14) (hz : x.t ≠ 0) (W : World) : Calls Tryd.prog 27 #[.int .i64 op, x.val, .agg #[.int .i64 0, .int .i64 0, .string ⟨#[]⟩, .bool false]] W fun e w' => e = .returned (.tuple #[.agg #[.int .i64 0, .int .i64 0, .string ⟨#[]⟩, .bool false], .int .i64 0]) ∧ Gr W w' := by
  have h := less_any op x nul W
  have e : lessR op x nul = (nul, 0) := by
    unfold lessR
    have z1 : (x.t == 0) = false := by simpa using hz
    rw [decide_eq_false (by omega), decide_eq_false (by omega), z1]
    rfl
  rw [e] at h
  exact h
theorem less_wrong (x z : V) (hx : x.t ≠ 0) (hz : z.t ≠ 0) (ht : z.t ≠ x.t) (W : World) : Calls Tryd.prog 27 #[.int .i64 9, x.val, z.val] W fun e w' => e = .returned (.tuple #[.agg #[.int .i64 0, .int .i64 0, .string ⟨#[]⟩, .bool false], .int .i64 160]) ∧ Gr W w' := by
  have h := less_any 9 x z W
  have e : lessR 9 x z = (nul, 160) := by
    unfold lessR
    have z1 : (x.t == 0) = false := by simpa using hx
    have z2 : (z.t == 0) = false := by simpa using hz
    have z3 : (x.t != z.t) = true := by simpa using fun e => ht e.symm
    rw [z1, z2, z3]
    rfl
  rw [e] at h
  exact h
/-- how many of equal, less, greater have been true ahead of a sign -/
def cnt (c o : Int) : Int := (if 9 < o ∧ c = 0 then 1 else 0) + (if 11 < o ∧ c < 0 then 1 else 0) + (if 13 < o ∧ 0 < c then 1 else 0)
/-- the values of round k, where they lie -/
theorem triple {W : World} {G : Nat} {a b : Int} {s t : ByteArray} {pa pb : Bool} (hp : PairOK (numV a) (numV b) ∧ PairOK (textV s) (textV t) ∧ PairOK (boolV pa) (boolV pb))
    (hrow : VRow W G [numV a, numV b, textV s, textV t, boolV pa, boolV pb]) (k : Nat) (hk : k < 3) :
    ∃ x y z : V, PairOK x y ∧ (z.t ≠ 0 ∧ z.t ≠ x.t) ∧ (∀ i u, x.cells[i]? = some u → W.cell? ⟨G, k * 8 + i, none⟩ = some u) ∧ (∀ i u, y.cells[i]? = some u → W.cell? ⟨G, k * 8 + 4 + i, none⟩ = some u) ∧ (∀ i u, z.cells[i]? = some u → W.cell? ⟨G, (k + 1) % 3 * 8 + i, none⟩ = some u) := by
  match k, hk with
  | 0, _ => exact ⟨numV a, numV b, textV s, hp.1, ⟨by simp [textV], by simp [numV, textV]⟩, fun i u h => hrow 0 i u (by simp) h, fun i u h => hrow 1 i u (by simp) h, fun i u h => hrow 2 i u (by simp) h⟩
  | 1, _ => exact ⟨textV s, textV t, boolV pa, hp.2.1, ⟨by simp [boolV], by simp [boolV, textV]⟩, fun i u h => hrow 2 i u (by simp) h, fun i u h => hrow 3 i u (by simp) h, fun i u h => hrow 4 i u (by simp) h⟩
  | 2, _ => exact ⟨boolV pa, boolV pb, numV a, hp.2.2, ⟨by simp [numV], by simp [boolV, numV]⟩, fun i u h => hrow 4 i u (by simp) h, fun i u h => hrow 5 i u (by simp) h, fun i u h => by have := hrow 0 i u (by simp) h; simpa using this⟩
theorem fold_push (l : List UInt8) : ∀ r : ByteArray, (l.map fun c => ((c.toNat : Nat) : Int)).foldl (fun r n => r.push (UInt8.ofNat n.toNat)) r = ⟨r.data ++ l.toArray⟩ := by
  induction l with
  | nil => intro r; apply ByteArray.ext; simp
  | cons c t ih =>
    intro r
    simp only [List.map_cons, List.foldl_cons]
    rw [ih]
    apply ByteArray.ext
    simp [ByteArray.push]
theorem bytes_string (w : World) (g cap : Nat) (l : List UInt8) (h : BytesAt w g l) : (convert 51 9 (.slice (some ⟨g, 0, none⟩) l.length cap)).run Tryd.prog w = .ok (.string ⟨l.toArray⟩) w := by
  rw [run_convert_bytes_string _ 51 9 5 _ _ _ Tryd.underlying51 Tryd.underlying5 Tryd.underlying9]
  rw [run_bytesToString _ _ l.length cap (l.map fun c => ((c.toNat : Nat) : Int))]
  · rw [fold_push]
    simp
  · have hl : ∀ j, j < l.length → w.cell? ((⟨g, 0, none⟩ : Addr).add j) = some (.int .u8 ((l.map fun c => ((c.toNat : Nat) : Int)).getD j 0)) := by
      intro j hj
      have hadd : (⟨g, 0, none⟩ : Addr).add j = ⟨g, j, none⟩ := by unfold Addr.add; split <;> simp_all
      rw [hadd, h j hj]
      simp [List.getD, hj]
    rw [run_loadCells w _ l.length _ hl]
    congr 2
    apply List.ext_getElem
    · simp
    · intro i h1 h2
      simp at h1
      simp [List.getD, h1]
/-- an owned slice of bytes -/
def EncG (l : List UInt8) (u : Value) (w : World) : Prop := ∃ g cap, u = .slice (some ⟨g, 0, none⟩) l.length cap ∧ BytesAt w g l
theorem enc_keep (a b : List UInt8) (k : Nat) (u : Value) (w w' : World) (h : Rg.Gat [(20, EncG a), (23, EncG b)] k u w) (hu : Gr w w') : Rg.Gat [(20, EncG a), (23, EncG b)] k u w' := by
  simp only [Rg.Gat] at *
  split
  · rename_i h7
    rw [if_pos h7] at h
    obtain ⟨g, c, e, hr⟩ := h
    exact ⟨g, c, e, hr.keep hu⟩
  · rename_i h7
    rw [if_neg h7] at h
    split
    · rename_i h12
      rw [if_pos h12] at h
      obtain ⟨g, c, e, hr⟩ := h
      exact ⟨g, c, e, hr.keep hu⟩
    · trivial
theorem cnt_next (c o : Int) (h1 : 9 ≤ o) (h2 : o ≤ 14) : cnt c (o + 1) = cnt c o + (if (o = 9 ∨ o = 11 ∨ o = 13) ∧ opB o c = true then 1 else 0) := by
  have : o = 9 ∨ o = 10 ∨ o = 11 ∨ o = 12 ∨ o = 13 ∨ o = 14 := by omega
  rcases this with rfl | rfl | rfl | rfl | rfl | rfl
  all_goals
    simp [cnt, opB]
  all_goals (repeat' split) <;> omega
theorem cnt_all (c : Int) : cnt c 15 = 1 := by
  unfold cnt
  repeat' split
  all_goals omega
end Go.Proofs.YtefdkpfndjlpgaaDoor

/- Texts of this claim, put together: walks of functions and plain laws, of no condition. -/
import Derived.Test.YtbeinfhgfflneaaGreatRows
import Derived.WalkKit
import Derived.WalkLawsBesides
import Derived.WalkSpells
import Derived.Handy
import Derived.Below
import Derived.Shelf.Strings.Builder1
import Derived.Shelf.Small.Strs
import Derived.Shelf.Small.Wraps
import Derived.Shelf.Strings.BuilderF
import Derived.Shelf.Strings.BuilderK
import Derived.Shelf.Strings.Search1
import Derived.Shelf.Strings.Search2
import Derived.Shelf.Strings.Search3
import Derived.Shelf.LaysM
import Derived.Shelf.Strings.Shaped
import Derived.Shelf.Strings.Prefix
import Derived.Shelf.Bits.Mul64
import Derived.Shelf.Slices.Turned
import Derived.Test.YtbeinfhgfflneaaGreatProg
import Derived.Lib.Builder
import Derived.Laws.Externs
import Derived.Lib.IndexBytes
import Derived.Scope
import Derived.Deep.DeepCutAuto
import Derived.Lib.IndexMore
import Derived.Lib.IndexAny
import Derived.Shelf.Spec.BitsCarry
import Derived.StillTail
import Derived.ScopeJumps
import Derived.WalkMore
section
namespace Go.Proofs.YtbeinfhgfflneaaGreat
open Go.RowKit
theorem hid {p : Prop} (h : p) : Hid p := h
theorem ret_bool {a b : Bool} (h : a = b) : Ending.returned (.bool a) = .returned (.bool b) := by rw [h]
def Gr (w w' : World) : Prop := Below w.heap.size w w'
theorem Gr.refl (w : World) : Gr w w := Below.refl _ _
theorem Gr.size {w w' : World} (h : Gr w w') : w.heap.size ≤ w'.heap.size := Below.size h
theorem Gr.trans {a b c : World} (h : Gr a b) (k : Gr b c) : Gr a c := Below.trans h (Below.mono k h.size)
theorem Gr.alloc {a w : World} (h : Gr a w) (o : Obj) : Gr a (w.alloc o) := Below.alloc h h.size o
theorem Gr.drew {a w : World} (h : Gr a w) : Gr a w.drew := Below.drew h
theorem Gr.drewN {a w : World} (h : Gr a w) (n : Nat) : Gr a (w.drewN n) := ⟨h.os, h.tape, h.output, h.size, h.block⟩
theorem Gr.setCell {a w : World} (h : Gr a w) {p : Addr} (hp : a.heap.size ≤ p.block) (u : Value) : Gr a (w.setCell p u) := Below.setCell h hp u
theorem lt_of_cell {w : World} {g k : Nat} {v : Value} (h : w.cell? ⟨g, k, none⟩ = some v) : g < w.heap.size := World.block_lt_of_cell? _ _ h
theorem Gr.keep {w w' : World} {g k : Nat} {v : Value} (h : Gr w w') (hc : w.cell? ⟨g, k, none⟩ = some v) : w'.cell? ⟨g, k, none⟩ = some v := by
  rw [Below.cell (p := ⟨g, k, none⟩) h (lt_of_cell hc)]; exact hc
structure V where
  t : Int
  n : Int
  s : ByteArray
  b : Bool
def V.cells (v : V) : Array Value := #[.int .i64 v.t, .int .i64 v.n, .string v.s, .bool v.b]
def V.val (v : V) : Value := .agg #[.int .i64 v.t, .int .i64 v.n, .string v.s, .bool v.b]
def nul : V := ⟨0, 0, ⟨#[]⟩, false⟩
def numV (n : Int) : V := ⟨1, n, ⟨#[]⟩, false⟩
def textV (s : ByteArray) : V := ⟨2, 0, s, false⟩
def boolV (b : Bool) : V := ⟨3, 0, ⟨#[]⟩, b⟩
def pairR (r : V × Int) : Ending := .returned (.tuple #[.agg #[.int .i64 r.1.t, .int .i64 r.1.n, .string r.1.s, .bool r.1.b], .int .i64 r.2])
def VRow (w : World) (g : Nat) (l : List V) : Prop := ∀ (k i : Nat) (u : Value) (h : k < l.length), l[k].cells[i]? = some u → w.cell? ⟨g, k * 4 + i, none⟩ = some u
theorem VRow.keep {w w' : World} {g : Nat} {l : List V} (h : VRow w g l) (hg : Gr w w') : VRow w' g l := fun k i u hk hu => hg.keep (h k i u hk hu)
theorem v_struct : Tryz.prog.underlying 23 = some (.struct (Tryz.prog.fieldsOf 23)) := by kernel_rfl
theorem v_plain : Tryz.prog.stoodInHeld 23 = false := by kernel_rfl
theorem v_guard : Tryz.prog.eqGuardType Tryz.prog.depth 23 = false := by kernel_rfl
theorem Gr.cells {w w' : World} (h : Gr w w') : ∀ b i, b < w.heap.size → w'.cell? ⟨b, i, none⟩ = w.cell? ⟨b, i, none⟩ := fun b i hb => Below.cell (p := ⟨b, i, none⟩) h hb
theorem Gr.frees {w w' : World} (h : Gr w w') : ∀ b i, b < w.heap.size → w'.frozen? ⟨b, i, none⟩ = w.frozen? ⟨b, i, none⟩ := fun b i hb => Below.frozen (p := ⟨b, i, none⟩) h hb
theorem Gr.set4 {a w : World} {g : Nat} (h : Gr a w) (hg : a.heap.size ≤ g) (x0 x1 x2 x3 : Value) : Gr a ((((w.setCell ⟨g, 0, none⟩ x0).setCell ⟨g, 1, none⟩ x1).setCell ⟨g, 2, none⟩ x2).setCell ⟨g, 3, none⟩ x3) :=
  (((h.setCell hg x0).setCell hg x1).setCell hg x2).setCell hg x3
theorem Gr.own {w w' : World} {o : Obj} (h : Gr (w.alloc o) w') : Gr w w' := ((Gr.refl _).alloc _).trans h
theorem uwrap (n : Int) : IntKind.u64.wrap n = n % 18446744073709551616 := by
  rw [IntKind.wrap_u64]
end Go.Proofs.YtbeinfhgfflneaaGreat
end
section
namespace Go.Proofs.YtbeinfhgfflneaaGreat
namespace Lx
abbrev Bytes := List UInt8
def letterB (c : UInt8) : Bool := (decide (65 ≤ c.toNat) && decide (c.toNat ≤ 90)) || (decide (97 ≤ c.toNat) && decide (c.toNat ≤ 122)) || c.toNat == 95
def digitB (c : UInt8) : Bool := decide (48 ≤ c.toNat) && decide (c.toNat ≤ 57)
def innerB (c : UInt8) : Bool := letterB c || digitB c
def whiteB (c : UInt8) : Bool := c.toNat == 32 || c.toNat == 9 || c.toNat == 10 || c.toNat == 13
def upperB (c : UInt8) : Bool := decide (65 ≤ c.toNat) && decide (c.toNat ≤ 90)
def low (c : UInt8) : UInt8 := if upperB c then c + 32 else c
def noLine (c : UInt8) : Bool := !(c.toNat == 10)
def runL (p : UInt8 → Bool) : Bytes → Nat
  | [] => 0
  | c :: r => if p c then runL p r + 1 else 0
def dig (n : Nat) (c : UInt8) : Nat := 10 * n + (c.toNat - 48)
def valOf (n : Nat) (l : Bytes) : Nat := l.foldl dig n
def quoteL : Bytes → Option (Bytes × Nat)
  | [] => none
  | c :: r =>
    if c.toNat = 39 then
      match r with
      | [] => some ([], 1)
      | d :: r' => if d.toNat = 39 then (quoteL r').map fun x => (39 :: x.1, x.2 + 2) else some ([], 1)
    else (quoteL r).map fun x => (c :: x.1, x.2 + 1)
def twoSign (c d : UInt8) : Bool :=
  (c.toNat == 60 && d.toNat == 62) || (c.toNat == 60 && d.toNat == 61) || (c.toNat == 62 && d.toNat == 61) || (c.toNat == 124 && d.toNat == 124)
def oneSign (c : UInt8) : Bool := ([40, 41, 44, 46, 42, 43, 45, 47, 37, 61, 60, 62, 59] : List Nat).contains c.toNat
structure Tk where
  kind : Nat
  text : Bytes
  num : Nat
  deriving DecidableEq
def signL : Bytes → Option (Tk × Nat)
  | [] => none
  | c :: r =>
    match r with
    | d :: _ => if twoSign c d then some (⟨4, [c, d], 0⟩, 2) else if oneSign c then some (⟨4, [c], 0⟩, 1) else none
    | [] => if oneSign c then some (⟨4, [c], 0⟩, 1) else none
def wordL (r : Bytes) : Option (Tk × Nat) :=
  let n := runL innerB r
  if n ≤ 32 then some (⟨1, (r.take n).map low, 0⟩, n) else none
def startsLetter : Bytes → Bool
  | [] => false
  | c :: _ => letterB c
def numberL (r : Bytes) : Option (Tk × Nat) :=
  let n := runL digitB r
  if n ≤ 19 ∧ startsLetter (r.drop n) = false ∧ valOf 0 (r.take n) < 9223372036854775808 then some (⟨2, [], valOf 0 (r.take n)⟩, n) else none
def textL (r : Bytes) : Option (Tk × Nat) := (quoteL r).map fun x => (⟨3, x.1, 0⟩, x.2 + 1)
def oneTok : Bytes → Option (Tk × Nat)
  | [] => none
  | c :: r =>
    if letterB c then wordL (c :: r)
    else if digitB c then numberL (c :: r)
    else if c.toNat = 39 then textL r
    else signL (c :: r)
def remarkB : Bytes → Bool
  | c :: d :: _ => c.toNat == 45 && d.toNat == 45
  | _ => false
def blank1 : Bytes → Nat
  | [] => 0
  | c :: r => if whiteB c then 1 else if remarkB (c :: r) then runL noLine (c :: r) else 0
structure Tok where
  tk : Tk
  pos : Nat
  deriving DecidableEq
inductive Res where
  | good (l : List Tok)
  | bad (pos : Nat)
def lexN : Nat → Bytes → Nat → List Tok → Res
  | 0, _, pos, _ => .bad pos
  | f + 1, s, pos, acc =>
    let r := s.drop pos
    if r = [] then .good (acc ++ [⟨⟨5, [], 0⟩, pos⟩])
    else if blank1 r ≠ 0 then lexN f s (pos + blank1 r) acc
    else match oneTok r with
      | none => .bad pos
      | some (t, n) => lexN f s (pos + n) (acc ++ [⟨t, pos⟩])
def lexAll (s : Bytes) : Res := lexN (s.length + 1) s 0 []
end Lx
theorem valOf_shift (l : List UInt8) : ∀ n, Lx.valOf n l = n * 10 ^ l.length + Lx.valOf 0 l := by
  induction l with
  | nil => intro n; simp [Lx.valOf]
  | cons c r ih =>
    intro n
    have e1 : Lx.valOf n (c :: r) = Lx.valOf (Lx.dig n c) r := rfl
    have e2 : Lx.valOf 0 (c :: r) = Lx.valOf (Lx.dig 0 c) r := rfl
    rw [e1, e2, ih, ih (Lx.dig 0 c), List.length_cons, Nat.pow_succ]
    unfold Lx.dig
    generalize 10 ^ r.length = p
    generalize c.toNat - 48 = d
    generalize Lx.valOf 0 r = v
    rw [Nat.mul_zero, Nat.zero_add, Nat.add_mul, Nat.mul_comm p 10, ← Nat.mul_assoc, Nat.mul_comm n 10, Nat.add_assoc]
theorem valOf_lt (l : List UInt8) (h : ∀ c ∈ l, Lx.digitB c = true) : Lx.valOf 0 l < 10 ^ l.length := by
  induction l with
  | nil => simp [Lx.valOf]
  | cons c r ih =>
    have e1 : Lx.valOf 0 (c :: r) = Lx.valOf (Lx.dig 0 c) r := rfl
    rw [e1]
    unfold Lx.dig
    have hc := h c (by simp)
    simp [Lx.digitB] at hc
    rw [valOf_shift, List.length_cons, Nat.pow_succ]
    have := ih (fun d hd => h d (by simp [hd]))
    have h9 : (10 * 0 + (c.toNat - 48)) * 10 ^ r.length ≤ 9 * 10 ^ r.length := Nat.mul_le_mul_right _ (by omega)
    generalize 10 ^ r.length = p at *
    omega
theorem valOf_snoc (l : List UInt8) (c : UInt8) : ∀ n, Lx.valOf n (l ++ [c]) = 10 * Lx.valOf n l + (c.toNat - 48) := by
  intro n
  unfold Lx.valOf
  rw [List.foldl_append]
  rfl
theorem runL_take (p : UInt8 → Bool) (l : List UInt8) : ∀ c ∈ l.take (Lx.runL p l), p c = true := by
  induction l with
  | nil => simp [Lx.runL]
  | cons c r ih =>
    simp only [Lx.runL]
    split
    · rename_i hc; intro d hd; simp at hd; rcases hd with rfl | hd
      · exact hc
      · exact ih d hd
    · simp
theorem runL_le (p : UInt8 → Bool) (l : List UInt8) : Lx.runL p l ≤ l.length := by
  induction l with
  | nil => simp [Lx.runL]
  | cons c r ih => simp only [Lx.runL]; split <;> simp <;> omega
theorem valOf_19 (l : List UInt8) (n k : Nat) (hn : n ≤ 19) (hk : k < n) (h : ∀ c ∈ l.take n, Lx.digitB c = true) : Lx.valOf 0 ((l.take n).take k) ≤ 999999999999999999 := by
  have h1 := valOf_lt ((l.take n).take k) (fun c hc => h c (List.mem_of_mem_take hc))
  have h2 : ((l.take n).take k).length ≤ 18 := by simp; omega
  have h3 : 10 ^ ((l.take n).take k).length ≤ 10 ^ 18 := Nat.pow_le_pow_right (by omega) h2
  have h4 : (10 : Nat) ^ 18 = 1000000000000000000 := by decide
  omega
end Go.Proofs.YtbeinfhgfflneaaGreat
end
section
namespace Go.Proofs.YtbeinfhgfflneaaGreat
open Go.RowKit
theorem ret_int {k : IntKind} {a b : Int} (h : a = b) : Ending.returned (.int k a) = .returned (.int k b) := by rw [h]
theorem u8map (W : World) (s : ByteArray) : (convert 9 110 (.string s)).run Tryz.prog W = .ok (.slice (some ⟨W.heap.size, 0, none⟩) s.size (grownCap W s.size 0 5))
      (W.drew.alloc (.cells (bytesRow s (grownCap W s.size 0 5)) 5 ((bytesRow s (grownCap W s.size 0 5)).size, (bytesRow s (grownCap W s.size 0 5)).size + 1))) :=
  run_bytes_of_string W 9 110 5 s Tryz.underlying9 Tryz.underlying110 Tryz.underlying5
structure BRow (w : World) (g : Nat) (l : List UInt8) : Prop where
  cell : ∀ i c, l[i]? = some c → w.cell? ⟨g, i, none⟩ = some (.int .u8 (c.toNat : Int))
  free : ∀ i, i < l.length → w.frozen? ⟨g, i, none⟩ = false
theorem heap_new (W : World) (o : Obj) : (W.alloc o).heap[W.heap.size]? = some o := by
  show (W.heap.push _)[W.heap.size]? = _
  simp
theorem lt_of_get {α : Type} {l : List α} {i : Nat} {c : α} (h : l[i]? = some c) : i < l.length := (List.getElem?_eq_some_iff.1 h).1
theorem BRow.made (W : World) (s : ByteArray) (cap : Nat) : BRow (W.alloc (.cells (bytesRow s cap) 5 ((bytesRow s cap).size, (bytesRow s cap).size + 1))) W.heap.size s.data.toList := by
  constructor
  · intro i c hc
    rw [World.cell?_alloc_mark]
    have hi : i < s.data.toList.length := lt_of_get hc
    have hi' : i < s.data.size := by simpa using hi
    rw [bytesRow, Array.getElem?_append_left (by simpa using hi')]
    rw [Array.getElem?_toList] at hc
    simp [hc]
  · intro i hi
    have hi' : i < s.size := by simpa using hi
    unfold World.frozen?
    rw [heap_new]
    have : s.size ≤ (bytesRow s cap).size := by
      rw [bytesRow, Array.size_append, Array.size_map, ByteArray.size_data]; omega
    simp
    omega
theorem BRow.drew {w : World} {g : Nat} {l : List UInt8} (h : BRow w g l) : BRow w.drew g l := ⟨h.cell, h.free⟩
theorem BRow.set {w : World} {g : Nat} {l : List UInt8} (h : BRow w g l) (i : Nat) (hi : i < l.length) (c : UInt8) : BRow (w.setCell ⟨g, i, none⟩ (.int .u8 (c.toNat : Int))) g (l.set i c) := by
  constructor
  · intro j d hj
    by_cases e : j = i
    · subst e
      rw [World.cell?_setCell_same _ _ _ (h.cell j _ (List.getElem?_eq_getElem hi))]
      rw [List.getElem?_set_self hi] at hj
      injection hj with hj; subst hj; rfl
    · rw [List.getElem?_set_ne (Ne.symm e)] at hj
      rw [World.cell?_setCell_other _ _ _ _ (by intro e'; injection e' with _ e2; exact e e2.symm), h.cell j _ hj]
  · intro j hj
    simp only [List.length_set] at hj
    rw [World.frozen?_setCell]; exact h.free j hj
theorem add0 (g j : Nat) : (⟨g, 0, none⟩ : Addr).add j = ⟨g, j, none⟩ := by
  unfold Addr.add; split
  · subst_vars; rfl
  · simp
theorem BRow.back {w : World} {g : Nat} {l : List UInt8} (h : BRow w g l) (cap : Nat) :
    (convert 110 9 (.slice (some ⟨g, 0, none⟩) l.length cap)).run Tryz.prog w = .ok (.string ⟨l.toArray⟩) w :=
  run_convert_bytes_back w 110 9 5 ⟨g, 0, none⟩ cap l Tryz.underlying110 Tryz.underlying5 Tryz.underlying9 (fun j hj => by
    rw [add0]; exact h.cell j _ (List.getElem?_eq_getElem hj))
end Go.Proofs.YtbeinfhgfflneaaGreat
end
section
namespace Go.Proofs.YtbeinfhgfflneaaGreat
open Go.RowKit
theorem letter_any (c : UInt8) (w : World) :
    Calls Tryz.prog 56 #[.int .u8 (c.toNat : Int)] w fun e w' => e = .returned (.bool (Lx.letterB c)) ∧ w = w' := by
  go_enter Tryz.func56, Tryz.ntmps56
  go_wp2
  all_goals
    go_ret
    refine ⟨ret_bool ?_, rfl⟩
    rw [Bool.eq_iff_iff]
    simp [Lx.letterB]
    omega
theorem digit_any (c : UInt8) (w : World) :
    Calls Tryz.prog 60 #[.int .u8 (c.toNat : Int)] w fun e w' => e = .returned (.bool (Lx.digitB c)) ∧ w = w' := by
  go_enter Tryz.func60, Tryz.ntmps60
  go_wp2
  all_goals
    go_ret
    refine ⟨ret_bool ?_, rfl⟩
    rw [Bool.eq_iff_iff]
    simp [Lx.digitB]
    omega
theorem inner_any (c : UInt8) (w : World) :
    Calls Tryz.prog 58 #[.int .u8 (c.toNat : Int)] w fun e w' => e = .returned (.bool (Lx.innerB c)) ∧ w = w' := by
  go_enter Tryz.func58, Tryz.ntmps58
  go_wp2_with (first
    | (go_at_call 56; refine (letter_any c _).mono ?_; rintro e w' ⟨rfl, rfl⟩)
    | (go_at_call 60; refine (digit_any c _).mono ?_; rintro e w' ⟨rfl, rfl⟩))
  all_goals
    go_ret
    refine ⟨ret_bool ?_, rfl⟩
    rw [Bool.eq_iff_iff]
    simp_all [Lx.innerB]
theorem noLine_any (c : UInt8) (w : World) :
    Calls Tryz.prog 64 #[.int .u8 (c.toNat : Int)] w fun e w' => e = .returned (.bool (Lx.noLine c)) ∧ w = w' := by
  go_enter Tryz.func64, Tryz.ntmps64
  go_wp2
  all_goals
    go_ret
    refine ⟨ret_bool ?_, rfl⟩
    rw [Bool.eq_iff_iff]
    simp [Lx.noLine]
    omega
theorem runL_at (p : UInt8 → Bool) (s : ByteArray) (k : Nat) (h : k < s.size) :
    Lx.runL p (s.data.toList.drop k) = if p s[k] then Lx.runL p (s.data.toList.drop (k + 1)) + 1 else 0 := by
  have hl : k < s.data.toList.length := by simpa using h
  rw [List.drop_eq_getElem_cons hl]
  simp only [Lx.runL]
  rfl
set_option maxHeartbeats 400000 in
theorem run_digit (s : ByteArray) (w : World) (hs : s.size ≤ maxLen) :
    Calls Tryz.prog 57 #[.string s, .func (.func 60) #[] #[]] w fun e w' => e = .returned (.int .i64 (Lx.runL Lx.digitB s.data.toList)) ∧ w = w' := by
  unfold maxLen at hs
  go_enter Tryz.func57, Tryz.ntmps57
  go_wp2
  go_loop [5] (fun n => ∃ k : Nat, k ≤ s.size ∧ n = .int .i64 k ∧ Hid (Lx.runL Lx.digitB s.data.toList = k + Lx.runL Lx.digitB (s.data.toList.drop k))) (fun n => s.size - (intOf n).toNat)
  case atStart => exact ⟨0, Nat.zero_le _, rfl, by simp [Hid]⟩
  case round =>
    obtain ⟨k, hk, rfl, H⟩ := hrel
    by_cases hlt : k < s.size
    · have h1 := runL_at Lx.digitB s k hlt
      have H1 := hid h1; clear h1
      go_wp2_with (first
        | (go_at_call 60; refine (digit_any _ _).mono ?_; rintro e w' ⟨rfl, rfl⟩))
      · have hp : Lx.digitB s[k] = true := by assumption
        go_round
        case rel => exact ⟨k + 1, by omega, by go_num, by have := H.out; rw [H1.out, if_pos hp] at this; show _ = _; omega⟩
        case measure => simp [intOf]; omega
      · have hp : ¬ Lx.digitB s[k] = true := by first | assumption | (rw [Bool.not_eq_true]; assumption)
        go_ret
        refine ⟨ret_int ?_, rfl⟩
        have := H.out; rw [H1.out, if_neg hp] at this; omega
    · obtain rfl : k = s.size := by omega
      go_wp2
      go_ret
      refine ⟨ret_int ?_, rfl⟩
      have := H.out
      rw [List.drop_eq_nil_of_le (by simp)] at this
      simp only [Lx.runL] at this
      omega
set_option maxHeartbeats 400000 in
theorem run_inner (s : ByteArray) (w : World) (hs : s.size ≤ maxLen) :
    Calls Tryz.prog 57 #[.string s, .func (.func 58) #[] #[]] w fun e w' => e = .returned (.int .i64 (Lx.runL Lx.innerB s.data.toList)) ∧ w = w' := by
  unfold maxLen at hs
  go_enter Tryz.func57, Tryz.ntmps57
  go_wp2
  go_loop [5] (fun n => ∃ k : Nat, k ≤ s.size ∧ n = .int .i64 k ∧ Hid (Lx.runL Lx.innerB s.data.toList = k + Lx.runL Lx.innerB (s.data.toList.drop k))) (fun n => s.size - (intOf n).toNat)
  case atStart => exact ⟨0, Nat.zero_le _, rfl, by simp [Hid]⟩
  case round =>
    obtain ⟨k, hk, rfl, H⟩ := hrel
    by_cases hlt : k < s.size
    · have h1 := runL_at Lx.innerB s k hlt
      have H1 := hid h1; clear h1
      go_wp2_with (first
        | (go_at_call 58; refine (inner_any _ _).mono ?_; rintro e w' ⟨rfl, rfl⟩))
      · have hp : Lx.innerB s[k] = true := by assumption
        go_round
        case rel => exact ⟨k + 1, by omega, by go_num, by have := H.out; rw [H1.out, if_pos hp] at this; show _ = _; omega⟩
        case measure => simp [intOf]; omega
      · have hp : ¬ Lx.innerB s[k] = true := by first | assumption | (rw [Bool.not_eq_true]; assumption)
        go_ret
        refine ⟨ret_int ?_, rfl⟩
        have := H.out; rw [H1.out, if_neg hp] at this; omega
    · obtain rfl : k = s.size := by omega
      go_wp2
      go_ret
      refine ⟨ret_int ?_, rfl⟩
      have := H.out
      rw [List.drop_eq_nil_of_le (by simp)] at this
      simp only [Lx.runL] at this
      omega
set_option maxHeartbeats 400000 in
theorem run_noLine (s : ByteArray) (w : World) (hs : s.size ≤ maxLen) :
    Calls Tryz.prog 57 #[.string s, .func (.func 64) #[] #[]] w fun e w' => e = .returned (.int .i64 (Lx.runL Lx.noLine s.data.toList)) ∧ w = w' := by
  unfold maxLen at hs
  go_enter Tryz.func57, Tryz.ntmps57
  go_wp2
  go_loop [5] (fun n => ∃ k : Nat, k ≤ s.size ∧ n = .int .i64 k ∧ Hid (Lx.runL Lx.noLine s.data.toList = k + Lx.runL Lx.noLine (s.data.toList.drop k))) (fun n => s.size - (intOf n).toNat)
  case atStart => exact ⟨0, Nat.zero_le _, rfl, by simp [Hid]⟩
  case round =>
    obtain ⟨k, hk, rfl, H⟩ := hrel
    by_cases hlt : k < s.size
    · have h1 := runL_at Lx.noLine s k hlt
      have H1 := hid h1; clear h1
      go_wp2_with (first
        | (go_at_call 64; refine (noLine_any _ _).mono ?_; rintro e w' ⟨rfl, rfl⟩))
      · have hp : Lx.noLine s[k] = true := by assumption
        go_round
        case rel => exact ⟨k + 1, by omega, by go_num, by have := H.out; rw [H1.out, if_pos hp] at this; show _ = _; omega⟩
        case measure => simp [intOf]; omega
      · have hp : ¬ Lx.noLine s[k] = true := by first | assumption | (rw [Bool.not_eq_true]; assumption)
        go_ret
        refine ⟨ret_int ?_, rfl⟩
        have := H.out; rw [H1.out, if_neg hp] at this; omega
    · obtain rfl : k = s.size := by omega
      go_wp2
      go_ret
      refine ⟨ret_int ?_, rfl⟩
      have := H.out
      rw [List.drop_eq_nil_of_le (by simp)] at this
      simp only [Lx.runL] at this
      omega
def lowK (k : Nat) (l : List UInt8) : List UInt8 := (l.map Lx.low).take k ++ l.drop k
theorem lowK_len (k : Nat) (l : List UInt8) : (lowK k l).length = l.length := by simp [lowK]; omega
theorem lowK_at (k : Nat) (l : List UInt8) (h : k < l.length) : (lowK k l)[k]? = some l[k] := by
  unfold lowK
  rw [List.getElem?_append_right (by simp; omega)]
  simp [Nat.min_eq_left (Nat.le_of_lt h), h]
theorem lowK_set (k : Nat) (l : List UInt8) (h : k < l.length) : (lowK k l).set k (Lx.low l[k]) = lowK (k + 1) l := by
  unfold lowK
  have hm : k < (l.map Lx.low).length := by simpa using h
  rw [List.set_append_right _ _ (by simp; omega), List.take_succ_eq_append_getElem hm, List.drop_eq_getElem_cons h]
  simp only [List.length_take, List.length_map, Nat.min_eq_left (Nat.le_of_lt h), Nat.sub_self, List.getElem_map, List.append_assoc]
  rw [← List.drop_eq_getElem_cons h]
  rw [List.drop_eq_getElem_cons h]
  rfl
theorem lowK_same (k : Nat) (l : List UInt8) (h : k < l.length) (hl : Lx.upperB l[k] = false) : lowK (k + 1) l = lowK k l := by
  unfold lowK
  have hm : k < (l.map Lx.low).length := by simpa using h
  rw [List.take_succ_eq_append_getElem hm, List.drop_eq_getElem_cons h]
  simp [Lx.low, hl]
set_option maxHeartbeats 400000 in
set_option maxRecDepth 100000 in
theorem small_any (s : ByteArray) (w : World) (hs : s.size ≤ maxLen) :
    Calls Tryz.prog 59 #[.string s] w fun e w' => e = .returned (.string ⟨(s.data.toList.map Lx.low).toArray⟩) ∧ Below w.heap.size w w' := by
  have hs : s.size ≤ 9223372036854775807 := hs
  have hb := fun W => u8map W s
  go_enter Tryz.func59, Tryz.ntmps59
  go_wp2
  generalize hcap : grownCap w s.size 0 5 = cap
  go_loopw [10] (fun n wr => ∃ k : Nat, k ≤ s.size ∧ n = .int .i64 k ∧ BRow wr w.heap.size (lowK k s.data.toList) ∧ Below w.heap.size w wr) (fun n _ => s.size - (intOf n).toNat)
  case atStart => exact ⟨0, Nat.zero_le _, rfl, (BRow.made w s _).drew, ((Below.refl _ _).alloc (Nat.le_refl _) _).drew⟩
  case round =>
    obtain ⟨k, hk, rfl, hrow, hbel⟩ := hrel
    clear hb hcap
    by_cases hlt : k < s.size
    · have hl : k < s.data.toList.length := by simpa using hlt
      have hl2 : k < (lowK k s.data.toList).length := by rw [lowK_len]; exact hl
      have hc := hrow.cell k _ (lowK_at k _ hl)
      have hf := hrow.free k hl2
      obtain ⟨c, hcc⟩ : ∃ c, c = s.data.toList[k] := ⟨_, rfl⟩
      rw [← hcc] at hc
      have Hcc := hid hcc; clear hcc
      have h255 : (c.toNat : Int) < 256 := by have := c.toNat_lt; omega
      go_wp2
      · have hu : Lx.upperB c = true := by simp [Lx.upperB]; omega
        have hlow : (((Lx.low c).toNat : Nat) : Int) = (c.toNat : Int) + 97 - 65 := by
          simp only [Lx.low, hu, if_true, UInt8.toNat_add]
          have : (32 : UInt8).toNat = 32 := rfl
          omega
        have hset := hrow.set k hl2 (Lx.low c)
        rw [Hcc.out, lowK_set k _ hl, ← Hcc.out, hlow] at hset
        go_roundw
        case rel => exact ⟨k + 1, by omega, by go_num, hset, hbel.setCell (Nat.le_refl _) _⟩
        case measure => simp [intOf]; omega
      all_goals
        have hu : Lx.upperB c = false := by rw [← Bool.not_eq_true]; simp [Lx.upperB]; omega
        have hsame := lowK_same k _ hl (by rw [← Hcc.out]; exact hu)
        rw [← hsame] at hrow
        go_roundw
        case rel => exact ⟨k + 1, by omega, by go_num, hrow, hbel⟩
        case measure => simp [intOf]; omega
    · obtain rfl : k = s.size := by omega
      have hbk := hrow.back cap
      rw [lowK_len] at hbk
      simp only [Array.length_toList, ByteArray.size_data] at hbk
      go_wp2
      go_ret
      refine ⟨?_, hbel⟩
      have : lowK s.size s.data.toList = s.data.toList.map Lx.low := by
        unfold lowK
        rw [List.take_of_length_le (by simp), List.drop_eq_nil_of_le (by simp), List.append_nil]
      exact congrArg (fun l : List UInt8 => Ending.returned (.string ⟨l.toArray⟩)) this
end Go.Proofs.YtbeinfhgfflneaaGreat
end
section
namespace Go.Proofs
open Go.Shelf
def Tryz.lays169_ren : Go.Shelf.Ren := ⟨fun | 169 => 84 | n => n, fun | 70 => 112 | 9 => 9 | 0 => 0 | 72 => 114 | 37 => 110 | 127 => 129 | 3 => 3 | 5 => 5 | n => n, fun | n => n⟩
theorem Tryz.lays169 : Go.Proofs.Lays.n169 Tryz.prog Tryz.lays169_ren := {
  mixed := by kernel_rfl
  f169 := Tryz.func84.trans (congrArg some (by kernel_rfl))
  t0 := Tryz.underlying0
  a0 := Tryz.isAgg0
  z0 := Tryz.sizeOf0
  v0 := Tryz.zeroValue0
  t3 := Tryz.underlying3
  a3 := Tryz.isAgg3
  z3 := Tryz.sizeOf3
  v3 := Tryz.zeroValue3
  t9 := Tryz.underlying9
  a9 := Tryz.isAgg9
  z9 := Tryz.sizeOf9
  v9 := Tryz.zeroValue9
  t37 := Tryz.underlying110
  a37 := Tryz.isAgg110
  z37 := Tryz.sizeOf110
  v37 := Tryz.zeroValue110
  t70 := Tryz.underlying112
  a70 := Tryz.isAgg112
  z70 := Tryz.sizeOf112
  v70 := Tryz.zeroValue112
  t72 := Tryz.underlying114
  a72 := Tryz.isAgg114
  z72 := Tryz.sizeOf114
  v72 := Tryz.zeroValue114
  t127 := Tryz.underlying129
  a127 := Tryz.isAgg129
  z127 := Tryz.sizeOf129
  v127 := Tryz.zeroValue129 }
theorem Tryz.Builder_Extra_169 : Builder.Extra Tryz.prog Tryz.lays169_ren := {
  sizeBuilder := by kernel_rfl
  liesBuilder := by kernel_rfl
  t5 := Tryz.underlying5
  a5 := Tryz.isAgg5
  z5 := Tryz.sizeOf5
  v5 := Tryz.zeroValue5
  infoByte := by kernel_rfl
  cellsByte := by kernel_rfl
  sizeByte := by kernel_rfl
  neB5 := by decide }
open Go.RowKit in
theorem Tryz.Builder_String_any (B b : Nat) (l : List UInt8) (w : World) (h : Lib.IsBuilder 114 5 B b (Lib.byteCells l) w) (hBw : B ≤ w.heap.size) :
    Calls Tryz.prog 84 #[.pointer (some ⟨b, 0, none⟩)] w fun e w' => e = .returned (.string ⟨l.toArray⟩) ∧ Below B w w' := Any.Builder_String_any Tryz.lays169 Tryz.Builder_Extra_169 B b l w h hBw
def Tryz.lays106_ren : Go.Shelf.Ren := ⟨fun | 106 => 109 | 213 => 126 | 265 => 129 | n => n, fun | 9 => 9 | 3 => 3 | n => n, fun | n => n⟩
theorem Tryz.lays106 : Go.Proofs.Lays.n106 Tryz.prog Tryz.lays106_ren := {
  mixed := by kernel_rfl
  f106 := Tryz.func109.trans (congrArg some (by kernel_rfl))
  f213 := Tryz.func126.trans (congrArg some (by kernel_rfl))
  f265 := Tryz.func129.trans (congrArg some (by kernel_rfl))
  t3 := Tryz.underlying3
  a3 := Tryz.isAgg3
  z3 := Tryz.sizeOf3
  v3 := Tryz.zeroValue3
  t9 := Tryz.underlying9
  a9 := Tryz.isAgg9
  z9 := Tryz.sizeOf9
  v9 := Tryz.zeroValue9 }
open Go.RowKit in
theorem Tryz.strings_Compare (a b : ByteArray) (w : World) :
    Calls Tryz.prog 109 #[.string a, .string b] w fun e w' => e = .returned (.int .i64 (Lib.compareBytes a.data.toList b.data.toList)) ∧ w' = w := Any.strings_Compare Tryz.lays106 a b w
def Tryz.lays137_ren : Go.Shelf.Ren := ⟨fun | 137 => 85 | 217 => 101 | 266 => 120 | n => n, fun | 9 => 9 | 5 => 5 | 3 => 3 | n => n, fun | n => n⟩
theorem Tryz.lays137 : Go.Proofs.Lays.n137 Tryz.prog Tryz.lays137_ren := {
  mixed := by kernel_rfl
  f137 := Tryz.func85.trans (congrArg some (by kernel_rfl))
  f217 := Tryz.func101.trans (congrArg some (by kernel_rfl))
  f266 := Tryz.func120.trans (congrArg some (by kernel_rfl))
  t3 := Tryz.underlying3
  a3 := Tryz.isAgg3
  z3 := Tryz.sizeOf3
  v3 := Tryz.zeroValue3
  t5 := Tryz.underlying5
  a5 := Tryz.isAgg5
  z5 := Tryz.sizeOf5
  v5 := Tryz.zeroValue5
  t9 := Tryz.underlying9
  a9 := Tryz.isAgg9
  z9 := Tryz.sizeOf9
  v9 := Tryz.zeroValue9 }
open Go.RowKit in
theorem Tryz.strings_IndexByte (s : ByteArray) (c : Int) (w : World) :
    Calls Tryz.prog 85 #[.string s, .int .u8 c] w fun e w' => e = .returned (.int .i64 (Lib.indexByte s.data.toList c.toNat.toUInt8)) ∧ w' = w := Any.strings_IndexByte Tryz.lays137 s c w
def Tryz.lays122_ren : Go.Shelf.Ren := ⟨fun | 122 => 108 | 215 => 125 | n => n, fun | 3 => 3 | 4 => 4 | n => n, fun | n => n⟩
theorem Tryz.lays122 : Go.Proofs.Lays.n122 Tryz.prog Tryz.lays122_ren := {
  mixed := by kernel_rfl
  f122 := Tryz.func108.trans (congrArg some (by kernel_rfl))
  f215 := Tryz.func125.trans (congrArg some (by kernel_rfl))
  t3 := Tryz.underlying3
  a3 := Tryz.isAgg3
  z3 := Tryz.sizeOf3
  v3 := Tryz.zeroValue3
  t4 := Tryz.underlying4
  a4 := Tryz.isAgg4
  z4 := Tryz.sizeOf4
  v4 := Tryz.zeroValue4 }
open Go.RowKit in
theorem Tryz.cmp_Compare_int (x y : Int) (w : World) :
    Calls Tryz.prog 108 #[.int .i64 x, .int .i64 y] w fun e w' => e = .returned (.int .i64 (Lib.compareInt x y)) ∧ w' = w := Any.cmp_Compare_int Tryz.lays122 x y w
def Tryz.lays144_ren : Go.Shelf.Ren := ⟨fun | 144 => 139 | 143 => 141 | 219 => 142 | 217 => 101 | 225 => 143 | 224 => 144 | 267 => 145 | 266 => 120 | 314 => 146 | n => n, fun | 9 => 9 | 4 => 4 | 3 => 3 | 5 => 5 | 46 => 151 | 146 => 157 | 51 => 156 | n => n, fun | 1 => 0 | n => n⟩
theorem Tryz.lays144 : Go.Proofs.Lays.n144 Tryz.prog Tryz.lays144_ren := {
  mixed := by kernel_rfl
  f143 := Tryz.func141.trans (congrArg some (by kernel_rfl))
  f144 := Tryz.func139.trans (congrArg some (by kernel_rfl))
  f217 := Tryz.func101.trans (congrArg some (by kernel_rfl))
  f219 := Tryz.func142.trans (congrArg some (by kernel_rfl))
  f224 := Tryz.func144.trans (congrArg some (by kernel_rfl))
  f225 := Tryz.func143.trans (congrArg some (by kernel_rfl))
  f266 := Tryz.func120.trans (congrArg some (by kernel_rfl))
  f267 := Tryz.func145.trans (congrArg some (by kernel_rfl))
  f314 := Tryz.func146.trans (congrArg some (by kernel_rfl))
  t3 := Tryz.underlying3
  a3 := Tryz.isAgg3
  z3 := Tryz.sizeOf3
  v3 := Tryz.zeroValue3
  t4 := Tryz.underlying4
  a4 := Tryz.isAgg4
  z4 := Tryz.sizeOf4
  v4 := Tryz.zeroValue4
  t5 := Tryz.underlying5
  a5 := Tryz.isAgg5
  z5 := Tryz.sizeOf5
  v5 := Tryz.zeroValue5
  t9 := Tryz.underlying9
  a9 := Tryz.isAgg9
  z9 := Tryz.sizeOf9
  v9 := Tryz.zeroValue9
  t46 := Tryz.underlying151
  a46 := Tryz.isAgg151
  z46 := Tryz.sizeOf151
  v46 := Tryz.zeroValue151
  t51 := Tryz.underlying156
  a51 := Tryz.isAgg156
  z51 := Tryz.sizeOf156
  v51 := Tryz.zeroValue156
  t146 := Tryz.underlying157
  a146 := Tryz.isAgg157
  z146 := Tryz.sizeOf157
  v146 := Tryz.zeroValue157
  g1 := by kernel_rfl }
open Go.RowKit Go.Lib in
theorem Tryz.strings_Contains_one (s : ByteArray) (c : UInt8) (w : World) :
    Calls Tryz.prog 139 #[.string s, .string ⟨#[c]⟩] w fun e w' => e = .returned (.bool (decide (0 ≤ Lib.indexByte s.data.toList c))) ∧ w' = w := Any.strings_Contains_one Tryz.lays144 s c w
open Go.RowKit Go.Lib in
theorem Tryz.strings_Contains (s sub : ByteArray) (m : Int) (w : World) (hs : s.size < 4294967281) (hm : w.cell? ⟨0, 0, none⟩ = some (.int .i64 m)) :
    Calls Tryz.prog 139 #[.string s, .string sub] w fun e w' => e = .returned (.bool (Lib.contains s.data.toList sub.data.toList)) ∧ w' = w := Any.strings_Contains Tryz.lays144 s sub m w hs hm
def Tryz.laysM144_ren : Go.Shelf.Ren := ⟨fun | 144 => 139 | 143 => 141 | 219 => 142 | 217 => 101 | 225 => 143 | 224 => 144 | 267 => 145 | 266 => 120 | 314 => 146 | n => n, fun | 9 => 9 | 4 => 4 | 3 => 3 | 5 => 5 | 46 => 151 | 146 => 157 | 51 => 156 | n => n, fun | 1 => 0 | n => n⟩
theorem Tryz.laysM144 : Go.Proofs.LaysM.n144 Tryz.prog Tryz.laysM144_ren := {
  mixed := by kernel_rfl
  f143 := Tryz.func141.trans (congrArg some (by kernel_rfl))
  f144 := Tryz.func139.trans (congrArg some (by kernel_rfl))
  f217 := Tryz.func101.trans (congrArg some (by kernel_rfl))
  f219 := Tryz.func142.trans (congrArg some (by kernel_rfl))
  f224 := Tryz.func144.trans (congrArg some (by kernel_rfl))
  f225 := Tryz.func143.trans (congrArg some (by kernel_rfl))
  f266 := Tryz.func120.trans (congrArg some (by kernel_rfl))
  f267 := Tryz.func145.trans (congrArg some (by kernel_rfl))
  f314 := Tryz.func146.trans (congrArg some (by kernel_rfl))
  t3 := Tryz.underlying3
  a3 := Tryz.isAgg3
  z3 := Tryz.sizeOf3
  v3 := Tryz.zeroValue3
  t4 := Tryz.underlying4
  a4 := Tryz.isAgg4
  z4 := Tryz.sizeOf4
  v4 := Tryz.zeroValue4
  t5 := Tryz.underlying5
  a5 := Tryz.isAgg5
  z5 := Tryz.sizeOf5
  v5 := Tryz.zeroValue5
  t9 := Tryz.underlying9
  a9 := Tryz.isAgg9
  z9 := Tryz.sizeOf9
  v9 := Tryz.zeroValue9
  t46 := Tryz.underlying151
  a46 := Tryz.isAgg151
  z46 := Tryz.sizeOf151
  v46 := Tryz.zeroValue151
  t51 := Tryz.underlying156
  a51 := Tryz.isAgg156
  z51 := Tryz.sizeOf156
  v51 := Tryz.zeroValue156
  t146 := Tryz.underlying157
  a146 := Tryz.isAgg157
  z146 := Tryz.sizeOf157
  v146 := Tryz.zeroValue157
  g1 := by kernel_rfl
  i3 := by kernel_rfl
  i4 := by kernel_rfl
  i5 := by kernel_rfl
  i9 := by kernel_rfl
  i46 := by kernel_rfl
  i51 := by kernel_rfl
  i146 := by kernel_rfl
  m1 := by kernel_rfl
  s1_3 := fun w h => Go.Proofs.cell_of_shapedOpen_int (zero := #[.int .i64 0]) (t := 3) h (of_decide_eq_true (by kernel_rfl)) (by kernel_rfl) rfl (by kernel_rfl) (by kernel_rfl) Tryz.underlying3 }
def Tryz.lays99_ren : Go.Shelf.Ren := ⟨fun | 99 => 55 | 206 => 82 | n => n, fun | 9 => 9 | 4 => 4 | 3 => 3 | n => n, fun | n => n⟩
theorem Tryz.lays99 : Go.Proofs.Lays.n99 Tryz.prog Tryz.lays99_ren := {
  mixed := by kernel_rfl
  f99 := Tryz.func55.trans (congrArg some (by kernel_rfl))
  f206 := Tryz.func82.trans (congrArg some (by kernel_rfl))
  t3 := Tryz.underlying3
  a3 := Tryz.isAgg3
  z3 := Tryz.sizeOf3
  v3 := Tryz.zeroValue3
  t4 := Tryz.underlying4
  a4 := Tryz.isAgg4
  z4 := Tryz.sizeOf4
  v4 := Tryz.zeroValue4
  t9 := Tryz.underlying9
  a9 := Tryz.isAgg9
  z9 := Tryz.sizeOf9
  v9 := Tryz.zeroValue9 }
open Go.RowKit Go.Lib in
theorem Tryz.strings_HasPrefix (s p : ByteArray) (w : World) :
    Calls Tryz.prog 55 #[.string s, .string p] w fun e w' => e = .returned (.bool (Lib.hasPrefix s.data.toList p.data.toList)) ∧ w' = w := Any.strings_HasPrefix Tryz.lays99 s p w
def Tryz.lays264_ren : Go.Shelf.Ren := ⟨fun | 264 => 117 | n => n, fun | 53 => 111 | 46 => 151 | n => n, fun | n => n⟩
theorem Tryz.lays264 : Go.Proofs.Lays.n264 Tryz.prog Tryz.lays264_ren := {
  mixed := by kernel_rfl
  f264 := Tryz.func117.trans (congrArg some (by kernel_rfl))
  t46 := Tryz.underlying151
  a46 := Tryz.isAgg151
  z46 := Tryz.sizeOf151
  v46 := Tryz.zeroValue151
  t53 := Tryz.underlying111
  a53 := Tryz.isAgg111
  z53 := Tryz.sizeOf111
  v53 := Tryz.zeroValue111 }
open Go.RowKit Go.Lib in
theorem Tryz.bits_Mul64 (x y : Nat) (hx : x < 18446744073709551616) (hy : y < 18446744073709551616) (w : World) :
    Calls Tryz.prog 117 #[.int .u64 x, .int .u64 y] w fun e w' => e = .returned (.tuple #[.int .u64 ((x * y / 18446744073709551616 : Nat) : Int), .int .u64 ((x * y % 18446744073709551616 : Nat) : Int)]) ∧ w' = w := Any.bits_Mul64 Tryz.lays264 x y hx hy w
end Go.Proofs
end
section
namespace Go.Proofs.YtbeinfhgfflneaaGreat
open Go.RowKit
set_option linter.unusedVariables false
theorem bld_info : (Tryz.prog.info? 114).map (fun i => i.size) = some 2 := by kernel_rfl
theorem byte_info : (Tryz.prog.info? 5).map (fun i => (i.zero, i.size, i.bytes)) = some (some (.int .u8 0), 1, 1) := by kernel_rfl
theorem bld_lies : liesAt Tryz.prog Tryz.prog.depth 114 (2 / Tryz.prog.cellsOf 114) 0 114 1 = true := by kernel_rfl
set_option maxRecDepth 100000 in
set_option maxHeartbeats 1000000 in
theorem check_used (b : Nat) (w : World) (h0 : w.cell? ⟨b, 0, none⟩ = some (.pointer (some ⟨b, 0, none⟩))) :
    Calls Tryz.prog 100 #[.pointer (some ⟨b, 0, none⟩)] w fun e w' => e = .returned (.tuple #[]) ∧ w = w' := by
  obtain ⟨j, hj, _⟩ := Option.map_eq_some_iff.1 bld_info
  have hne := fun W : World => Lib.run_neq_ptr_same W (⟨b, 0, none⟩ : Addr) Tryz.underlying112 hj
  go_enter Tryz.func100, Tryz.ntmps100
  go_wp2
  go_end0
  exact ⟨rfl, rfl⟩
set_option maxRecDepth 100000 in
set_option maxHeartbeats 1000000 in
theorem check_fresh (b : Nat) (w : World) (h0 : w.cell? ⟨b, 0, none⟩ = some (.pointer none)) (hsh : w.shape? b = some (114, 2)) (hfz : w.frozen? ⟨b, 0, none⟩ = false) :
    Calls Tryz.prog 100 #[.pointer (some ⟨b, 0, none⟩)] w fun e w' => e = .returned (.tuple #[]) ∧ w.setCell ⟨b, 0, none⟩ (.pointer (some ⟨b, 0, none⟩)) = w' := by
  obtain ⟨j, hj, hjs⟩ := Option.map_eq_some_iff.1 bld_info
  have hne := fun W : World => Lib.run_neq_ptr_same W (⟨b, 0, none⟩ : Addr) Tryz.underlying112 hj
  have ht := Lib.run_to_unsafe w ⟨b, 0, none⟩ Tryz.underlying112 Tryz.underlying147 hj (by rw [hjs]; decide) hsh (Nat.zero_lt_succ 1)
  have hf := Lib.run_from_unsafe w ⟨b, 0, none⟩ Tryz.underlying147 Tryz.underlying112 hj hsh bld_lies
  have hx := run_callFunc_extern (P := Tryz.prog) (w := w) Tryz.func119 (by kernel_rfl) (by kernel_rfl) (by kernel_rfl) (e := Extern.AbiNoEscape.same) (by kernel_rfl) (args := #[.pointer (some ⟨b, 0, none⟩)])
  rw [Lib.run_noEscape] at hx
  go_enter Tryz.func100, Tryz.ntmps100
  go_wp2
  go_end0
  exact ⟨rfl, rfl⟩
theorem check_any (B b : Nat) (bs : List Value) (w : World) (h : Lib.IsBuilder 114 5 B b bs w) :
    Calls Tryz.prog 100 #[.pointer (some ⟨b, 0, none⟩)] w fun e w' => e = .returned (.tuple #[]) ∧ (Lib.BuilderAt 114 5 B b (.pointer (some ⟨b, 0, none⟩)) bs w' ∧ Below B w w') := by
  rcases h with h | h
  · refine (check_fresh b w h.cell0 h.shape h.frozen0).mono ?_
    rintro e w' ⟨rfl, rfl⟩
    exact ⟨rfl, h.used _, (Below.refl B w).setCell (p := ⟨b, 0, none⟩) h.1 _⟩
  · refine (check_used b w h.cell0).mono ?_
    rintro e w' ⟨rfl, rfl⟩
    exact ⟨rfl, h, Below.refl B _⟩
set_option maxHeartbeats 2000000 in
set_option maxRecDepth 100000 in
theorem writeByte_any (B b : Nat) (bs : List Value) (c : Int) (w : World) (h : Lib.IsBuilder 114 5 B b bs w) (hlen : bs.length + 1 ≤ 140737488355328) (hBw : B ≤ w.heap.size) :
    Calls Tryz.prog 83 #[.pointer (some ⟨b, 0, none⟩), .int .u8 c] w fun e w' => e = .returned .nilIface ∧ Lib.IsBuilder 114 5 B b (bs ++ [.int .u8 c]) w' ∧ Below B w w' := by
  obtain ⟨i0, hi, hz0, hz1, hz2⟩ := info_parts byte_info
  go_enter Tryz.func83, Tryz.ntmps83
  go_wp2_with (go_at_call 100; refine (check_any B b bs _ h).mono ?_)
  rintro e w1 ⟨rfl, h1, hb1⟩
  obtain ⟨hB, v, hbk, hown, hne⟩ := h1
  have c0 : w1.cell? ⟨b, 0, none⟩ = some (.pointer (some ⟨b, 0, none⟩)) := by rw [Lib.cell_of_heap hbk]; rfl
  have c1 : w1.cell? ⟨b, 1, none⟩ = some v := by rw [Lib.cell_of_heap hbk]; rfl
  go_wp2_with (at_builtin; refine wpList_append_own _ rfl _ _ 110 rfl B 5 i0 (.int .u8 0) 1 1 Tryz.underlying110 hi hz0 hz1 hz2 rfl (by decide) _ _ _ rfl (hown.alloc _) ⟨w1.heap.size, 0, none⟩ 1 1 [.int .u8 c] rfl rfl ?c1 ?c2 ?c3 ?c4 ?c5 ?_)
  case c1 =>
    intro j u hj
    match j, hj with
    | 0, hj => simp at hj; subst hj; simp [Addr.add]
  case c2 => intro u hu; simp at hu; subst hu; rfl
  case c3 => unfold maxLen; omega
  case c4 => omega
  case c5 => have := hb1.size; simp; omega
  intro v' w2 hown' hgrow _
  have hlt : b < w1.heap.size := by
    rcases Nat.lt_or_ge b w1.heap.size with h' | h'
    · exact h'
    · simp [Array.getElem?_eq_none h'] at hbk
  have hb2 : w2.heap[b]? = some (.cells #[.pointer (some ⟨b, 0, none⟩), v] 114 (0, 0)) := by
    rw [hgrow.block b (by simp; omega) (fun e => hne e.symm), Below.heap_alloc w1 _ b hlt]
    exact hbk
  have d0 : w2.cell? ⟨b, 0, none⟩ = some (.pointer (some ⟨b, 0, none⟩)) := by rw [Lib.cell_of_heap hb2]; rfl
  have d1 : w2.cell? ⟨b, 1, none⟩ = some v := by rw [Lib.cell_of_heap hb2]; rfl
  have f1 : w2.frozen? ⟨b, 1, none⟩ = false := Lib.frozen_of_heap hb2 1
  obtain ⟨g, cap, rfl⟩ : ∃ g cap, v' = .slice (some ⟨g, 0, none⟩) (bs.length + 1) cap := by
    rcases hown'.2 with ⟨_, h0⟩ | ⟨g, cap, cur, hv, _⟩
    · omega
    · exact ⟨g, cap, hv⟩
  go_wp2
  go_ret
  refine ⟨rfl, .inr ?_, ?_⟩
  · exact Lib.BuilderAt.put (T := 114) (e := 5) hB hb2 (bs' := bs ++ [.int .u8 c]) (by simpa using hown') (by decide)
  · exact ((hb1.alloc (by have := hb1.size; omega) _).grown hgrow (by have := hb1.size; simp; omega) (fun k hk => (hown.lt k hk).1)).setCell (p := ⟨b, 1, none⟩) hB _
theorem bld_fresh (w : World) (B : Nat) (hB : B ≤ w.heap.size) : Lib.IsBuilder 114 5 B w.heap.size [] (w.alloc (.cells #[.pointer none, .slice none 0 0] 114)) :=
  .inl ⟨hB, .slice none 0 0, heap_new _ _, ⟨by simp, .inl ⟨rfl, rfl⟩⟩, by simp [Value.ownBlock]⟩
end Go.Proofs.YtbeinfhgfflneaaGreat
end
section
namespace Go.Proofs.YtbeinfhgfflneaaGreat
open Go.RowKit
def tkCells (t : Lx.Tk) (pos : Int) : Array Value := #[.int .i64 (t.kind : Int), .string ⟨t.text.toArray⟩, .int .i64 (t.num : Int), .int .i64 pos]
def noCells : Array Value := #[.int .i64 0, .string ⟨#[]⟩, .int .i64 0, .int .i64 0]
def tokRes : Option (Lx.Tk × Nat) → Value
  | none => .tuple #[.agg noCells, .int .i64 0, .bool false]
  | some x => .tuple #[.agg (tkCells x.1 0), .int .i64 (x.2 : Int), .bool true]
theorem startsL_at (s : ByteArray) (k : Nat) (h : k < s.size) : Lx.startsLetter (s.data.toList.drop k) = Lx.letterB s[k] := by
  have hl : k < s.data.toList.length := by simpa using h
  rw [List.drop_eq_getElem_cons hl]; rfl
theorem startsL_end (s : ByteArray) (k : Nat) (h : s.size ≤ k) : Lx.startsLetter (s.data.toList.drop k) = false := by
  rw [List.drop_eq_nil_of_le (by simpa using h)]; rfl
set_option maxHeartbeats 400000 in
set_option maxRecDepth 100000 in
theorem number_no (s : ByteArray) (w : World) (hs : s.size ≤ maxLen) (h : 19 < Lx.runL Lx.digitB s.data.toList ∨ Lx.startsLetter (s.data.toList.drop (Lx.runL Lx.digitB s.data.toList)) = true) :
    Calls Tryz.prog 61 #[.string s] w fun e w' => e = .returned (tokRes none) ∧ Below w.heap.size w w' := by
  have hs' : s.size ≤ 9223372036854775807 := hs
  have hn := runL_le Lx.digitB s.data.toList
  have hrun := fun W => run_digit s W hs
  obtain ⟨n, e⟩ : ∃ n, n = Lx.runL Lx.digitB s.data.toList := ⟨_, rfl⟩
  simp only [← e] at hrun h hn
  clear e
  have Hrun := hid hrun; clear hrun
  by_cases h19 : 19 < n
  · clear h
    go_enter Tryz.func61, Tryz.ntmps61
    go_wp2_with (first | (go_at_call 57; refine (Hrun.out _).mono ?_; rintro e w' ⟨rfl, rfl⟩))
    refine bodyPost_ret (v := tokRes none) (by simp [results, Tryz.results61, go_sem, tokRes, noCells]) rfl ⟨rfl, ?_⟩
    exact (Below.refl _ _).alloc (Nat.le_refl _) _
  · have h2 := h.resolve_left h19
    clear h
    have hlt : n < s.size := by
      rcases Nat.lt_or_ge n s.size with h | h
      · exact h
      · rw [startsL_end s n h] at h2; cases h2
    rw [startsL_at s n hlt] at h2
    go_enter Tryz.func61, Tryz.ntmps61
    go_wp2_with (first | (go_at_call 57; refine (Hrun.out _).mono ?_; rintro e w' ⟨rfl, rfl⟩) | (go_at_call 56; refine (letter_any _ _).mono ?_; rintro e w' ⟨rfl, rfl⟩))
    refine bodyPost_ret (v := tokRes none) (by simp [results, Tryz.results61, go_sem, tokRes, noCells]) rfl ⟨rfl, ?_⟩
    exact (Below.refl _ _).alloc (Nat.le_refl _) _
theorem below_at {B g i : Nat} {a w : World} {u : Value} (h : Below B a w) (hg : B ≤ g) : Below B a (w.setCell ⟨g, i, none⟩ u) := h.setCell (p := ⟨g, i, none⟩) hg u
theorem blk4 {w : World} {g : Nat} {a b c d : Value} {T : TypeId} (h : w.heap[g]? = some (.cells #[a, b, c, d] T (0, 0))) :
    w.cell? ⟨g, 0, none⟩ = some a ∧ w.cell? ⟨g, 1, none⟩ = some b ∧ w.cell? ⟨g, 2, none⟩ = some c ∧ w.cell? ⟨g, 3, none⟩ = some d ∧ ∀ i, w.frozen? ⟨g, i, none⟩ = false :=
  ⟨by rw [Lib.cell_of_heap h]; rfl, by rw [Lib.cell_of_heap h]; rfl, by rw [Lib.cell_of_heap h]; rfl, by rw [Lib.cell_of_heap h]; rfl, fun i => Lib.frozen_of_heap h i⟩
theorem take_snoc' (l : List UInt8) (k : Nat) (h : k < l.length) : l.take (k + 1) = l.take k ++ [l[k]] := List.take_succ_eq_append_getElem h
set_option maxHeartbeats 1000000 in
set_option maxRecDepth 100000 in
theorem number_go (s : ByteArray) (w : World) (hs : s.size ≤ maxLen) (h19 : Lx.runL Lx.digitB s.data.toList ≤ 19) (h2 : Lx.startsLetter (s.data.toList.drop (Lx.runL Lx.digitB s.data.toList)) = false) :
    Calls Tryz.prog 61 #[.string s] w fun e w' => e = .returned (tokRes (Lx.numberL s.data.toList)) ∧ Below w.heap.size w w' := by
  have hs' : s.size ≤ 9223372036854775807 := hs
  have hn := runL_le Lx.digitB s.data.toList
  have hd := runL_take Lx.digitB s.data.toList
  have hrun := fun W => run_digit s W hs
  have hres : Lx.numberL s.data.toList = if Lx.valOf 0 (s.data.toList.take (Lx.runL Lx.digitB s.data.toList)) < 9223372036854775808 then some (⟨2, [], Lx.valOf 0 (s.data.toList.take (Lx.runL Lx.digitB s.data.toList))⟩, Lx.runL Lx.digitB s.data.toList) else none := by
    simp [Lx.numberL, h19, h2]
  generalize Lx.numberL s.data.toList = r at hres ⊢
  obtain ⟨n, e⟩ : ∃ n, n = Lx.runL Lx.digitB s.data.toList := ⟨_, rfl⟩
  simp only [← e] at hrun h19 h2 hn hd hres
  clear e
  have hn' : n ≤ s.size := by simpa using hn
  have hx : (s.extract 0 n).data.toList = s.data.toList.take n := by rw [Lib.extract_data]; simp
  have hxs : (s.extract 0 n).size = n := by simp; omega
  have H19 := fun k (hk : k < n) => valOf_19 s.data.toList n k h19 hk hd
  have hlen : (s.data.toList.take n).length = n := by rw [List.length_take]; omega
  have hb := fun W => u8map W (s.extract 0 n)
  rw [hxs] at hb
  have hmade := fun W cap => BRow.made W (s.extract 0 n) cap
  rw [hx] at hmade
  obtain ⟨d, hdd⟩ : ∃ d, d = s.data.toList.take n := ⟨_, rfl⟩
  simp only [← hdd] at hd H19 hlen hmade hres
  clear hx hdd
  have Hd := hid hd; clear hd
  have HH19 := hid H19; clear H19
  have Hrun := hid hrun; clear hrun
  have Hmade := hid hmade; clear hmade
  have Hlen := hid hlen; clear hlen
  have Hxs := hid hxs; clear hxs
  have Hres := hid hres; clear hres
  have hd19 : decide (19 < (n : Int)) = false := by simp; omega
  by_cases hlt : n < s.size
  · rw [startsL_at s n hlt] at h2
    go_enter Tryz.func61, Tryz.ntmps61
    go_wp2_with (first | (go_at_call 57; refine (Hrun.out _).mono ?_; rintro e w' ⟨rfl, rfl⟩) | (go_at_call 56; refine (letter_any _ _).mono ?_; rintro e w' ⟨rfl, rfl⟩))
    clear h2 hb
    generalize grownCap _ n 0 5 = cap
    go_loopw [6, 31] (fun x i wr => ∃ k : Nat, k ≤ n ∧ i = .int .i64 k ∧ x = .int .u64 (Lx.valOf 0 (d.take k)) ∧ BRow wr (w.heap.size + 1) d ∧ wr.heap[w.heap.size]? = some (.cells noCells 66 (0, 0)) ∧ Below w.heap.size w wr) (fun _ i _ => n - (intOf i).toNat)
    case atStart =>
      refine ⟨0, Nat.zero_le _, rfl, rfl, ?_, ?_, ?_⟩
      · have := (Hmade.out (w.alloc (.cells noCells 66)) cap).drew
        rw [World.size_alloc] at this
        exact this
      · exact (Below.heap_alloc (w.alloc (.cells noCells 66)) _ w.heap.size (by rw [World.size_alloc]; omega)).trans (heap_new w _)
      · exact ((((Below.refl _ _).alloc (Nat.le_refl _) _).alloc (by simp) _)).drew
    case round =>
      obtain ⟨k, hk, rfl, rfl, hrow, hblk, hbel⟩ := hrel
      by_cases hkn : k < n
      · have hl : k < d.length := by rw [Hlen.out]; exact hkn
        obtain ⟨c, hcc⟩ : ∃ c, c = d[k] := ⟨_, rfl⟩
        have hc := hrow.cell k c (by rw [hcc]; exact List.getElem?_eq_getElem hl)
        have hdc := Hd.out c (by rw [hcc]; exact List.getElem_mem hl)
        simp only [Lx.digitB, Bool.and_eq_true, decide_eq_true_eq] at hdc
        have hX := HH19.out k hkn
        have hts := take_snoc' d k hl
        have hvs := valOf_snoc (d.take k) c 0
        rw [hcc, ← hts, ← hcc] at hvs
        have Hvs := hid hvs; clear hvs hts
        have Hcc := hid hcc; clear hcc
        generalize Lx.valOf 0 (d.take k) = X at *
        have h1 : (48 : Int) ≤ (c.toNat : Int) := by omega
        have h2 : (c.toNat : Int) ≤ 57 := by omega
        have h3 : (X : Int) ≤ 999999999999999999 := by omega
        clear hdc hX
        go_wp2
        go_roundw
        case rel => exact ⟨k + 1, by omega, by go_num, by rw [Hvs.out]; go_num, hrow, hblk, hbel⟩
        case measure => simp [intOf]; omega
      · have hkn' : n = k := by omega
        subst hkn'
        have htk : d.take n = d := List.take_of_length_le (by rw [Hlen.out]; exact Nat.le_refl _)
        rw [htk]
        clear htk
        have hbd : Lx.valOf 0 d ≤ 9999999999999999999 := by
          have := valOf_lt d Hd.out
          rw [Hlen.out] at this
          have h3 : 10 ^ n ≤ 10 ^ 19 := Nat.pow_le_pow_right (by omega) h19
          have h4 : (10 : Nat) ^ 19 = 10000000000000000000 := by decide
          omega
        have hres := Hres.out
        generalize Lx.valOf 0 d = X at *
        obtain ⟨c0, c1, c2, c3, hf⟩ := blk4 hblk
        by_cases hX : X < 9223372036854775808
        · rw [if_pos hX] at hres
          have Hres := hid hres; clear hres
          go_wp2
          rw [Hres.out]
          refine bodyPost_ret (v := tokRes (some (⟨2, [], X⟩, n))) (by simp [results, Tryz.results61, go_sem, tokRes, tkCells, c0, c1, c2, c3]) rfl ⟨rfl, ?_⟩
          repeat (first | exact hbel | refine below_at ?_ (Nat.le_refl _))
        · rw [if_neg hX] at hres
          have Hres := hid hres; clear hres
          go_wp2
          rw [Hres.out]
          refine bodyPost_ret (v := tokRes none) (by simp [results, Tryz.results61, go_sem, tokRes, noCells, c0, c1, c2, c3]) rfl ⟨rfl, ?_⟩
          repeat (first | exact hbel | refine below_at ?_ (Nat.le_refl _))
  · clear h2
    go_enter Tryz.func61, Tryz.ntmps61
    go_wp2_with (first | (go_at_call 57; refine (Hrun.out _).mono ?_; rintro e w' ⟨rfl, rfl⟩) | (go_at_call 56; refine (letter_any _ _).mono ?_; rintro e w' ⟨rfl, rfl⟩))
    clear hb
    generalize grownCap _ n 0 5 = cap
    go_loopw [6, 31] (fun x i wr => ∃ k : Nat, k ≤ n ∧ i = .int .i64 k ∧ x = .int .u64 (Lx.valOf 0 (d.take k)) ∧ BRow wr (w.heap.size + 1) d ∧ wr.heap[w.heap.size]? = some (.cells noCells 66 (0, 0)) ∧ Below w.heap.size w wr) (fun _ i _ => n - (intOf i).toNat)
    case atStart =>
      refine ⟨0, Nat.zero_le _, rfl, rfl, ?_, ?_, ?_⟩
      · have := (Hmade.out (w.alloc (.cells noCells 66)) cap).drew
        rw [World.size_alloc] at this
        exact this
      · exact (Below.heap_alloc (w.alloc (.cells noCells 66)) _ w.heap.size (by rw [World.size_alloc]; omega)).trans (heap_new w _)
      · exact ((((Below.refl _ _).alloc (Nat.le_refl _) _).alloc (by simp) _)).drew
    case round =>
      obtain ⟨k, hk, rfl, rfl, hrow, hblk, hbel⟩ := hrel
      by_cases hkn : k < n
      · have hl : k < d.length := by rw [Hlen.out]; exact hkn
        obtain ⟨c, hcc⟩ : ∃ c, c = d[k] := ⟨_, rfl⟩
        have hc := hrow.cell k c (by rw [hcc]; exact List.getElem?_eq_getElem hl)
        have hdc := Hd.out c (by rw [hcc]; exact List.getElem_mem hl)
        simp only [Lx.digitB, Bool.and_eq_true, decide_eq_true_eq] at hdc
        have hX := HH19.out k hkn
        have hts := take_snoc' d k hl
        have hvs := valOf_snoc (d.take k) c 0
        rw [hcc, ← hts, ← hcc] at hvs
        have Hvs := hid hvs; clear hvs hts
        have Hcc := hid hcc; clear hcc
        generalize Lx.valOf 0 (d.take k) = X at *
        have h1 : (48 : Int) ≤ (c.toNat : Int) := by omega
        have h2 : (c.toNat : Int) ≤ 57 := by omega
        have h3 : (X : Int) ≤ 999999999999999999 := by omega
        clear hdc hX
        go_wp2
        go_roundw
        case rel => exact ⟨k + 1, by omega, by go_num, by rw [Hvs.out]; go_num, hrow, hblk, hbel⟩
        case measure => simp [intOf]; omega
      · have hkn' : n = k := by omega
        subst hkn'
        have htk : d.take n = d := List.take_of_length_le (by rw [Hlen.out]; exact Nat.le_refl _)
        rw [htk]
        clear htk
        have hbd : Lx.valOf 0 d ≤ 9999999999999999999 := by
          have := valOf_lt d Hd.out
          rw [Hlen.out] at this
          have h3 : 10 ^ n ≤ 10 ^ 19 := Nat.pow_le_pow_right (by omega) h19
          have h4 : (10 : Nat) ^ 19 = 10000000000000000000 := by decide
          omega
        have hres := Hres.out
        generalize Lx.valOf 0 d = X at *
        obtain ⟨c0, c1, c2, c3, hf⟩ := blk4 hblk
        by_cases hX : X < 9223372036854775808
        · rw [if_pos hX] at hres
          have Hres := hid hres; clear hres
          go_wp2
          rw [Hres.out]
          refine bodyPost_ret (v := tokRes (some (⟨2, [], X⟩, n))) (by simp [results, Tryz.results61, go_sem, tokRes, tkCells, c0, c1, c2, c3]) rfl ⟨rfl, ?_⟩
          repeat (first | exact hbel | refine below_at ?_ (Nat.le_refl _))
        · rw [if_neg hX] at hres
          have Hres := hid hres; clear hres
          go_wp2
          rw [Hres.out]
          refine bodyPost_ret (v := tokRes none) (by simp [results, Tryz.results61, go_sem, tokRes, noCells, c0, c1, c2, c3]) rfl ⟨rfl, ?_⟩
          repeat (first | exact hbel | refine below_at ?_ (Nat.le_refl _))
theorem number_any (s : ByteArray) (w : World) (hs : s.size ≤ maxLen) :
    Calls Tryz.prog 61 #[.string s] w fun e w' => e = .returned (tokRes (Lx.numberL s.data.toList)) ∧ Below w.heap.size w w' := by
  by_cases h : 19 < Lx.runL Lx.digitB s.data.toList ∨ Lx.startsLetter (s.data.toList.drop (Lx.runL Lx.digitB s.data.toList)) = true
  · have : Lx.numberL s.data.toList = none := by
      unfold Lx.numberL
      rw [if_neg]
      rintro ⟨h1, h2, _⟩
      rcases h with h | h
      · omega
      · rw [h2] at h; cases h
    rw [this]
    exact number_no s w hs h
  · exact number_go s w hs (by omega) (by
      rw [← Bool.not_eq_true]; exact fun h' => h (.inr h'))
end Go.Proofs.YtbeinfhgfflneaaGreat
end
section
namespace Go.Proofs.YtbeinfhgfflneaaGreat
open Go.RowKit
theorem byteCells_snoc (l : List UInt8) (c : UInt8) : Lib.byteCells (l ++ [c]) = Lib.byteCells l ++ [.int .u8 (c.toNat : Int)] := by simp [Lib.byteCells]
theorem byteCells_len (l : List UInt8) : (Lib.byteCells l).length = l.length := by simp [Lib.byteCells]
def QAt (l : List UInt8) (i : Nat) (acc : List UInt8) : Prop :=
  1 ≤ i ∧ acc.length ≤ i ∧ Lx.quoteL (l.drop 1) = (Lx.quoteL (l.drop i)).map fun x => (acc ++ x.1, x.2 + (i - 1))
theorem QAt.start (l : List UInt8) : QAt l 1 [] := ⟨by omega, by simp, by
  cases Lx.quoteL (l.drop 1) with
  | none => rfl
  | some x => rfl⟩
theorem QAt.plain {l : List UInt8} {i : Nat} {acc : List UInt8} (h : QAt l i acc) (hi : i < l.length) (hc : l[i].toNat ≠ 39) : QAt l (i + 1) (acc ++ [l[i]]) := by
  obtain ⟨h1, h2, h3⟩ := h
  refine ⟨by omega, by simp; omega, ?_⟩
  rw [h3, List.drop_eq_getElem_cons hi]
  rw [show Lx.quoteL (l[i] :: l.drop (i + 1)) = (Lx.quoteL (l.drop (i + 1))).map fun x => (l[i] :: x.1, x.2 + 1) from by
    cases l.drop (i + 1) <;> simp only [Lx.quoteL, if_neg hc]]
  cases Lx.quoteL (l.drop (i + 1)) with
  | none => simp
  | some x => simp; omega
theorem QAt.twice {l : List UInt8} {i : Nat} {acc : List UInt8} (h : QAt l i acc) (hi : i + 1 < l.length) (hc : l[i].toNat = 39) (hd : l[i + 1].toNat = 39) : QAt l (i + 1 + 1) (acc ++ [39]) := by
  obtain ⟨h1, h2, h3⟩ := h
  refine ⟨by omega, by simp; omega, ?_⟩
  rw [h3, List.drop_eq_getElem_cons (by omega : i < l.length), List.drop_eq_getElem_cons hi]
  simp only [Lx.quoteL, if_pos hc, if_pos hd]
  cases Lx.quoteL (l.drop (i + 1 + 1)) with
  | none => simp
  | some x => simp; omega
theorem QAt.shut {l : List UInt8} {i : Nat} {acc : List UInt8} (h : QAt l i acc) (hi : i < l.length) (hc : l[i].toNat = 39) (hd : ∀ h : i + 1 < l.length, l[i + 1].toNat ≠ 39) : Lx.textL (l.drop 1) = some (⟨3, acc, 0⟩, i + 1) := by
  obtain ⟨h1, h2, h3⟩ := h
  unfold Lx.textL
  rw [h3, List.drop_eq_getElem_cons hi]
  by_cases hn : i + 1 < l.length
  · rw [List.drop_eq_getElem_cons hn]
    simp only [Lx.quoteL, if_pos hc, if_neg (hd hn)]
    simp; omega
  · rw [List.drop_eq_nil_of_le (by omega)]
    simp only [Lx.quoteL, if_pos hc]
    simp; omega
theorem QAt.open_ {l : List UInt8} {i : Nat} {acc : List UInt8} (h : QAt l i acc) (hi : l.length ≤ i) : Lx.textL (l.drop 1) = none := by
  obtain ⟨h1, h2, h3⟩ := h
  unfold Lx.textL
  rw [h3, List.drop_eq_nil_of_le hi]
  rfl
set_option maxHeartbeats 1000000 in
set_option maxRecDepth 100000 in
theorem quoted_any (s : ByteArray) (w : World) (hs : s.size ≤ 4096) :
    Calls Tryz.prog 62 #[.string s] w fun e w' => e = .returned (tokRes (Lx.textL (s.data.toList.drop 1))) ∧ Below w.heap.size w w' := by
  generalize hr : Lx.textL (s.data.toList.drop 1) = r
  have Hr := hid hr; clear hr
  go_enter Tryz.func62, Tryz.ntmps62
  go_wp2_with fail
  go_loopw [6] (fun i wr => ∃ (k : Nat) (acc : List UInt8), i = .int .i64 k ∧ Hid (QAt s.data.toList k acc) ∧ k ≤ s.size + 1 ∧ Lib.IsBuilder 114 5 (w.heap.size + 1) (w.heap.size + 1) (Lib.byteCells acc) wr ∧ wr.heap[w.heap.size]? = some (.cells noCells 66 (0, 0)) ∧ Below w.heap.size w wr ∧ w.heap.size + 1 ≤ wr.heap.size) (fun i _ => s.size + 1 - (intOf i).toNat)
  case atStart =>
    refine ⟨1, [], rfl, QAt.start _, by omega, ?_, ?_, ((Below.refl _ _).alloc (Nat.le_refl _) _).alloc (by simp) _, by simp⟩
    · have := bld_fresh (w.alloc (.cells noCells 66)) (w.heap.size + 1) (by simp)
      rw [World.size_alloc] at this
      exact this
    · exact (Below.heap_alloc (w.alloc (.cells noCells 66)) _ w.heap.size (by rw [World.size_alloc]; omega)).trans (heap_new w _)
  case round =>
    obtain ⟨k, acc, rfl, hq, hks, hbld, hblk, hbel, hsz⟩ := hrel
    have hq1 := hq.out.1
    have hq2 := hq.out.2.1
    by_cases hlt : k < s.size
    · have hl : k < s.data.toList.length := by simpa using hlt
      by_cases hc : s[k].toNat = 39
      · by_cases hd : ∃ h : k + 1 < s.size, s[k + 1].toNat = 39
        · obtain ⟨hlt2, hd⟩ := hd
          have hq' := hid (QAt.twice hq.out (by simpa using hlt2) hc hd)
          have t1 : ((s[k].toNat : Int) != 39) = false := by simp [hc]
          have t2 : ((s[k + 1].toNat : Int) == 39) = true := by simp [hd]
          have Hc := hid hc; clear hc
          have Hd := hid hd; clear hd
          go_wp2_with (first | (go_at_call 83; refine (writeByte_any (w.heap.size + 1) (w.heap.size + 1) (Lib.byteCells acc) 39 _ hbld (by rw [byteCells_len]; omega) hsz).mono ?_; rintro e w' ⟨rfl, hbld', hbel'⟩))
          go_roundw
          case rel => exact ⟨k + 1 + 1, acc ++ [39], by go_num, hq', by omega, by rw [byteCells_snoc]; exact hbld', (hbel'.block _ (by omega)).trans hblk, hbel.trans (hbel'.mono (by omega)), Nat.le_trans hsz hbel'.size⟩
          case measure => simp [intOf]; omega
        · have hsh := QAt.shut hq.out hl hc (fun h h' => hd ⟨by simpa using h, h'⟩)
          have t1 : ((s[k].toNat : Int) != 39) = false := by simp [hc]
          have Hc := hid hc; clear hc
          rw [hsh] at Hr
          by_cases hlt2 : k + 1 < s.size
          · have t2 : ((s[k + 1].toNat : Int) == 39) = false := by
              rw [beq_eq_false_iff_ne]; intro h; exact hd ⟨hlt2, by omega⟩
            clear hd hsh
            go_wp2_with (first | (go_at_call 84; refine (Tryz.Builder_String_any (w.heap.size + 1) (w.heap.size + 1) acc _ hbld hsz).mono ?_; rintro e w' ⟨rfl, hbel'⟩; have hblk' := (hbel'.block _ (by omega)).trans hblk; obtain ⟨c0, c1, c2, c3, hf⟩ := blk4 hblk'))
            rw [← Hr.out]
            refine bodyPost_ret (v := tokRes (some (⟨3, acc, 0⟩, k + 1))) (by simp [results, Tryz.results62, go_sem, tokRes, tkCells, c0, c1, c2, c3]) rfl ⟨rfl, ?_⟩
            repeat (first | exact hbel.trans (hbel'.mono (by omega)) | refine below_at ?_ (Nat.le_refl _))
          · clear hd hsh
            go_wp2_with (first | (go_at_call 84; refine (Tryz.Builder_String_any (w.heap.size + 1) (w.heap.size + 1) acc _ hbld hsz).mono ?_; rintro e w' ⟨rfl, hbel'⟩; have hblk' := (hbel'.block _ (by omega)).trans hblk; obtain ⟨c0, c1, c2, c3, hf⟩ := blk4 hblk'))
            rw [← Hr.out]
            refine bodyPost_ret (v := tokRes (some (⟨3, acc, 0⟩, k + 1))) (by simp [results, Tryz.results62, go_sem, tokRes, tkCells, c0, c1, c2, c3]) rfl ⟨rfl, ?_⟩
            repeat (first | exact hbel.trans (hbel'.mono (by omega)) | refine below_at ?_ (Nat.le_refl _))
      · have hq' := hid (QAt.plain hq.out hl hc)
        have t1 : ((s[k].toNat : Int) != 39) = true := by rw [bne_iff_ne]; intro h; exact hc (by omega)
        have h255 : (s[k].toNat : Int) < 256 := by have := s[k].toNat_lt; omega
        clear hc
        go_wp2_with (first | (go_at_call 83; refine (writeByte_any (w.heap.size + 1) (w.heap.size + 1) (Lib.byteCells acc) _ _ hbld (by rw [byteCells_len]; omega) hsz).mono ?_; rintro e w' ⟨rfl, hbld', hbel'⟩))
        go_roundw
        case rel => exact ⟨k + 1, acc ++ [s[k]], by go_num, hq', by omega, by rw [byteCells_snoc]; exact hbld', (hbel'.block _ (by omega)).trans hblk, hbel.trans (hbel'.mono (by omega)), Nat.le_trans hsz hbel'.size⟩
        case measure => simp [intOf]; omega
    · have hop := QAt.open_ hq.out (by simpa using hlt : s.data.toList.length ≤ k)
      rw [hop] at Hr
      clear hop
      obtain ⟨c0, c1, c2, c3, hf⟩ := blk4 hblk
      go_wp2
      rw [← Hr.out]
      refine bodyPost_ret (v := tokRes none) (by simp [results, Tryz.results62, go_sem, tokRes, noCells, c0, c1, c2, c3]) rfl ⟨rfl, ?_⟩
      repeat (first | exact hbel | refine below_at ?_ (Nat.le_refl _))
end Go.Proofs.YtbeinfhgfflneaaGreat
end
section
namespace Go.Proofs.YtbeinfhgfflneaaGreat
open Go.RowKit
set_option linter.unusedVariables false
theorem sg2 (c d : UInt8) (l : List UInt8) (h : Lib.hasPrefix l [c, d] = true) (ht : Lx.twoSign c d = true) : Lx.signL l = some (⟨4, [c, d], 0⟩, 2) := by
  match l, h with
  | [], h => simp [Lib.hasPrefix] at h
  | [a], h => simp [Lib.hasPrefix] at h
  | a :: b :: r, h =>
    simp [Lib.hasPrefix] at h
    obtain ⟨rfl, rfl⟩ := h
    simp [Lx.signL, ht]
theorem two_pre (a b : UInt8) (r : List UInt8) (h1 : Lib.hasPrefix (a :: b :: r) [60, 62] = false) (h2 : Lib.hasPrefix (a :: b :: r) [60, 61] = false) (h3 : Lib.hasPrefix (a :: b :: r) [62, 61] = false) (h4 : Lib.hasPrefix (a :: b :: r) [124, 124] = false) : Lx.twoSign a b = false := by
  have e : ∀ (x : UInt8) (n : Nat) (_ : n < 256), (x.toNat == n) = (UInt8.ofNat n == x) := by
    intro x n hn
    rw [Bool.eq_iff_iff, beq_iff_eq, beq_iff_eq]
    constructor
    · intro h; rw [← h]; simp
    · intro h; rw [← h]; simp; omega
  simp only [Lib.hasPrefix, List.isPrefixOf, Bool.and_true] at h1 h2 h3 h4
  unfold Lx.twoSign
  rw [e a 60 (by omega), e b 62 (by omega), e b 61 (by omega), e a 62 (by omega), e a 124 (by omega), e b 124 (by omega)]
  show ((((60 : UInt8) == a) && ((62 : UInt8) == b)) || (((60 : UInt8) == a) && ((61 : UInt8) == b)) || (((62 : UInt8) == a) && ((61 : UInt8) == b)) || (((124 : UInt8) == a) && ((124 : UInt8) == b))) = false
  rw [h1, h2, h3, h4]; rfl
theorem idx_neg (l : List UInt8) (c : UInt8) : Lib.indexByte l c < 0 ↔ ¬ c ∈ l := by
  induction l with
  | nil => simp [Lib.indexByte]
  | cons b r ih =>
    simp only [Lib.indexByte]
    have hge : -1 ≤ Lib.indexByte r c := by
      clear ih
      induction r with
      | nil => simp [Lib.indexByte]
      | cons b r ih => simp only [Lib.indexByte]; split <;> (try split) <;> simp_all <;> omega
    by_cases hb : (b == c) = true
    · simp at hb; subst hb; simp
    · rw [if_neg hb]
      have hne : c ≠ b := by intro h; subst h; simp at hb
      split
      · rename_i h; simp at h; simp [hne]; rw [← ih]; omega
      · rename_i h; simp at h; simp [hne]; rw [← ih]; omega
theorem one_idx (c : UInt8) : Lx.oneSign c = !decide (Lib.indexByte [40, 41, 44, 46, 42, 43, 45, 47, 37, 61, 60, 62, 59] c < 0) := by
  rw [Bool.eq_iff_iff]
  simp only [Bool.not_eq_true', decide_eq_false_iff_not, idx_neg, Classical.not_not]
  have : ∀ (n : Nat) (_ : n < 256), c.toNat = n ↔ c = UInt8.ofNat n := by
    intro n hn
    constructor
    · intro h; rw [← h]; simp
    · intro h; rw [h]; simp; omega
  simp only [Lx.oneSign, List.contains_eq_mem, decide_eq_true_eq, List.mem_cons, List.not_mem_nil, or_false]
  rw [this 40 (by omega), this 41 (by omega), this 44 (by omega), this 46 (by omega), this 42 (by omega), this 43 (by omega), this 45 (by omega), this 47 (by omega), this 37 (by omega), this 61 (by omega), this 60 (by omega), this 62 (by omega), this 59 (by omega)]
  exact Iff.rfl
theorem sg1 (c : UInt8) (r : List UInt8) (h1 : Lib.hasPrefix (c :: r) [60, 62] = false) (h2 : Lib.hasPrefix (c :: r) [60, 61] = false) (h3 : Lib.hasPrefix (c :: r) [62, 61] = false) (h4 : Lib.hasPrefix (c :: r) [124, 124] = false) :
    Lx.signL (c :: r) = if Lib.indexByte [40, 41, 44, 46, 42, 43, 45, 47, 37, 61, 60, 62, 59] c < 0 then none else some (⟨4, [c], 0⟩, 1) := by
  have ho := one_idx c
  match r, h1, h2, h3, h4 with
  | [], _, _, _, _ =>
    simp only [Lx.signL, ho]
    by_cases h : Lib.indexByte [40, 41, 44, 46, 42, 43, 45, 47, 37, 61, 60, 62, 59] c < 0 <;> simp only [h, decide_true, decide_false, Bool.not_true, Bool.not_false, if_true, if_false, Bool.false_eq_true]
  | b :: r, h1, h2, h3, h4 =>
    simp only [Lx.signL, ho, two_pre c b r h1 h2 h3 h4]
    by_cases h : Lib.indexByte [40, 41, 44, 46, 42, 43, 45, 47, 37, 61, 60, 62, 59] c < 0 <;> simp only [h, decide_true, decide_false, Bool.not_true, Bool.not_false, if_true, if_false, Bool.false_eq_true]
set_option maxHeartbeats 1000000 in
set_option maxRecDepth 100000 in
theorem sign_0 (s : ByteArray) (w : World) (h0 : 0 < s.size) (h1 : Lib.hasPrefix s.data.toList [60, 62] = true) :
    Calls Tryz.prog 63 #[.string s] w fun e w' => e = .returned (tokRes (some (⟨4, [60, 62], 0⟩, 2))) ∧ Below w.heap.size w w' := by
  have i0 : ∀ w, (Instr.index 119 (.agg #[.string ⟨#[60, 62]⟩, .string ⟨#[60, 61]⟩, .string ⟨#[62, 61]⟩, .string ⟨#[124, 124]⟩]) (.int .i64 0)).run Tryz.prog w = .ok (.string ⟨#[60, 62]⟩) w := fun _ => by kernel_rfl
  have i1 : ∀ w, (Instr.index 119 (.agg #[.string ⟨#[60, 62]⟩, .string ⟨#[60, 61]⟩, .string ⟨#[62, 61]⟩, .string ⟨#[124, 124]⟩]) (.int .i64 1)).run Tryz.prog w = .ok (.string ⟨#[60, 61]⟩) w := fun _ => by kernel_rfl
  have i2 : ∀ w, (Instr.index 119 (.agg #[.string ⟨#[60, 62]⟩, .string ⟨#[60, 61]⟩, .string ⟨#[62, 61]⟩, .string ⟨#[124, 124]⟩]) (.int .i64 2)).run Tryz.prog w = .ok (.string ⟨#[62, 61]⟩) w := fun _ => by kernel_rfl
  have i3 : ∀ w, (Instr.index 119 (.agg #[.string ⟨#[60, 62]⟩, .string ⟨#[60, 61]⟩, .string ⟨#[62, 61]⟩, .string ⟨#[124, 124]⟩]) (.int .i64 3)).run Tryz.prog w = .ok (.string ⟨#[124, 124]⟩) w := fun _ => by kernel_rfl
  go_enter Tryz.func63, Tryz.ntmps63
  go_wp2_with fail
  refine wp_loop_rounds 5 ?_
  rw [rounds_succ]
  go_wp2_with (first | (go_at_call 55; refine (Tryz.strings_HasPrefix _ _ _).mono ?_; rintro e w' ⟨rfl, rfl⟩) | (go_at_call 85; refine (Tryz.strings_IndexByte _ _ _).mono ?_; rintro e w' ⟨rfl, rfl⟩))
  refine bodyPost_ret (v := tokRes (some (⟨4, [60, 62], 0⟩, 2))) (by simp [results, Tryz.results63, go_sem, tokRes, tkCells]) rfl ⟨rfl, ?_⟩
  exact (Below.refl _ _).alloc (Nat.le_refl _) _
set_option maxHeartbeats 1000000 in
set_option maxRecDepth 100000 in
theorem sign_1 (s : ByteArray) (w : World) (h0 : 0 < s.size) (h1 : Lib.hasPrefix s.data.toList [60, 62] = false) (h2 : Lib.hasPrefix s.data.toList [60, 61] = true) :
    Calls Tryz.prog 63 #[.string s] w fun e w' => e = .returned (tokRes (some (⟨4, [60, 61], 0⟩, 2))) ∧ Below w.heap.size w w' := by
  have i0 : ∀ w, (Instr.index 119 (.agg #[.string ⟨#[60, 62]⟩, .string ⟨#[60, 61]⟩, .string ⟨#[62, 61]⟩, .string ⟨#[124, 124]⟩]) (.int .i64 0)).run Tryz.prog w = .ok (.string ⟨#[60, 62]⟩) w := fun _ => by kernel_rfl
  have i1 : ∀ w, (Instr.index 119 (.agg #[.string ⟨#[60, 62]⟩, .string ⟨#[60, 61]⟩, .string ⟨#[62, 61]⟩, .string ⟨#[124, 124]⟩]) (.int .i64 1)).run Tryz.prog w = .ok (.string ⟨#[60, 61]⟩) w := fun _ => by kernel_rfl
  have i2 : ∀ w, (Instr.index 119 (.agg #[.string ⟨#[60, 62]⟩, .string ⟨#[60, 61]⟩, .string ⟨#[62, 61]⟩, .string ⟨#[124, 124]⟩]) (.int .i64 2)).run Tryz.prog w = .ok (.string ⟨#[62, 61]⟩) w := fun _ => by kernel_rfl
  have i3 : ∀ w, (Instr.index 119 (.agg #[.string ⟨#[60, 62]⟩, .string ⟨#[60, 61]⟩, .string ⟨#[62, 61]⟩, .string ⟨#[124, 124]⟩]) (.int .i64 3)).run Tryz.prog w = .ok (.string ⟨#[124, 124]⟩) w := fun _ => by kernel_rfl
  go_enter Tryz.func63, Tryz.ntmps63
  go_wp2_with fail
  refine wp_loop_rounds 5 ?_
  rw [rounds_succ]
  go_wp2_with (first | (go_at_call 55; refine (Tryz.strings_HasPrefix _ _ _).mono ?_; rintro e w' ⟨rfl, rfl⟩) | (go_at_call 85; refine (Tryz.strings_IndexByte _ _ _).mono ?_; rintro e w' ⟨rfl, rfl⟩))
  rw [rounds_succ]
  go_wp2_with (first | (go_at_call 55; refine (Tryz.strings_HasPrefix _ _ _).mono ?_; rintro e w' ⟨rfl, rfl⟩) | (go_at_call 85; refine (Tryz.strings_IndexByte _ _ _).mono ?_; rintro e w' ⟨rfl, rfl⟩))
  refine bodyPost_ret (v := tokRes (some (⟨4, [60, 61], 0⟩, 2))) (by simp [results, Tryz.results63, go_sem, tokRes, tkCells]) rfl ⟨rfl, ?_⟩
  exact (Below.refl _ _).alloc (Nat.le_refl _) _
set_option maxHeartbeats 1000000 in
set_option maxRecDepth 100000 in
theorem sign_2 (s : ByteArray) (w : World) (h0 : 0 < s.size) (h1 : Lib.hasPrefix s.data.toList [60, 62] = false) (h2 : Lib.hasPrefix s.data.toList [60, 61] = false) (h3 : Lib.hasPrefix s.data.toList [62, 61] = true) :
    Calls Tryz.prog 63 #[.string s] w fun e w' => e = .returned (tokRes (some (⟨4, [62, 61], 0⟩, 2))) ∧ Below w.heap.size w w' := by
  have i0 : ∀ w, (Instr.index 119 (.agg #[.string ⟨#[60, 62]⟩, .string ⟨#[60, 61]⟩, .string ⟨#[62, 61]⟩, .string ⟨#[124, 124]⟩]) (.int .i64 0)).run Tryz.prog w = .ok (.string ⟨#[60, 62]⟩) w := fun _ => by kernel_rfl
  have i1 : ∀ w, (Instr.index 119 (.agg #[.string ⟨#[60, 62]⟩, .string ⟨#[60, 61]⟩, .string ⟨#[62, 61]⟩, .string ⟨#[124, 124]⟩]) (.int .i64 1)).run Tryz.prog w = .ok (.string ⟨#[60, 61]⟩) w := fun _ => by kernel_rfl
  have i2 : ∀ w, (Instr.index 119 (.agg #[.string ⟨#[60, 62]⟩, .string ⟨#[60, 61]⟩, .string ⟨#[62, 61]⟩, .string ⟨#[124, 124]⟩]) (.int .i64 2)).run Tryz.prog w = .ok (.string ⟨#[62, 61]⟩) w := fun _ => by kernel_rfl
  have i3 : ∀ w, (Instr.index 119 (.agg #[.string ⟨#[60, 62]⟩, .string ⟨#[60, 61]⟩, .string ⟨#[62, 61]⟩, .string ⟨#[124, 124]⟩]) (.int .i64 3)).run Tryz.prog w = .ok (.string ⟨#[124, 124]⟩) w := fun _ => by kernel_rfl
  go_enter Tryz.func63, Tryz.ntmps63
  go_wp2_with fail
  refine wp_loop_rounds 5 ?_
  rw [rounds_succ]
  go_wp2_with (first | (go_at_call 55; refine (Tryz.strings_HasPrefix _ _ _).mono ?_; rintro e w' ⟨rfl, rfl⟩) | (go_at_call 85; refine (Tryz.strings_IndexByte _ _ _).mono ?_; rintro e w' ⟨rfl, rfl⟩))
  rw [rounds_succ]
  go_wp2_with (first | (go_at_call 55; refine (Tryz.strings_HasPrefix _ _ _).mono ?_; rintro e w' ⟨rfl, rfl⟩) | (go_at_call 85; refine (Tryz.strings_IndexByte _ _ _).mono ?_; rintro e w' ⟨rfl, rfl⟩))
  rw [rounds_succ]
  go_wp2_with (first | (go_at_call 55; refine (Tryz.strings_HasPrefix _ _ _).mono ?_; rintro e w' ⟨rfl, rfl⟩) | (go_at_call 85; refine (Tryz.strings_IndexByte _ _ _).mono ?_; rintro e w' ⟨rfl, rfl⟩))
  refine bodyPost_ret (v := tokRes (some (⟨4, [62, 61], 0⟩, 2))) (by simp [results, Tryz.results63, go_sem, tokRes, tkCells]) rfl ⟨rfl, ?_⟩
  exact (Below.refl _ _).alloc (Nat.le_refl _) _
set_option maxHeartbeats 1000000 in
set_option maxRecDepth 100000 in
theorem sign_3 (s : ByteArray) (w : World) (h0 : 0 < s.size) (h1 : Lib.hasPrefix s.data.toList [60, 62] = false) (h2 : Lib.hasPrefix s.data.toList [60, 61] = false) (h3 : Lib.hasPrefix s.data.toList [62, 61] = false) (h4 : Lib.hasPrefix s.data.toList [124, 124] = true) :
    Calls Tryz.prog 63 #[.string s] w fun e w' => e = .returned (tokRes (some (⟨4, [124, 124], 0⟩, 2))) ∧ Below w.heap.size w w' := by
  have i0 : ∀ w, (Instr.index 119 (.agg #[.string ⟨#[60, 62]⟩, .string ⟨#[60, 61]⟩, .string ⟨#[62, 61]⟩, .string ⟨#[124, 124]⟩]) (.int .i64 0)).run Tryz.prog w = .ok (.string ⟨#[60, 62]⟩) w := fun _ => by kernel_rfl
  have i1 : ∀ w, (Instr.index 119 (.agg #[.string ⟨#[60, 62]⟩, .string ⟨#[60, 61]⟩, .string ⟨#[62, 61]⟩, .string ⟨#[124, 124]⟩]) (.int .i64 1)).run Tryz.prog w = .ok (.string ⟨#[60, 61]⟩) w := fun _ => by kernel_rfl
  have i2 : ∀ w, (Instr.index 119 (.agg #[.string ⟨#[60, 62]⟩, .string ⟨#[60, 61]⟩, .string ⟨#[62, 61]⟩, .string ⟨#[124, 124]⟩]) (.int .i64 2)).run Tryz.prog w = .ok (.string ⟨#[62, 61]⟩) w := fun _ => by kernel_rfl
  have i3 : ∀ w, (Instr.index 119 (.agg #[.string ⟨#[60, 62]⟩, .string ⟨#[60, 61]⟩, .string ⟨#[62, 61]⟩, .string ⟨#[124, 124]⟩]) (.int .i64 3)).run Tryz.prog w = .ok (.string ⟨#[124, 124]⟩) w := fun _ => by kernel_rfl
  go_enter Tryz.func63, Tryz.ntmps63
  go_wp2_with fail
  refine wp_loop_rounds 5 ?_
  rw [rounds_succ]
  go_wp2_with (first | (go_at_call 55; refine (Tryz.strings_HasPrefix _ _ _).mono ?_; rintro e w' ⟨rfl, rfl⟩) | (go_at_call 85; refine (Tryz.strings_IndexByte _ _ _).mono ?_; rintro e w' ⟨rfl, rfl⟩))
  rw [rounds_succ]
  go_wp2_with (first | (go_at_call 55; refine (Tryz.strings_HasPrefix _ _ _).mono ?_; rintro e w' ⟨rfl, rfl⟩) | (go_at_call 85; refine (Tryz.strings_IndexByte _ _ _).mono ?_; rintro e w' ⟨rfl, rfl⟩))
  rw [rounds_succ]
  go_wp2_with (first | (go_at_call 55; refine (Tryz.strings_HasPrefix _ _ _).mono ?_; rintro e w' ⟨rfl, rfl⟩) | (go_at_call 85; refine (Tryz.strings_IndexByte _ _ _).mono ?_; rintro e w' ⟨rfl, rfl⟩))
  rw [rounds_succ]
  go_wp2_with (first | (go_at_call 55; refine (Tryz.strings_HasPrefix _ _ _).mono ?_; rintro e w' ⟨rfl, rfl⟩) | (go_at_call 85; refine (Tryz.strings_IndexByte _ _ _).mono ?_; rintro e w' ⟨rfl, rfl⟩))
  refine bodyPost_ret (v := tokRes (some (⟨4, [124, 124], 0⟩, 2))) (by simp [results, Tryz.results63, go_sem, tokRes, tkCells]) rfl ⟨rfl, ?_⟩
  exact (Below.refl _ _).alloc (Nat.le_refl _) _
set_option maxHeartbeats 1000000 in
set_option maxRecDepth 100000 in
theorem sign_no (s : ByteArray) (w : World) (h0 : 0 < s.size) (h1 : Lib.hasPrefix s.data.toList [60, 62] = false) (h2 : Lib.hasPrefix s.data.toList [60, 61] = false) (h3 : Lib.hasPrefix s.data.toList [62, 61] = false) (h4 : Lib.hasPrefix s.data.toList [124, 124] = false) (h5 : Lib.indexByte [40, 41, 44, 46, 42, 43, 45, 47, 37, 61, 60, 62, 59] s[0] < 0) :
    Calls Tryz.prog 63 #[.string s] w fun e w' => e = .returned (tokRes (none)) ∧ Below w.heap.size w w' := by
  have i0 : ∀ w, (Instr.index 119 (.agg #[.string ⟨#[60, 62]⟩, .string ⟨#[60, 61]⟩, .string ⟨#[62, 61]⟩, .string ⟨#[124, 124]⟩]) (.int .i64 0)).run Tryz.prog w = .ok (.string ⟨#[60, 62]⟩) w := fun _ => by kernel_rfl
  have i1 : ∀ w, (Instr.index 119 (.agg #[.string ⟨#[60, 62]⟩, .string ⟨#[60, 61]⟩, .string ⟨#[62, 61]⟩, .string ⟨#[124, 124]⟩]) (.int .i64 1)).run Tryz.prog w = .ok (.string ⟨#[60, 61]⟩) w := fun _ => by kernel_rfl
  have i2 : ∀ w, (Instr.index 119 (.agg #[.string ⟨#[60, 62]⟩, .string ⟨#[60, 61]⟩, .string ⟨#[62, 61]⟩, .string ⟨#[124, 124]⟩]) (.int .i64 2)).run Tryz.prog w = .ok (.string ⟨#[62, 61]⟩) w := fun _ => by kernel_rfl
  have i3 : ∀ w, (Instr.index 119 (.agg #[.string ⟨#[60, 62]⟩, .string ⟨#[60, 61]⟩, .string ⟨#[62, 61]⟩, .string ⟨#[124, 124]⟩]) (.int .i64 3)).run Tryz.prog w = .ok (.string ⟨#[124, 124]⟩) w := fun _ => by kernel_rfl
  have hb : (s[0].toNat : Int).toNat.toUInt8 = s[0] := by simp
  go_enter Tryz.func63, Tryz.ntmps63
  go_wp2_with fail
  refine wp_loop_rounds 5 ?_
  rw [rounds_succ]
  go_wp2_with (first | (go_at_call 55; refine (Tryz.strings_HasPrefix _ _ _).mono ?_; rintro e w' ⟨rfl, rfl⟩) | (go_at_call 85; refine (Tryz.strings_IndexByte _ _ _).mono ?_; rintro e w' ⟨rfl, rfl⟩))
  rw [rounds_succ]
  go_wp2_with (first | (go_at_call 55; refine (Tryz.strings_HasPrefix _ _ _).mono ?_; rintro e w' ⟨rfl, rfl⟩) | (go_at_call 85; refine (Tryz.strings_IndexByte _ _ _).mono ?_; rintro e w' ⟨rfl, rfl⟩))
  rw [rounds_succ]
  go_wp2_with (first | (go_at_call 55; refine (Tryz.strings_HasPrefix _ _ _).mono ?_; rintro e w' ⟨rfl, rfl⟩) | (go_at_call 85; refine (Tryz.strings_IndexByte _ _ _).mono ?_; rintro e w' ⟨rfl, rfl⟩))
  rw [rounds_succ]
  go_wp2_with (first | (go_at_call 55; refine (Tryz.strings_HasPrefix _ _ _).mono ?_; rintro e w' ⟨rfl, rfl⟩) | (go_at_call 85; refine (Tryz.strings_IndexByte _ _ _).mono ?_; rintro e w' ⟨rfl, rfl⟩))
  rw [rounds_succ]
  go_wp2_with (first | (go_at_call 55; refine (Tryz.strings_HasPrefix _ _ _).mono ?_; rintro e w' ⟨rfl, rfl⟩) | (go_at_call 85; refine (Tryz.strings_IndexByte _ _ _).mono ?_; rintro e w' ⟨rfl, rfl⟩))
  refine bodyPost_ret (v := tokRes none) (by simp [results, Tryz.results63, go_sem, tokRes, noCells]) rfl ⟨rfl, ?_⟩
  exact (Below.refl _ _).alloc (Nat.le_refl _) _
set_option maxHeartbeats 1000000 in
set_option maxRecDepth 100000 in
theorem sign_yes (s : ByteArray) (w : World) (h0 : 0 < s.size) (h1 : Lib.hasPrefix s.data.toList [60, 62] = false) (h2 : Lib.hasPrefix s.data.toList [60, 61] = false) (h3 : Lib.hasPrefix s.data.toList [62, 61] = false) (h4 : Lib.hasPrefix s.data.toList [124, 124] = false) (h5 : ¬ Lib.indexByte [40, 41, 44, 46, 42, 43, 45, 47, 37, 61, 60, 62, 59] s[0] < 0) :
    Calls Tryz.prog 63 #[.string s] w fun e w' => e = .returned (tokRes (some (⟨4, [s[0]], 0⟩, 1))) ∧ Below w.heap.size w w' := by
  have i0 : ∀ w, (Instr.index 119 (.agg #[.string ⟨#[60, 62]⟩, .string ⟨#[60, 61]⟩, .string ⟨#[62, 61]⟩, .string ⟨#[124, 124]⟩]) (.int .i64 0)).run Tryz.prog w = .ok (.string ⟨#[60, 62]⟩) w := fun _ => by kernel_rfl
  have i1 : ∀ w, (Instr.index 119 (.agg #[.string ⟨#[60, 62]⟩, .string ⟨#[60, 61]⟩, .string ⟨#[62, 61]⟩, .string ⟨#[124, 124]⟩]) (.int .i64 1)).run Tryz.prog w = .ok (.string ⟨#[60, 61]⟩) w := fun _ => by kernel_rfl
  have i2 : ∀ w, (Instr.index 119 (.agg #[.string ⟨#[60, 62]⟩, .string ⟨#[60, 61]⟩, .string ⟨#[62, 61]⟩, .string ⟨#[124, 124]⟩]) (.int .i64 2)).run Tryz.prog w = .ok (.string ⟨#[62, 61]⟩) w := fun _ => by kernel_rfl
  have i3 : ∀ w, (Instr.index 119 (.agg #[.string ⟨#[60, 62]⟩, .string ⟨#[60, 61]⟩, .string ⟨#[62, 61]⟩, .string ⟨#[124, 124]⟩]) (.int .i64 3)).run Tryz.prog w = .ok (.string ⟨#[124, 124]⟩) w := fun _ => by kernel_rfl
  have hb : (s[0].toNat : Int).toNat.toUInt8 = s[0] := by simp
  go_enter Tryz.func63, Tryz.ntmps63
  go_wp2_with fail
  refine wp_loop_rounds 5 ?_
  rw [rounds_succ]
  go_wp2_with (first | (go_at_call 55; refine (Tryz.strings_HasPrefix _ _ _).mono ?_; rintro e w' ⟨rfl, rfl⟩) | (go_at_call 85; refine (Tryz.strings_IndexByte _ _ _).mono ?_; rintro e w' ⟨rfl, rfl⟩))
  rw [rounds_succ]
  go_wp2_with (first | (go_at_call 55; refine (Tryz.strings_HasPrefix _ _ _).mono ?_; rintro e w' ⟨rfl, rfl⟩) | (go_at_call 85; refine (Tryz.strings_IndexByte _ _ _).mono ?_; rintro e w' ⟨rfl, rfl⟩))
  rw [rounds_succ]
  go_wp2_with (first | (go_at_call 55; refine (Tryz.strings_HasPrefix _ _ _).mono ?_; rintro e w' ⟨rfl, rfl⟩) | (go_at_call 85; refine (Tryz.strings_IndexByte _ _ _).mono ?_; rintro e w' ⟨rfl, rfl⟩))
  rw [rounds_succ]
  go_wp2_with (first | (go_at_call 55; refine (Tryz.strings_HasPrefix _ _ _).mono ?_; rintro e w' ⟨rfl, rfl⟩) | (go_at_call 85; refine (Tryz.strings_IndexByte _ _ _).mono ?_; rintro e w' ⟨rfl, rfl⟩))
  rw [rounds_succ]
  go_wp2_with (first | (go_at_call 55; refine (Tryz.strings_HasPrefix _ _ _).mono ?_; rintro e w' ⟨rfl, rfl⟩) | (go_at_call 85; refine (Tryz.strings_IndexByte _ _ _).mono ?_; rintro e w' ⟨rfl, rfl⟩))
  have he : s.extract 0 1 = ⟨[s[0]].toArray⟩ := by
    apply ByteArray.ext
    apply Array.ext'
    rw [Lib.extract_data]
    have hl : 0 < s.data.toList.length := by simpa using h0
    rw [List.drop_zero, List.take_succ_eq_append_getElem hl]
    rfl
  refine bodyPost_ret (v := tokRes (some (⟨4, [s[0]], 0⟩, 1))) (by simp [results, Tryz.results63, go_sem, tokRes, tkCells, he]) rfl ⟨rfl, ?_⟩
  exact (Below.refl _ _).alloc (Nat.le_refl _) _
theorem sign_any (s : ByteArray) (w : World) (h0 : 0 < s.size) :
    Calls Tryz.prog 63 #[.string s] w fun e w' => e = .returned (tokRes (Lx.signL s.data.toList)) ∧ Below w.heap.size w w' := by
  cases h1 : Lib.hasPrefix s.data.toList [60, 62] with
  | true => rw [sg2 _ _ _ h1 (by decide)]; exact sign_0 s w h0 h1
  | false =>
  cases h2 : Lib.hasPrefix s.data.toList [60, 61] with
  | true => rw [sg2 _ _ _ h2 (by decide)]; exact sign_1 s w h0 h1 h2
  | false =>
  cases h3 : Lib.hasPrefix s.data.toList [62, 61] with
  | true => rw [sg2 _ _ _ h3 (by decide)]; exact sign_2 s w h0 h1 h2 h3
  | false =>
  cases h4 : Lib.hasPrefix s.data.toList [124, 124] with
  | true => rw [sg2 _ _ _ h4 (by decide)]; exact sign_3 s w h0 h1 h2 h3 h4
  | false =>
    have hl : 0 < s.data.toList.length := by simpa using h0
    have hs : s.data.toList = s[0] :: s.data.toList.drop 1 := (List.drop_eq_getElem_cons hl)
    have h5 : Lx.signL s.data.toList = if Lib.indexByte [40, 41, 44, 46, 42, 43, 45, 47, 37, 61, 60, 62, 59] s[0] < 0 then none else some (⟨4, [s[0]], 0⟩, 1) := by
      rw [hs] at h1 h2 h3 h4 ⊢
      exact sg1 _ _ h1 h2 h3 h4
    rw [h5]
    split
    · exact sign_no s w h0 h1 h2 h3 h4 ‹_›
    · exact sign_yes s w h0 h1 h2 h3 h4 ‹_›
end Go.Proofs.YtbeinfhgfflneaaGreat
end
section
namespace Go.Proofs.YtbeinfhgfflneaaGreat
open Go
def Exit.jumps (J : Nat → Act → World → Prop) (Q : Exit → Act → World → Prop) : Exit → Act → World → Prop
  | .goto l, a, w => J l a w
  | e, a, w => Q e a w
section
variable {P : Program} {a : Act} {w : World} {Q : Exit → Act → World → Prop}
theorem scope_jumps {c : Code} (J : Nat → Act → World → Prop) (μ : Nat → Act → World → Nat)
    (first : c.wp P (Exit.jumps J Q) a w)
    (pass : ∀ l a w, J l a w → ∃ rest, findLabel c l = some rest ∧ rest.wp P (Exit.jumps (fun l' a' w' => J l' a' w' ∧ μ l' a' w' < μ l a w) Q) a w) : (Code.scope c).wp P Q a w := by
  intro b k cs
  have key : ∀ n l a w, μ l a w = n → J l a w → ∀ rest, findLabel c l = some rest → ∃ e a' w', Q e a' w' ∧ Arrives P (lone (b.at a (.code rest :: .inScope c :: k)) cs w) b k cs e a' w' := by
    intro n
    induction n using Nat.strongRecOn with
    | _ n ih =>
      intro l a w hn hJ rest hrest
      obtain ⟨rest', hf, hp⟩ := pass l a w hJ
      rw [hrest] at hf
      injection hf with hf
      subst hf
      obtain ⟨e, a₁, w₁, hq, harr⟩ := hp b (.inScope c :: k) cs
      cases e with
      | normal => exact ⟨.normal, a₁, w₁, hq, Steps.trans harr (.one step_inScope)⟩
      | exit id => exact ⟨.exit id, a₁, w₁, hq, fun k' hk => harr k' (by simp [exitTo, hk])⟩
      | goto l' =>
        obtain ⟨hJ', hlt⟩ := hq
        obtain ⟨r2, hf2, _⟩ := pass l' a₁ w₁ hJ'
        have hg : gotoIn l' (.inScope c :: k) = some (.code r2 :: .inScope c :: k) := by simp [gotoIn, hf2]
        obtain ⟨e₂, a₂, w₂, hq₂, harr₂⟩ := ih _ (by omega) l' a₁ w₁ rfl hJ' r2 hf2
        exact ⟨e₂, a₂, w₂, hq₂, .of_steps (harr _ hg) harr₂⟩
      | ret => exact ⟨_, a₁, w₁, hq, harr⟩
      | panic ch => exact ⟨_, a₁, w₁, hq, harr⟩
      | outgrown => exact ⟨_, a₁, w₁, hq, harr⟩
  obtain ⟨e, a₁, w₁, hq, harr⟩ := first b (.inScope c :: k) cs
  cases e with
  | normal => exact ⟨.normal, a₁, w₁, hq, .head step_scope (Steps.trans harr (.one step_inScope))⟩
  | exit id => exact ⟨.exit id, a₁, w₁, hq, fun k' hk => .head step_scope (harr k' (by simp [exitTo, hk]))⟩
  | goto l' =>
    have hJ' : J l' a₁ w₁ := hq
    obtain ⟨r2, hf2, _⟩ := pass l' a₁ w₁ hJ'
    have hg : gotoIn l' (.inScope c :: k) = some (.code r2 :: .inScope c :: k) := by simp [gotoIn, hf2]
    obtain ⟨e₂, a₂, w₂, hq₂, harr₂⟩ := key _ l' a₁ w₁ rfl hJ' r2 hf2
    exact ⟨e₂, a₂, w₂, hq₂, .of_steps (.head step_scope (harr _ hg)) harr₂⟩
  | ret => exact ⟨_, a₁, w₁, hq, .of_steps (.one step_scope) harr⟩
  | panic ch => exact ⟨_, a₁, w₁, hq, .of_steps (.one step_scope) harr⟩
  | outgrown => exact ⟨_, a₁, w₁, hq, .of_steps (.one step_scope) harr⟩
end
theorem frame_out (t : Array Value) (n : Nat) (h : t.size = n) : t = ((List.range n).map fun i => t.getD i undef).toArray := by
  apply Array.ext
  · simp [h]
  · intro i h1 h2
    simp [Array.getD, h1]
end Go.Proofs.YtbeinfhgfflneaaGreat
end
section
namespace Go.Proofs.YtbeinfhgfflneaaGreat
open Go.RowKit
set_option linter.unusedVariables false
def toksCells (l : List Lx.Tok) : List Value := l.flatMap fun t => (tkCells t.tk (t.pos : Int)).toList
theorem toksCells_snoc (l : List Lx.Tok) (t : Lx.Tok) : toksCells (l ++ [t]) = toksCells l ++ (tkCells t.tk (t.pos : Int)).toList := by simp [toksCells]
def LFrame (s : ByteArray) (g : Nat) (out : Value) (k : Nat) (f : Nat → Value) : Act := { tmps := #[.string s, f 1, f 2, f 3, f 4, out, .pointer (some ⟨g, 0, none⟩), f 7, .int .i64 (k : Int), f 9, f 10, f 11, f 12, f 13, f 14, f 15, f 16, f 17, f 18, f 19, f 20, f 21, f 22, f 23, f 24, f 25, f 26, f 27, f 28, f 29, f 30, f 31, f 32, f 33, f 34, f 35, f 36, f 37, f 38, f 39, f 40, f 41, f 42, f 43, f 44, f 45, f 46, f 47, f 48, f 49, f 50, f 51, f 52, f 53, f 54, f 55, f 56, f 57, f 58, f 59, f 60, f 61, f 62, f 63, f 64, f 65, f 66, f 67, f 68, f 69, f 70, f 71, f 72, f 73, f 74, f 75, f 76, f 77, f 78, f 79, f 80, f 81, f 82, f 83, f 84, f 85, f 86, f 87, f 88, f 89, f 90, f 91, f 92, f 93, f 94, f 95, f 96, f 97, f 98, f 99, f 100, f 101, f 102, f 103, f 104, f 105, f 106, f 107, f 108, f 109, f 110, f 111, f 112, f 113, f 114, f 115, f 116, f 117, f 118, f 119, f 120, f 121, f 122, f 123, f 124, f 125, f 126, f 127, f 128, f 129], defers := [] }
set_option maxRecDepth 100000 in
theorem LFrame_of {s : ByteArray} {g : Nat} {out : Value} {k : Nat} (a : Act) (hd : a.defers = []) (hs : a.tmps.size = 130) (h0 : a.tmps.getD 0 undef = .string s) (h5 : a.tmps.getD 5 undef = out)
    (h6 : a.tmps.getD 6 undef = .pointer (some ⟨g, 0, none⟩)) (h8 : a.tmps.getD 8 undef = .int .i64 (k : Int)) : a = LFrame s g out k (fun i => a.tmps.getD i undef) := by
  obtain ⟨t, d⟩ := a
  subst hd
  have h := frame_out t 130 hs
  unfold LFrame
  rw [← h0, ← h5, ← h6, ← h8]
  exact congrArg (fun t => Act.mk t []) h
structure WInv (w wr : World) (out : Value) (acc : List Lx.Tok) : Prop where
  own : wr.ownsRow (w.heap.size + 1) 66 4 out acc.length (toksCells acc)
  blk : ∃ a b c d, wr.heap[w.heap.size]? = some (.cells #[a, b, c, d] 66 (0, 0))
  bel : Below w.heap.size w wr
  sz : w.heap.size + 1 ≤ wr.heap.size
def Came (l : List UInt8) (k : Nat) (acc : List Lx.Tok) : Prop := ∃ f, Lx.lexN f l k acc = Lx.lexAll l ∧ l.length + 1 ≤ k + f ∧ acc.length ≤ k
def LJ (s : ByteArray) (w : World) (lb : Nat) (a : Act) (wr : World) : Prop :=
  ∃ f out k acc, a = LFrame s w.heap.size out k f ∧ WInv w wr out acc ∧ Came s.data.toList k acc ∧ k ≤ s.size ∧
    (lb = 1 ∨ (lb = 2 ∧ k < s.size ∧ Lx.blank1 (s.data.toList.drop k) = Lx.runL Lx.noLine (s.data.toList.drop k) ∧ 1 ≤ Lx.runL Lx.noLine (s.data.toList.drop k)) ∨ (lb = 0 ∧ k = s.size))
def Lmu (s : ByteArray) (lb : Nat) (a : Act) (_ : World) : Nat :=
  if lb = 1 then 2 * (s.size - (intOf (a.tmps.getD 8 undef)).toNat) + 2 else if lb = 2 then 2 * (s.size - (intOf (a.tmps.getD 8 undef)).toNat) + 1 else 0
def scopeOf : Code → Option Code
  | .scope c => some c
  | .seq a b => match scopeOf a with
    | some c => some c
    | none => scopeOf b
  | .block _ c => scopeOf c
  | .cond _ a b => match scopeOf a with
    | some c => some c
    | none => scopeOf b
  | _ => none
noncomputable def scopeC : Code := (Tryz.f33.body.bind scopeOf).getD .skip
noncomputable def restC (lb : Nat) : Code := (findLabel scopeC lb).getD .skip
def behindSkip : Code → Code
  | .seq .skip b => b
  | c => c
noncomputable def restB (lb : Nat) : Code := behindSkip (restC lb)
def WordsPost (l : List UInt8) (w : World) (e : Ending) (w' : World) : Prop :=
  Below w.heap.size w w' ∧ match Lx.lexAll l with
    | .good toks => ∃ g, w.heap.size ≤ g ∧ e = .returned (.tuple #[.slice (some ⟨g, 0, none⟩) toks.length toks.length, .int .i64 0, .int .i64 0]) ∧ ∀ j u, (toksCells toks)[j]? = some u → w'.cell? ⟨g, j, none⟩ = some u
    | .bad p => e = .returned (.tuple #[.slice none 0 0, .int .i64 180, .int .i64 (p : Int)])
noncomputable def LQ (s : ByteArray) (w : World) (lb k : Nat) : Exit → Act → World → Prop :=
  Exit.jumps (fun l' a' w' => LJ s w l' a' w' ∧ Lmu s l' a' w' < Lmu s lb (LFrame s w.heap.size undef k fun _ => undef) w') (bodyPost Tryz.prog Tryz.f33 (WordsPost s.data.toList w))
set_option maxRecDepth 100000 in
theorem find1 : findLabel scopeC 1 = some (restC 1) := by kernel_rfl
theorem rest1 : restC 1 = .seq .skip (restB 1) := by kernel_rfl
theorem find2 : findLabel scopeC 2 = some (restC 2) := by kernel_rfl
theorem find0 : findLabel scopeC 0 = some (restC 0) := by kernel_rfl
end Go.Proofs.YtbeinfhgfflneaaGreat
end
section
namespace Go.Proofs.YtbeinfhgfflneaaGreat
open Go.RowKit
set_option linter.unusedVariables false
theorem drop_at (s : ByteArray) (k : Nat) (h : k < s.size) : s.data.toList.drop k = s[k] :: s.data.toList.drop (k + 1) :=
  List.drop_eq_getElem_cons (by simpa using h : k < s.data.toList.length)
theorem Came.skip {l : List UInt8} {k : Nat} {acc : List Lx.Tok} (h : Came l k acc) (hk : k < l.length) (n : Nat) (hb : Lx.blank1 (l.drop k) = n) (hn : 1 ≤ n) : Came l (k + n) acc := by
  obtain ⟨f, h1, h2, h3⟩ := h
  match f, h1, h2 with
  | 0, _, h2 => omega
  | f + 1, h1, h2 =>
    refine ⟨f, ?_, by omega, by omega⟩
    rw [← h1]
    have hne : l.drop k ≠ [] := by simp; exact hk
    rw [Lx.lexN]
    simp [hne, hb, show n ≠ 0 by omega]
theorem Came.tok {l : List UInt8} {k : Nat} {acc : List Lx.Tok} (h : Came l k acc) (hk : k < l.length) (hb : Lx.blank1 (l.drop k) = 0) (t : Lx.Tk) (n : Nat) (ht : Lx.oneTok (l.drop k) = some (t, n)) (hn : 1 ≤ n) : Came l (k + n) (acc ++ [⟨t, k⟩]) := by
  obtain ⟨f, h1, h2, h3⟩ := h
  match f, h1, h2 with
  | 0, _, h2 => omega
  | f + 1, h1, h2 =>
    refine ⟨f, ?_, by omega, by simp; omega⟩
    rw [← h1]
    have hne : l.drop k ≠ [] := by simp; exact hk
    rw [Lx.lexN]
    simp [hne, hb, ht]
theorem Came.wrong {l : List UInt8} {k : Nat} {acc : List Lx.Tok} (h : Came l k acc) (hk : k < l.length) (hb : Lx.blank1 (l.drop k) = 0) (ht : Lx.oneTok (l.drop k) = none) : Lx.lexAll l = .bad k := by
  obtain ⟨f, h1, h2, h3⟩ := h
  match f, h1, h2 with
  | 0, _, h2 => omega
  | f + 1, h1, h2 =>
    rw [← h1]
    have hne : l.drop k ≠ [] := by simp; exact hk
    rw [Lx.lexN]
    simp [hne, hb, ht]
theorem Came.done {l : List UInt8} {acc : List Lx.Tok} (h : Came l l.length acc) : Lx.lexAll l = .good (acc ++ [⟨⟨5, [], 0⟩, l.length⟩]) := by
  obtain ⟨f, h1, h2, h3⟩ := h
  match f, h1, h2 with
  | 0, _, h2 => omega
  | f + 1, h1, h2 =>
    rw [← h1, Lx.lexN]
    simp
set_option maxRecDepth 100000
theorem Lmu1 {s : ByteArray} {a : Act} {w : World} {k : Nat} (h : a.tmps.getD 8 undef = .int .i64 (k : Int)) : Lmu s 1 a w = 2 * (s.size - k) + 2 := by
  unfold Lmu; rw [h]; rfl
theorem Lmu2 {s : ByteArray} {a : Act} {w : World} {k : Nat} (h : a.tmps.getD 8 undef = .int .i64 (k : Int)) : Lmu s 2 a w = 2 * (s.size - k) + 1 := by
  unfold Lmu; rw [h]; rfl
theorem Lmu0 {s : ByteArray} {a : Act} {w : World} : Lmu s 0 a w = 0 := rfl
section
variable {s : ByteArray} {w wr : World} {lb k k' : Nat} {out : Value} {acc : List Lx.Tok} {a : Act}
theorem goto1 (k' : Nat) (out : Value) (acc : List Lx.Tok) (hlb : lb = 1 ∨ lb = 2) (hk : k < k') (hk' : k' ≤ s.size) (hI : WInv w wr out acc) (hC : Came s.data.toList k' acc)
    (hd : a.defers = []) (hz : a.tmps.size = 130) (h0 : a.tmps.getD 0 undef = .string s) (h5 : a.tmps.getD 5 undef = out) (h6 : a.tmps.getD 6 undef = .pointer (some ⟨w.heap.size, 0, none⟩)) (h8 : a.tmps.getD 8 undef = .int .i64 (k' : Int)) : LQ s w lb k (.goto 1) a wr :=
  ⟨⟨_, out, k', acc, LFrame_of a hd hz h0 h5 h6 h8, hI, hC, hk', .inl rfl⟩, by
    rw [Lmu1 h8]
    rcases hlb with rfl | rfl
    · rw [Lmu1 (k := k) rfl]; omega
    · rw [Lmu2 (k := k) rfl]; omega⟩
theorem goto2 (hk' : k < s.size) (hb : Lx.blank1 (s.data.toList.drop k) = Lx.runL Lx.noLine (s.data.toList.drop k)) (hb1 : 1 ≤ Lx.runL Lx.noLine (s.data.toList.drop k)) (out : Value) (acc : List Lx.Tok) (hI : WInv w wr out acc) (hC : Came s.data.toList k acc)
    (hd : a.defers = []) (hz : a.tmps.size = 130) (h0 : a.tmps.getD 0 undef = .string s) (h5 : a.tmps.getD 5 undef = out) (h6 : a.tmps.getD 6 undef = .pointer (some ⟨w.heap.size, 0, none⟩)) (h8 : a.tmps.getD 8 undef = .int .i64 (k : Int)) : LQ s w 1 k (.goto 2) a wr :=
  ⟨⟨_, out, k, acc, LFrame_of a hd hz h0 h5 h6 h8, hI, hC, by omega, .inr (.inl ⟨rfl, hk', hb, hb1⟩)⟩, by
    rw [Lmu2 h8, Lmu1 (k := k) rfl]; omega⟩
theorem goto0 (out : Value) (acc : List Lx.Tok) (hI : WInv w wr out acc) (hC : Came s.data.toList s.size acc)
    (hd : a.defers = []) (hz : a.tmps.size = 130) (h0 : a.tmps.getD 0 undef = .string s) (h5 : a.tmps.getD 5 undef = out) (h6 : a.tmps.getD 6 undef = .pointer (some ⟨w.heap.size, 0, none⟩)) (h8 : a.tmps.getD 8 undef = .int .i64 (s.size : Int)) : LQ s w 1 s.size (.goto 0) a wr :=
  ⟨⟨_, out, s.size, acc, LFrame_of a hd hz h0 h5 h6 h8, hI, hC, Nat.le_refl _, .inr (.inr ⟨rfl, rfl⟩)⟩, by
    rw [Lmu0, Lmu1 (k := s.size) rfl]; omega⟩
end
set_option maxHeartbeats 1000000 in
set_option maxRecDepth 100000 in
theorem pass_end (s : ByteArray) (w wr : World) (hs : s.size ≤ 4096) (f : Nat → Value) (out : Value) (acc : List Lx.Tok) (hI : WInv w wr out acc) (hC : Came s.data.toList s.size acc) :
    Code.wp Tryz.prog (restB 1) (LQ s w 1 s.size) (LFrame s w.heap.size out s.size f) wr := by
  have hI' := hid hI; clear hI
  have hC' := hid hC; clear hC
  unfold LFrame
  conv => arg 2; whnf
  go_wp2
  go_step3
  go_wp2
  exact goto0 out acc hI'.out hC'.out rfl rfl rfl rfl rfl rfl
end Go.Proofs.YtbeinfhgfflneaaGreat
end
section
namespace Go.Proofs.YtbeinfhgfflneaaGreat
open Go.RowKit
set_option linter.unusedVariables false
theorem blank_white (s : ByteArray) (k : Nat) (hk : k < s.size) (hw : Lx.whiteB s[k] = true) : Lx.blank1 (s.data.toList.drop k) = 1 := by
  rw [drop_at s k hk]; simp [Lx.blank1, hw]
set_option maxHeartbeats 1000000 in
set_option maxRecDepth 100000 in
theorem pass_whitea (s : ByteArray) (w wr : World) (hs : s.size ≤ 4096) (f : Nat → Value) (out : Value) (acc : List Lx.Tok) (k : Nat) (hk : k < s.size) (hI' : Hid (WInv w wr out acc)) (hC' : Hid (Came s.data.toList (k + 1) acc)) (t32 : ((s[k].toNat : Int) == 32) = true) :
    Code.wp Tryz.prog (restB 1) (LQ s w 1 k) (LFrame s w.heap.size out k f) wr := by
  unfold LFrame
  conv => arg 2; whnf
  go_wp2
  go_step3
  go_wp2
  exact goto1 (k + 1) out acc (.inl rfl) (by omega) (by omega) hI'.out hC'.out rfl rfl rfl rfl rfl rfl
set_option maxHeartbeats 1000000 in
set_option maxRecDepth 100000 in
theorem pass_whiteb (s : ByteArray) (w wr : World) (hs : s.size ≤ 4096) (f : Nat → Value) (out : Value) (acc : List Lx.Tok) (k : Nat) (hk : k < s.size) (hI' : Hid (WInv w wr out acc)) (hC' : Hid (Came s.data.toList (k + 1) acc)) (t32 : ((s[k].toNat : Int) == 32) = false) (t9 : ((s[k].toNat : Int) == 9) = true) :
    Code.wp Tryz.prog (restB 1) (LQ s w 1 k) (LFrame s w.heap.size out k f) wr := by
  unfold LFrame
  conv => arg 2; whnf
  go_wp2
  go_step3
  go_wp2
  exact goto1 (k + 1) out acc (.inl rfl) (by omega) (by omega) hI'.out hC'.out rfl rfl rfl rfl rfl rfl
set_option maxHeartbeats 1000000 in
set_option maxRecDepth 100000 in
theorem pass_whitec (s : ByteArray) (w wr : World) (hs : s.size ≤ 4096) (f : Nat → Value) (out : Value) (acc : List Lx.Tok) (k : Nat) (hk : k < s.size) (hI' : Hid (WInv w wr out acc)) (hC' : Hid (Came s.data.toList (k + 1) acc)) (t32 : ((s[k].toNat : Int) == 32) = false) (t9 : ((s[k].toNat : Int) == 9) = false) (t10 : ((s[k].toNat : Int) == 10) = true) :
    Code.wp Tryz.prog (restB 1) (LQ s w 1 k) (LFrame s w.heap.size out k f) wr := by
  unfold LFrame
  conv => arg 2; whnf
  go_wp2
  go_step3
  go_wp2
  exact goto1 (k + 1) out acc (.inl rfl) (by omega) (by omega) hI'.out hC'.out rfl rfl rfl rfl rfl rfl
set_option maxHeartbeats 1000000 in
set_option maxRecDepth 100000 in
theorem pass_whited (s : ByteArray) (w wr : World) (hs : s.size ≤ 4096) (f : Nat → Value) (out : Value) (acc : List Lx.Tok) (k : Nat) (hk : k < s.size) (hI' : Hid (WInv w wr out acc)) (hC' : Hid (Came s.data.toList (k + 1) acc)) (t32 : ((s[k].toNat : Int) == 32) = false) (t9 : ((s[k].toNat : Int) == 9) = false) (t10 : ((s[k].toNat : Int) == 10) = false) (t13 : ((s[k].toNat : Int) == 13) = true) :
    Code.wp Tryz.prog (restB 1) (LQ s w 1 k) (LFrame s w.heap.size out k f) wr := by
  unfold LFrame
  conv => arg 2; whnf
  go_wp2
  go_step3
  go_wp2
  exact goto1 (k + 1) out acc (.inl rfl) (by omega) (by omega) hI'.out hC'.out rfl rfl rfl rfl rfl rfl
end Go.Proofs.YtbeinfhgfflneaaGreat
end
section
namespace Go.Proofs.YtbeinfhgfflneaaGreat
open Go.RowKit
set_option linter.unusedVariables false
theorem tok_info : (Tryz.prog.info? 66).map (fun i => (i.zero, i.size, i.bytes)) = some (some (.agg #[.int .i64 0, .string ⟨#[]⟩, .int .i64 0, .int .i64 0]), 4, 40) := by kernel_rfl
theorem only_of_below {a w : World} (h : Below a.heap.size a w) (row : Option Nat) : a.grownBy w row := ⟨h.os, h.tape, h.output, h.size, fun i hi _ => h.block i hi⟩
theorem WInv.below {w wr w' : World} {out : Value} {acc : List Lx.Tok} (h : WInv w wr out acc) (hb : Below wr.heap.size wr w') : WInv w w' out acc := by
  obtain ⟨h1, ⟨a, b, c, d, h2⟩, h3, h4⟩ := h
  refine ⟨h1.kept (row := none) (only_of_below hb _) ?_, ⟨a, b, c, d, (hb.block _ (by omega)).trans h2⟩, h3.trans (hb.mono (by omega)), Nat.le_trans h4 hb.size⟩
  rcases h1.2 with ⟨hv, _⟩ | ⟨g, cap, cur, hv, _⟩
  · left; rw [hv]; rfl
  · right; rw [hv]; simp [Value.ownBlock]
theorem WInv.set {w wr : World} {out : Value} {acc : List Lx.Tok} (h : WInv w wr out acc) (i : Nat) (u : Value) : WInv w (wr.setCell ⟨w.heap.size, i, none⟩ u) out acc := by
  obtain ⟨h1, ⟨a, b, c, d, h2⟩, h3, h4⟩ := h
  refine ⟨ownsRow_setCell_below h1 (a := ⟨w.heap.size, i, none⟩) (by show w.heap.size < w.heap.size + 1; omega) u, ?_, below_at h3 (Nat.le_refl _), by simpa [World.setCell] using h4⟩
  have : (wr.setCell ⟨w.heap.size, i, none⟩ u).heap[w.heap.size]? = some (.cells (#[a, b, c, d].setIfInBounds i u) 66 (0, 0)) := by
    simp [World.setCell, Array.getElem?_modify, h2]
  rw [this]
  match i with
  | 0 => exact ⟨u, b, c, d, rfl⟩
  | 1 => exact ⟨a, u, c, d, rfl⟩
  | 2 => exact ⟨a, b, u, d, rfl⟩
  | 3 => exact ⟨a, b, c, u, rfl⟩
  | i + 4 => exact ⟨a, b, c, d, by rw [Array.setIfInBounds_eq_of_size_le (by simp)]⟩
theorem WInv.more {w W w2 : World} {out out' : Value} {acc : List Lx.Tok} {t : Lx.Tok} {o : Obj} (h : WInv w W out acc) (hown : w2.ownsRow (w.heap.size + 1) 66 4 out' (acc.length + 1) (toksCells acc ++ (tkCells t.tk (t.pos : Int)).toList)) (hg : (W.alloc o).grownBy w2 out.ownBlock) :
    WInv w w2 out' (acc ++ [t]) := by
  obtain ⟨h1, ⟨a, b, c, d, h2⟩, h3, h4⟩ := h
  have hlt : w.heap.size < W.heap.size := by omega
  refine ⟨by rw [toksCells_snoc, List.length_append]; exact hown, ⟨a, b, c, d, ?_⟩, ?_, ?_⟩
  · rw [hg.block _ (by rw [World.size_alloc]; omega) (fun e => ?_), Below.heap_alloc W _ _ hlt]
    · exact h2
    · have := (h1.lt _ e.symm).1; omega
  · exact (h3.alloc (by omega) _).grown hg (by rw [World.size_alloc]; omega) (fun k hk => by have := (h1.lt k hk).1; omega)
  · have := hg.size; rw [World.size_alloc] at this; omega
theorem stored4 {w : World} {g : Nat} {a b c d : Value} {T : TypeId} (h : w.heap[g]? = some (.cells #[a, b, c, d] T (0, 0))) (x y z u v : Value) :
    (((((w.setCell ⟨g, 0, none⟩ x).setCell ⟨g, 1, none⟩ y).setCell ⟨g, 2, none⟩ z).setCell ⟨g, 3, none⟩ u).setCell ⟨g, 3, none⟩ v).heap[g]? = some (.cells #[x, y, z, v] T (0, 0)) := by
  simp [World.setCell, Array.getElem?_modify, h]
theorem cell_one (W : World) (cs : Array Value) (T : TypeId) (l : List Value) (h : cs.toList = l) : ∀ j u, l[j]? = some u → (W.alloc (.cells cs T)).cell? ((⟨W.heap.size, 0, none⟩ : Addr).add j) = some u := by
  intro j u hu
  rw [add0, Lib.cell_of_heap (heap_new W _), ← hu, ← h]
  simp
end Go.Proofs.YtbeinfhgfflneaaGreat
end
section
namespace Go.Proofs.YtbeinfhgfflneaaGreat
open Go.RowKit
set_option linter.unusedVariables false
set_option maxHeartbeats 2000000 in
set_option maxRecDepth 100000 in
theorem pass_sign_ok (s : ByteArray) (w wr : World) (hs : s.size ≤ 4096) (f : Nat → Value) (out : Value) (acc : List Lx.Tok) (k : Nat) (hk : k < s.size) (hI' : Hid (WInv w wr out acc))
    (t : Lx.Tk) (n : Nat) (hn : k + n ≤ s.size) (hn1 : 1 ≤ n) (hC' : Hid (Came s.data.toList (k + n) (acc ++ [⟨t, k⟩]))) (hacc : acc.length ≤ k)
    (t32 : ((s[k].toNat : Int) == 32) = false) (t9 : ((s[k].toNat : Int) == 9) = false) (t10 : ((s[k].toNat : Int) == 10) = false) (t13 : ((s[k].toNat : Int) == 13) = false)
    (hpre' : Hid (∀ W, Calls Tryz.prog 55 #[.string (s.extract k s.size), .string ⟨#[45, 45]⟩] W fun e w' => e = .returned (.bool false) ∧ W = w'))
    (hl : Lx.letterB s[k] = false) (hd : Lx.digitB s[k] = false) (t39 : ((s[k].toNat : Int) == 39) = false)
    (tk tn : Int) (tt : ByteArray) (ht : Hid (tkCells t k = #[.int .i64 tk, .string tt, .int .i64 tn, .int .i64 k]))
    (hcall' : Hid (∀ W, Calls Tryz.prog 63 #[.string (s.extract k s.size)] W fun e w' => e = .returned (.tuple #[.agg #[.int .i64 tk, .string tt, .int .i64 tn, .int .i64 0], .int .i64 n, .bool true]) ∧ Below W.heap.size W w')) :
    Code.wp Tryz.prog (restB 1) (LQ s w 1 k) (LFrame s w.heap.size out k f) wr := by
  obtain ⟨i0, hi, hz0, hz1, hz2⟩ := info_parts tok_info
  unfold LFrame
  conv => arg 2; whnf
  go_wp2_with fail
  refine (hpre'.out _).mono ?_; rintro e w' ⟨rfl, rfl⟩
  go_wp2_with fail
  refine (letter_any _ _).mono ?_; rintro e w' ⟨rfl, rfl⟩
  go_wp2_with fail
  refine (digit_any _ _).mono ?_; rintro e w' ⟨rfl, rfl⟩
  go_wp2_with fail
  refine (hcall'.out _).mono ?_; rintro e w' ⟨rfl, hb⟩
  have hI2 := hid (WInv.below hI'.out hb); obtain ⟨a0, a1, a2, a3, hblk⟩ := hI2.out.blk; obtain ⟨c0, c1, c2, c3, hf⟩ := blk4 hblk; have Hblk := hid hblk; clear hb hblk hpre' hcall'
  go_upto_region 22 with (fail)
  obtain ⟨W, hW⟩ : ∃ W, W = ((((w'.setCell ⟨w.heap.size, 0, none⟩ (.int .i64 tk)).setCell ⟨w.heap.size, 1, none⟩ (.string tt)).setCell ⟨w.heap.size, 2, none⟩ (.int .i64 tn)).setCell ⟨w.heap.size, 3, none⟩ (.int .i64 0)).setCell ⟨w.heap.size, 3, none⟩ (.int .i64 (k : Int)) := ⟨_, rfl⟩
  have hIW : WInv w W out acc := by rw [hW]; exact ((((hI2.out.set 0 _).set 1 _).set 2 _).set 3 _).set 3 _
  have hWb : W.heap[w.heap.size]? = some (.cells #[.int .i64 tk, .string tt, .int .i64 tn, .int .i64 (k : Int)] 66 (0, 0)) := by rw [hW]; exact stored4 Hblk.out _ _ _ _ _
  obtain ⟨e0, e1, e2, e3, _⟩ := blk4 hWb
  clear hWb
  rw [← hW]
  clear hW c0 c1 c2 c3 hf hI2
  have hsz := hIW.sz
  have hIW' := hid hIW; clear hIW
  go_wp2_with (at_builtin; refine wpList_append_own _ rfl _ _ 67 rfl (w.heap.size + 1) 66 i0 (.agg #[.int .i64 0, .string ⟨#[]⟩, .int .i64 0, .int .i64 0]) 4 40 Tryz.underlying67 hi hz0 hz1 hz2 rfl (by decide) _ _ _ rfl (hIW'.out.own.alloc _) ⟨W.heap.size, 0, none⟩ 1 1 [.int .i64 tk, .string tt, .int .i64 tn, .int .i64 (k : Int)] rfl rfl ?c1 ?c2 ?c3 ?c4 ?c5 ?_)
  case c1 => exact cell_one W _ 66 _ rfl
  case c2 => intro u hu; simp at hu; rcases hu with rfl | rfl | rfl | rfl <;> rfl
  case c3 => unfold maxLen; omega
  case c4 => omega
  case c5 => simp; omega
  intro v' w2 hown hg _
  have hI3 : WInv w w2 v' (acc ++ [⟨t, k⟩]) := hIW'.out.more (by rw [ht.out]; exact hown) hg
  have hI3' := hid hI3; clear hI3 hown hg
  go_wp2
  go_step3
  go_wp2
  exact goto1 (k + n) v' _ (.inl rfl) (by omega) (by omega) hI3'.out hC'.out rfl rfl rfl rfl rfl rfl
set_option maxHeartbeats 2000000 in
set_option maxRecDepth 100000 in
theorem pass_sign_bad (s : ByteArray) (w wr : World) (hs : s.size ≤ 4096) (f : Nat → Value) (out : Value) (acc : List Lx.Tok) (k : Nat) (hk : k < s.size) (hI' : Hid (WInv w wr out acc))
    (hbad : Hid (Lx.lexAll s.data.toList = .bad k))
    (t32 : ((s[k].toNat : Int) == 32) = false) (t9 : ((s[k].toNat : Int) == 9) = false) (t10 : ((s[k].toNat : Int) == 10) = false) (t13 : ((s[k].toNat : Int) == 13) = false)
    (hpre' : Hid (∀ W, Calls Tryz.prog 55 #[.string (s.extract k s.size), .string ⟨#[45, 45]⟩] W fun e w' => e = .returned (.bool false) ∧ W = w'))
    (hl : Lx.letterB s[k] = false) (hd : Lx.digitB s[k] = false) (t39 : ((s[k].toNat : Int) == 39) = false)
    (hcall' : Hid (∀ W, Calls Tryz.prog 63 #[.string (s.extract k s.size)] W fun e w' => e = .returned (.tuple #[.agg #[.int .i64 0, .string ⟨#[]⟩, .int .i64 0, .int .i64 0], .int .i64 0, .bool false]) ∧ Below W.heap.size W w')) :
    Code.wp Tryz.prog (restB 1) (LQ s w 1 k) (LFrame s w.heap.size out k f) wr := by
  unfold LFrame
  conv => arg 2; whnf
  go_wp2_with fail
  refine (hpre'.out _).mono ?_; rintro e w' ⟨rfl, rfl⟩
  go_wp2_with fail
  refine (letter_any _ _).mono ?_; rintro e w' ⟨rfl, rfl⟩
  go_wp2_with fail
  refine (digit_any _ _).mono ?_; rintro e w' ⟨rfl, rfl⟩
  go_wp2_with fail
  refine (hcall'.out _).mono ?_; rintro e w' ⟨rfl, hb⟩
  have hI2 := hid (WInv.below hI'.out hb); obtain ⟨a0, a1, a2, a3, hblk⟩ := hI2.out.blk; obtain ⟨c0, c1, c2, c3, hf⟩ := blk4 hblk; have Hblk := hid hblk; clear hb hblk hpre' hcall'
  go_wp2
  show bodyPost Tryz.prog Tryz.f33 (WordsPost s.data.toList w) .ret _ _
  go_ret3
  refine ⟨?_, by rw [hbad.out]; rfl⟩
  exact ((((hI2.out.set 0 _).set 1 _).set 2 _).set 3 _).bel
end Go.Proofs.YtbeinfhgfflneaaGreat
end
section
namespace Go.Proofs.YtbeinfhgfflneaaGreat
open Go.RowKit
set_option linter.unusedVariables false
set_option maxHeartbeats 2000000 in
set_option maxRecDepth 100000 in
theorem pass_text_ok (s : ByteArray) (w wr : World) (hs : s.size ≤ 4096) (f : Nat → Value) (out : Value) (acc : List Lx.Tok) (k : Nat) (hk : k < s.size) (hI' : Hid (WInv w wr out acc))
    (t : Lx.Tk) (n : Nat) (hn : k + n ≤ s.size) (hn1 : 1 ≤ n) (hC' : Hid (Came s.data.toList (k + n) (acc ++ [⟨t, k⟩]))) (hacc : acc.length ≤ k)
    (t32 : ((s[k].toNat : Int) == 32) = false) (t9 : ((s[k].toNat : Int) == 9) = false) (t10 : ((s[k].toNat : Int) == 10) = false) (t13 : ((s[k].toNat : Int) == 13) = false)
    (hpre' : Hid (∀ W, Calls Tryz.prog 55 #[.string (s.extract k s.size), .string ⟨#[45, 45]⟩] W fun e w' => e = .returned (.bool false) ∧ W = w'))
    (hl : Lx.letterB s[k] = false) (hd : Lx.digitB s[k] = false) (t39 : ((s[k].toNat : Int) == 39) = true)
    (tk tn : Int) (tt : ByteArray) (ht : Hid (tkCells t k = #[.int .i64 tk, .string tt, .int .i64 tn, .int .i64 k]))
    (hcall' : Hid (∀ W, Calls Tryz.prog 62 #[.string (s.extract k s.size)] W fun e w' => e = .returned (.tuple #[.agg #[.int .i64 tk, .string tt, .int .i64 tn, .int .i64 0], .int .i64 n, .bool true]) ∧ Below W.heap.size W w')) :
    Code.wp Tryz.prog (restB 1) (LQ s w 1 k) (LFrame s w.heap.size out k f) wr := by
  obtain ⟨i0, hi, hz0, hz1, hz2⟩ := info_parts tok_info
  unfold LFrame
  conv => arg 2; whnf
  go_wp2_with fail
  refine (hpre'.out _).mono ?_; rintro e w' ⟨rfl, rfl⟩
  go_wp2_with fail
  refine (letter_any _ _).mono ?_; rintro e w' ⟨rfl, rfl⟩
  go_wp2_with fail
  refine (digit_any _ _).mono ?_; rintro e w' ⟨rfl, rfl⟩
  go_wp2_with fail
  refine (hcall'.out _).mono ?_; rintro e w' ⟨rfl, hb⟩
  have hI2 := hid (WInv.below hI'.out hb); obtain ⟨a0, a1, a2, a3, hblk⟩ := hI2.out.blk; obtain ⟨c0, c1, c2, c3, hf⟩ := blk4 hblk; have Hblk := hid hblk; clear hb hblk hpre' hcall'
  go_upto_region 22 with (fail)
  obtain ⟨W, hW⟩ : ∃ W, W = ((((w'.setCell ⟨w.heap.size, 0, none⟩ (.int .i64 tk)).setCell ⟨w.heap.size, 1, none⟩ (.string tt)).setCell ⟨w.heap.size, 2, none⟩ (.int .i64 tn)).setCell ⟨w.heap.size, 3, none⟩ (.int .i64 0)).setCell ⟨w.heap.size, 3, none⟩ (.int .i64 (k : Int)) := ⟨_, rfl⟩
  have hIW : WInv w W out acc := by rw [hW]; exact ((((hI2.out.set 0 _).set 1 _).set 2 _).set 3 _).set 3 _
  have hWb : W.heap[w.heap.size]? = some (.cells #[.int .i64 tk, .string tt, .int .i64 tn, .int .i64 (k : Int)] 66 (0, 0)) := by rw [hW]; exact stored4 Hblk.out _ _ _ _ _
  obtain ⟨e0, e1, e2, e3, _⟩ := blk4 hWb
  clear hWb
  rw [← hW]
  clear hW c0 c1 c2 c3 hf hI2
  have hsz := hIW.sz
  have hIW' := hid hIW; clear hIW
  go_wp2_with (at_builtin; refine wpList_append_own _ rfl _ _ 67 rfl (w.heap.size + 1) 66 i0 (.agg #[.int .i64 0, .string ⟨#[]⟩, .int .i64 0, .int .i64 0]) 4 40 Tryz.underlying67 hi hz0 hz1 hz2 rfl (by decide) _ _ _ rfl (hIW'.out.own.alloc _) ⟨W.heap.size, 0, none⟩ 1 1 [.int .i64 tk, .string tt, .int .i64 tn, .int .i64 (k : Int)] rfl rfl ?c1 ?c2 ?c3 ?c4 ?c5 ?_)
  case c1 => exact cell_one W _ 66 _ rfl
  case c2 => intro u hu; simp at hu; rcases hu with rfl | rfl | rfl | rfl <;> rfl
  case c3 => unfold maxLen; omega
  case c4 => omega
  case c5 => simp; omega
  intro v' w2 hown hg _
  have hI3 : WInv w w2 v' (acc ++ [⟨t, k⟩]) := hIW'.out.more (by rw [ht.out]; exact hown) hg
  have hI3' := hid hI3; clear hI3 hown hg
  go_wp2
  go_step3
  go_wp2
  exact goto1 (k + n) v' _ (.inl rfl) (by omega) (by omega) hI3'.out hC'.out rfl rfl rfl rfl rfl rfl
set_option maxHeartbeats 2000000 in
set_option maxRecDepth 100000 in
theorem pass_text_bad (s : ByteArray) (w wr : World) (hs : s.size ≤ 4096) (f : Nat → Value) (out : Value) (acc : List Lx.Tok) (k : Nat) (hk : k < s.size) (hI' : Hid (WInv w wr out acc))
    (hbad : Hid (Lx.lexAll s.data.toList = .bad k))
    (t32 : ((s[k].toNat : Int) == 32) = false) (t9 : ((s[k].toNat : Int) == 9) = false) (t10 : ((s[k].toNat : Int) == 10) = false) (t13 : ((s[k].toNat : Int) == 13) = false)
    (hpre' : Hid (∀ W, Calls Tryz.prog 55 #[.string (s.extract k s.size), .string ⟨#[45, 45]⟩] W fun e w' => e = .returned (.bool false) ∧ W = w'))
    (hl : Lx.letterB s[k] = false) (hd : Lx.digitB s[k] = false) (t39 : ((s[k].toNat : Int) == 39) = true)
    (hcall' : Hid (∀ W, Calls Tryz.prog 62 #[.string (s.extract k s.size)] W fun e w' => e = .returned (.tuple #[.agg #[.int .i64 0, .string ⟨#[]⟩, .int .i64 0, .int .i64 0], .int .i64 0, .bool false]) ∧ Below W.heap.size W w')) :
    Code.wp Tryz.prog (restB 1) (LQ s w 1 k) (LFrame s w.heap.size out k f) wr := by
  unfold LFrame
  conv => arg 2; whnf
  go_wp2_with fail
  refine (hpre'.out _).mono ?_; rintro e w' ⟨rfl, rfl⟩
  go_wp2_with fail
  refine (letter_any _ _).mono ?_; rintro e w' ⟨rfl, rfl⟩
  go_wp2_with fail
  refine (digit_any _ _).mono ?_; rintro e w' ⟨rfl, rfl⟩
  go_wp2_with fail
  refine (hcall'.out _).mono ?_; rintro e w' ⟨rfl, hb⟩
  have hI2 := hid (WInv.below hI'.out hb); obtain ⟨a0, a1, a2, a3, hblk⟩ := hI2.out.blk; obtain ⟨c0, c1, c2, c3, hf⟩ := blk4 hblk; have Hblk := hid hblk; clear hb hblk hpre' hcall'
  go_wp2
  show bodyPost Tryz.prog Tryz.f33 (WordsPost s.data.toList w) .ret _ _
  go_ret3
  refine ⟨?_, by rw [hbad.out]; rfl⟩
  exact ((((hI2.out.set 0 _).set 1 _).set 2 _).set 3 _).bel
end Go.Proofs.YtbeinfhgfflneaaGreat
end
section
namespace Go.Proofs.YtbeinfhgfflneaaGreat
open Go.RowKit
set_option linter.unusedVariables false
set_option maxHeartbeats 2000000 in
set_option maxRecDepth 100000 in
theorem pass_number_ok (s : ByteArray) (w wr : World) (hs : s.size ≤ 4096) (f : Nat → Value) (out : Value) (acc : List Lx.Tok) (k : Nat) (hk : k < s.size) (hI' : Hid (WInv w wr out acc))
    (t : Lx.Tk) (n : Nat) (hn : k + n ≤ s.size) (hn1 : 1 ≤ n) (hC' : Hid (Came s.data.toList (k + n) (acc ++ [⟨t, k⟩]))) (hacc : acc.length ≤ k)
    (t32 : ((s[k].toNat : Int) == 32) = false) (t9 : ((s[k].toNat : Int) == 9) = false) (t10 : ((s[k].toNat : Int) == 10) = false) (t13 : ((s[k].toNat : Int) == 13) = false)
    (hpre' : Hid (∀ W, Calls Tryz.prog 55 #[.string (s.extract k s.size), .string ⟨#[45, 45]⟩] W fun e w' => e = .returned (.bool false) ∧ W = w'))
    (hl : Lx.letterB s[k] = false) (hd : Lx.digitB s[k] = true)
    (tk tn : Int) (tt : ByteArray) (ht : Hid (tkCells t k = #[.int .i64 tk, .string tt, .int .i64 tn, .int .i64 k]))
    (hcall' : Hid (∀ W, Calls Tryz.prog 61 #[.string (s.extract k s.size)] W fun e w' => e = .returned (.tuple #[.agg #[.int .i64 tk, .string tt, .int .i64 tn, .int .i64 0], .int .i64 n, .bool true]) ∧ Below W.heap.size W w')) :
    Code.wp Tryz.prog (restB 1) (LQ s w 1 k) (LFrame s w.heap.size out k f) wr := by
  obtain ⟨i0, hi, hz0, hz1, hz2⟩ := info_parts tok_info
  unfold LFrame
  conv => arg 2; whnf
  go_wp2_with fail
  refine (hpre'.out _).mono ?_; rintro e w' ⟨rfl, rfl⟩
  go_wp2_with fail
  refine (letter_any _ _).mono ?_; rintro e w' ⟨rfl, rfl⟩
  go_wp2_with fail
  refine (digit_any _ _).mono ?_; rintro e w' ⟨rfl, rfl⟩
  go_wp2_with fail
  refine (hcall'.out _).mono ?_; rintro e w' ⟨rfl, hb⟩
  have hI2 := hid (WInv.below hI'.out hb); obtain ⟨a0, a1, a2, a3, hblk⟩ := hI2.out.blk; obtain ⟨c0, c1, c2, c3, hf⟩ := blk4 hblk; have Hblk := hid hblk; clear hb hblk hpre' hcall'
  go_upto_region 22 with (fail)
  obtain ⟨W, hW⟩ : ∃ W, W = ((((w'.setCell ⟨w.heap.size, 0, none⟩ (.int .i64 tk)).setCell ⟨w.heap.size, 1, none⟩ (.string tt)).setCell ⟨w.heap.size, 2, none⟩ (.int .i64 tn)).setCell ⟨w.heap.size, 3, none⟩ (.int .i64 0)).setCell ⟨w.heap.size, 3, none⟩ (.int .i64 (k : Int)) := ⟨_, rfl⟩
  have hIW : WInv w W out acc := by rw [hW]; exact ((((hI2.out.set 0 _).set 1 _).set 2 _).set 3 _).set 3 _
  have hWb : W.heap[w.heap.size]? = some (.cells #[.int .i64 tk, .string tt, .int .i64 tn, .int .i64 (k : Int)] 66 (0, 0)) := by rw [hW]; exact stored4 Hblk.out _ _ _ _ _
  obtain ⟨e0, e1, e2, e3, _⟩ := blk4 hWb
  clear hWb
  rw [← hW]
  clear hW c0 c1 c2 c3 hf hI2
  have hsz := hIW.sz
  have hIW' := hid hIW; clear hIW
  go_wp2_with (at_builtin; refine wpList_append_own _ rfl _ _ 67 rfl (w.heap.size + 1) 66 i0 (.agg #[.int .i64 0, .string ⟨#[]⟩, .int .i64 0, .int .i64 0]) 4 40 Tryz.underlying67 hi hz0 hz1 hz2 rfl (by decide) _ _ _ rfl (hIW'.out.own.alloc _) ⟨W.heap.size, 0, none⟩ 1 1 [.int .i64 tk, .string tt, .int .i64 tn, .int .i64 (k : Int)] rfl rfl ?c1 ?c2 ?c3 ?c4 ?c5 ?_)
  case c1 => exact cell_one W _ 66 _ rfl
  case c2 => intro u hu; simp at hu; rcases hu with rfl | rfl | rfl | rfl <;> rfl
  case c3 => unfold maxLen; omega
  case c4 => omega
  case c5 => simp; omega
  intro v' w2 hown hg _
  have hI3 : WInv w w2 v' (acc ++ [⟨t, k⟩]) := hIW'.out.more (by rw [ht.out]; exact hown) hg
  have hI3' := hid hI3; clear hI3 hown hg
  go_wp2
  go_step3
  go_wp2
  exact goto1 (k + n) v' _ (.inl rfl) (by omega) (by omega) hI3'.out hC'.out rfl rfl rfl rfl rfl rfl
set_option maxHeartbeats 2000000 in
set_option maxRecDepth 100000 in
theorem pass_number_bad (s : ByteArray) (w wr : World) (hs : s.size ≤ 4096) (f : Nat → Value) (out : Value) (acc : List Lx.Tok) (k : Nat) (hk : k < s.size) (hI' : Hid (WInv w wr out acc))
    (hbad : Hid (Lx.lexAll s.data.toList = .bad k))
    (t32 : ((s[k].toNat : Int) == 32) = false) (t9 : ((s[k].toNat : Int) == 9) = false) (t10 : ((s[k].toNat : Int) == 10) = false) (t13 : ((s[k].toNat : Int) == 13) = false)
    (hpre' : Hid (∀ W, Calls Tryz.prog 55 #[.string (s.extract k s.size), .string ⟨#[45, 45]⟩] W fun e w' => e = .returned (.bool false) ∧ W = w'))
    (hl : Lx.letterB s[k] = false) (hd : Lx.digitB s[k] = true)
    (hcall' : Hid (∀ W, Calls Tryz.prog 61 #[.string (s.extract k s.size)] W fun e w' => e = .returned (.tuple #[.agg #[.int .i64 0, .string ⟨#[]⟩, .int .i64 0, .int .i64 0], .int .i64 0, .bool false]) ∧ Below W.heap.size W w')) :
    Code.wp Tryz.prog (restB 1) (LQ s w 1 k) (LFrame s w.heap.size out k f) wr := by
  unfold LFrame
  conv => arg 2; whnf
  go_wp2_with fail
  refine (hpre'.out _).mono ?_; rintro e w' ⟨rfl, rfl⟩
  go_wp2_with fail
  refine (letter_any _ _).mono ?_; rintro e w' ⟨rfl, rfl⟩
  go_wp2_with fail
  refine (digit_any _ _).mono ?_; rintro e w' ⟨rfl, rfl⟩
  go_wp2_with fail
  refine (hcall'.out _).mono ?_; rintro e w' ⟨rfl, hb⟩
  have hI2 := hid (WInv.below hI'.out hb); obtain ⟨a0, a1, a2, a3, hblk⟩ := hI2.out.blk; obtain ⟨c0, c1, c2, c3, hf⟩ := blk4 hblk; have Hblk := hid hblk; clear hb hblk hpre' hcall'
  go_wp2
  show bodyPost Tryz.prog Tryz.f33 (WordsPost s.data.toList w) .ret _ _
  go_ret3
  refine ⟨?_, by rw [hbad.out]; rfl⟩
  exact ((((hI2.out.set 0 _).set 1 _).set 2 _).set 3 _).bel
end Go.Proofs.YtbeinfhgfflneaaGreat
end
section
namespace Go.Proofs.YtbeinfhgfflneaaGreat
open Go.RowKit
set_option linter.unusedVariables false
set_option maxHeartbeats 2000000 in
set_option maxRecDepth 100000 in
theorem pass_word_ok (s : ByteArray) (w wr : World) (hs : s.size ≤ 4096) (f : Nat → Value) (out : Value) (acc : List Lx.Tok) (k : Nat) (hk : k < s.size) (hI' : Hid (WInv w wr out acc))
    (t : Lx.Tk) (hacc : acc.length ≤ k)
    (t32 : ((s[k].toNat : Int) == 32) = false) (t9 : ((s[k].toNat : Int) == 9) = false) (t10 : ((s[k].toNat : Int) == 10) = false) (t13 : ((s[k].toNat : Int) == 13) = false)
    (hpre' : Hid (∀ W, Calls Tryz.prog 55 #[.string (s.extract k s.size), .string ⟨#[45, 45]⟩] W fun e w' => e = .returned (.bool false) ∧ W = w'))
    (hl : Lx.letterB s[k] = true) (n : Nat) (hn : k + n ≤ s.size) (tt : ByteArray) (hn1 : 1 ≤ n) (hn32 : decide ((n : Int) ≤ 32) = true) (hC' : Hid (Came s.data.toList (k + n) (acc ++ [⟨t, k⟩]))) (ht : Hid (tkCells t k = #[.int .i64 1, .string tt, .int .i64 0, .int .i64 k]))
    (hrun' : Hid (∀ W, Calls Tryz.prog 57 #[.string (s.extract k s.size), .func (.func 58) #[] #[]] W fun e w' => e = .returned (.int .i64 (n : Int)) ∧ W = w'))
    (hsm' : Hid (∀ W, Calls Tryz.prog 59 #[.string (s.extract k (k + n))] W fun e w' => e = .returned (.string tt) ∧ Below W.heap.size W w')) :
    Code.wp Tryz.prog (restB 1) (LQ s w 1 k) (LFrame s w.heap.size out k f) wr := by
  obtain ⟨i0, hi, hz0, hz1, hz2⟩ := info_parts tok_info
  unfold LFrame
  conv => arg 2; whnf
  go_wp2_with fail
  refine (hpre'.out _).mono ?_; rintro e w' ⟨rfl, rfl⟩
  go_wp2_with fail
  refine (letter_any _ _).mono ?_; rintro e w' ⟨rfl, rfl⟩
  go_wp2_with fail
  refine (hrun'.out _).mono ?_; rintro e w' ⟨rfl, rfl⟩
  go_wp2_with fail
  refine (hsm'.out _).mono ?_; rintro e w' ⟨rfl, hb⟩
  have hI2 := hid (WInv.below hI'.out hb); obtain ⟨a0, a1, a2, a3, hblk⟩ := hI2.out.blk; obtain ⟨c0, c1, c2, c3, hf⟩ := blk4 hblk; have Hblk := hid hblk; clear hb hblk hpre' hrun' hsm'
  go_upto_region 22 with (fail)
  obtain ⟨W, hW⟩ : ∃ W, W = ((((w'.setCell ⟨w.heap.size, 0, none⟩ (.int .i64 1)).setCell ⟨w.heap.size, 1, none⟩ (.string tt)).setCell ⟨w.heap.size, 2, none⟩ (.int .i64 0)).setCell ⟨w.heap.size, 3, none⟩ (.int .i64 0)).setCell ⟨w.heap.size, 3, none⟩ (.int .i64 (k : Int)) := ⟨_, rfl⟩
  have hIW : WInv w W out acc := by rw [hW]; exact ((((hI2.out.set 0 _).set 1 _).set 2 _).set 3 _).set 3 _
  have hWb : W.heap[w.heap.size]? = some (.cells #[.int .i64 1, .string tt, .int .i64 0, .int .i64 (k : Int)] 66 (0, 0)) := by rw [hW]; exact stored4 Hblk.out _ _ _ _ _
  obtain ⟨e0, e1, e2, e3, _⟩ := blk4 hWb
  clear hWb
  rw [← hW]
  clear hW c0 c1 c2 c3 hf hI2
  have hsz := hIW.sz
  have hIW' := hid hIW; clear hIW
  go_wp2_with (at_builtin; refine wpList_append_own _ rfl _ _ 67 rfl (w.heap.size + 1) 66 i0 (.agg #[.int .i64 0, .string ⟨#[]⟩, .int .i64 0, .int .i64 0]) 4 40 Tryz.underlying67 hi hz0 hz1 hz2 rfl (by decide) _ _ _ rfl (hIW'.out.own.alloc _) ⟨W.heap.size, 0, none⟩ 1 1 [.int .i64 1, .string tt, .int .i64 0, .int .i64 (k : Int)] rfl rfl ?c1 ?c2 ?c3 ?c4 ?c5 ?_)
  case c1 => exact cell_one W _ 66 _ rfl
  case c2 => intro u hu; simp at hu; rcases hu with rfl | rfl | rfl | rfl <;> rfl
  case c3 => unfold maxLen; omega
  case c4 => omega
  case c5 => simp; omega
  intro v' w2 hown hg _
  have hI3 : WInv w w2 v' (acc ++ [⟨t, k⟩]) := hIW'.out.more (by rw [ht.out]; exact hown) hg
  have hI3' := hid hI3; clear hI3 hown hg
  go_wp2
  go_step3
  go_wp2
  exact goto1 (k + n) v' _ (.inl rfl) (by omega) (by omega) hI3'.out hC'.out rfl rfl rfl rfl rfl rfl
set_option maxHeartbeats 2000000 in
set_option maxRecDepth 100000 in
theorem pass_word_bad (s : ByteArray) (w wr : World) (hs : s.size ≤ 4096) (f : Nat → Value) (out : Value) (acc : List Lx.Tok) (k : Nat) (hk : k < s.size) (hI' : Hid (WInv w wr out acc))
    (hbad : Hid (Lx.lexAll s.data.toList = .bad k))
    (t32 : ((s[k].toNat : Int) == 32) = false) (t9 : ((s[k].toNat : Int) == 9) = false) (t10 : ((s[k].toNat : Int) == 10) = false) (t13 : ((s[k].toNat : Int) == 13) = false)
    (hpre' : Hid (∀ W, Calls Tryz.prog 55 #[.string (s.extract k s.size), .string ⟨#[45, 45]⟩] W fun e w' => e = .returned (.bool false) ∧ W = w'))
    (hl : Lx.letterB s[k] = true) (n : Nat) (hn : k + n ≤ s.size) (tt : ByteArray) (hn32 : decide ((n : Int) ≤ 32) = false)
    (hrun' : Hid (∀ W, Calls Tryz.prog 57 #[.string (s.extract k s.size), .func (.func 58) #[] #[]] W fun e w' => e = .returned (.int .i64 (n : Int)) ∧ W = w'))
    (hsm' : Hid (∀ W, Calls Tryz.prog 59 #[.string (s.extract k (k + n))] W fun e w' => e = .returned (.string tt) ∧ Below W.heap.size W w')) :
    Code.wp Tryz.prog (restB 1) (LQ s w 1 k) (LFrame s w.heap.size out k f) wr := by
  unfold LFrame
  conv => arg 2; whnf
  go_wp2_with fail
  refine (hpre'.out _).mono ?_; rintro e w' ⟨rfl, rfl⟩
  go_wp2_with fail
  refine (letter_any _ _).mono ?_; rintro e w' ⟨rfl, rfl⟩
  go_wp2_with fail
  refine (hrun'.out _).mono ?_; rintro e w' ⟨rfl, rfl⟩
  go_wp2_with fail
  refine (hsm'.out _).mono ?_; rintro e w' ⟨rfl, hb⟩
  have hI2 := hid (WInv.below hI'.out hb); obtain ⟨a0, a1, a2, a3, hblk⟩ := hI2.out.blk; obtain ⟨c0, c1, c2, c3, hf⟩ := blk4 hblk; have Hblk := hid hblk; clear hb hblk hpre' hrun' hsm'
  go_wp2
  show bodyPost Tryz.prog Tryz.f33 (WordsPost s.data.toList w) .ret _ _
  go_ret3
  refine ⟨?_, by rw [hbad.out]; rfl⟩
  exact ((((hI2.out.set 0 _).set 1 _).set 2 _).set 3 _).bel
end Go.Proofs.YtbeinfhgfflneaaGreat
end
section
namespace Go.Proofs.YtbeinfhgfflneaaGreat
open Go.RowKit
set_option linter.unusedVariables false
set_option maxHeartbeats 2000000 in
set_option maxRecDepth 100000 in
theorem pass_remark (s : ByteArray) (w wr : World) (hs : s.size ≤ 4096) (f : Nat → Value) (out : Value) (acc : List Lx.Tok) (k : Nat) (hk : k < s.size) (hI' : Hid (WInv w wr out acc)) (hC' : Hid (Came s.data.toList k acc))
    (t32 : ((s[k].toNat : Int) == 32) = false) (t9 : ((s[k].toNat : Int) == 9) = false) (t10 : ((s[k].toNat : Int) == 10) = false) (t13 : ((s[k].toNat : Int) == 13) = false)
    (hpre' : Hid (∀ W, Calls Tryz.prog 55 #[.string (s.extract k s.size), .string ⟨#[45, 45]⟩] W fun e w' => e = .returned (.bool true) ∧ W = w'))
    (hb1 : Hid (Lx.blank1 (s.data.toList.drop k) = Lx.runL Lx.noLine (s.data.toList.drop k))) (hb2 : Hid (1 ≤ Lx.runL Lx.noLine (s.data.toList.drop k))) :
    Code.wp Tryz.prog (restB 1) (LQ s w 1 k) (LFrame s w.heap.size out k f) wr := by
  unfold LFrame
  conv => arg 2; whnf
  go_wp2_with fail
  refine (hpre'.out _).mono ?_; rintro e w' ⟨rfl, rfl⟩
  go_wp2
  go_step3
  go_wp2
  exact goto2 hk hb1.out hb2.out out acc hI'.out hC'.out rfl rfl rfl rfl rfl rfl
set_option maxHeartbeats 2000000 in
set_option maxRecDepth 100000 in
theorem pass2 (s : ByteArray) (w wr : World) (hs : s.size ≤ 4096) (f : Nat → Value) (out : Value) (acc : List Lx.Tok) (k n : Nat) (hk : k < s.size) (hn : k + n ≤ s.size) (hn1 : 1 ≤ n) (hI' : Hid (WInv w wr out acc)) (hC' : Hid (Came s.data.toList (k + n) acc))
    (hrun' : Hid (∀ W, Calls Tryz.prog 57 #[.string (s.extract k s.size), .func (.func 64) #[] #[]] W fun e w' => e = .returned (.int .i64 (n : Int)) ∧ W = w')) :
    Code.wp Tryz.prog (restC 2) (LQ s w 2 k) (LFrame s w.heap.size out k f) wr := by
  unfold LFrame
  conv => arg 2; whnf
  go_wp2_with fail
  refine (hrun'.out _).mono ?_; rintro e w' ⟨rfl, rfl⟩
  go_wp2
  go_step3
  go_wp2
  exact goto1 (k + n) out acc (.inr rfl) (by omega) (by omega) hI'.out hC'.out rfl rfl rfl rfl rfl rfl
set_option maxHeartbeats 2000000 in
set_option maxRecDepth 100000 in
theorem pass0 (s : ByteArray) (w wr : World) (hs : s.size ≤ 4096) (f : Nat → Value) (out : Value) (acc : List Lx.Tok) (hacc : acc.length ≤ s.size) (hI' : Hid (WInv w wr out acc)) (hgood : Hid (Lx.lexAll s.data.toList = .good (acc ++ [⟨⟨5, [], 0⟩, s.size⟩]))) :
    Code.wp Tryz.prog (restC 0) (LQ s w 0 s.size) (LFrame s w.heap.size out s.size f) wr := by
  obtain ⟨i0, hi, hz0, hz1, hz2⟩ := info_parts tok_info
  have hsz := hI'.out.sz
  unfold LFrame
  conv => arg 2; whnf
  go_wp2_with (at_builtin; refine wpList_append_own _ rfl _ _ 67 rfl (w.heap.size + 1) 66 i0 (.agg #[.int .i64 0, .string ⟨#[]⟩, .int .i64 0, .int .i64 0]) 4 40 Tryz.underlying67 hi hz0 hz1 hz2 rfl (by decide) _ _ _ rfl (hI'.out.own.alloc _) ⟨wr.heap.size, 0, none⟩ 1 1 [.int .i64 5, .string ⟨#[]⟩, .int .i64 0, .int .i64 (s.size : Int)] rfl rfl ?c1 ?c2 ?c3 ?c4 ?c5 ?_)
  case c1 => exact cell_one wr _ 66 _ rfl
  case c2 => intro u hu; simp at hu; rcases hu with rfl | rfl | rfl | rfl <;> rfl
  case c3 => unfold maxLen; omega
  case c4 => omega
  case c5 => simp; omega
  intro v' w2 hown hg _
  have hI3 : WInv w w2 v' (acc ++ [⟨⟨5, [], 0⟩, s.size⟩]) := hI'.out.more hown hg
  obtain ⟨g, cap, cur, rfl, hgb, hgh, hnc, hcap, hcs, htk⟩ : ∃ g cap cur, v' = .slice (some ⟨g, 0, none⟩) (acc.length + 1) cap ∧ w.heap.size + 1 ≤ g ∧ w2.heap[g]? = some (.cells cur 66 (0, 0)) ∧ acc.length + 1 ≤ cap ∧ cap ≤ maxLen ∧ cur.size = cap * 4 ∧ cur.toList.take ((acc.length + 1) * 4) = toksCells acc ++ [.int .i64 5, .string ⟨#[]⟩, .int .i64 0, .int .i64 (s.size : Int)] := by
    rcases hown.2 with ⟨_, h0⟩ | ⟨g, cap, cur, h⟩
    · omega
    · exact ⟨g, cap, cur, h⟩
  have Hown := hid hown
  have Hg := hid hg
  have Htk := hid htk
  have HI3 := hid hI3
  have Hgh := hid hgh
  clear hown hg htk hI3 hgh
  unfold maxLen at hcap
  go_wp2
  show bodyPost Tryz.prog Tryz.f33 (WordsPost s.data.toList w) .ret _ _
  go_ret3
  refine ⟨HI3.out.bel, ?_⟩
  rw [hgood.out]
  refine ⟨g, by omega, ?_, ?_⟩
  · simp
  · intro j u hu
    rw [toksCells_snoc] at hu
    have := (World.ownsRow.cells HI3.out.own (g := g) rfl) j u (by rw [toksCells_snoc]; exact hu)
    rw [add0] at this
    exact this
end Go.Proofs.YtbeinfhgfflneaaGreat
end
section
namespace Go.Proofs.YtbeinfhgfflneaaGreat
open Go.RowKit
set_option linter.unusedVariables false
theorem quoteL_size : ∀ (r : List UInt8) (x : List UInt8 × Nat), Lx.quoteL r = some x → 1 ≤ x.2 ∧ x.2 ≤ r.length
  | [], x, h => by simp [Lx.quoteL] at h
  | [c], x, h => by
    simp only [Lx.quoteL] at h
    split at h
    · injection h with h; subst h; simp
    · simp at h
  | c :: d :: r, x, h => by
    have i1 := quoteL_size r
    have i2 := quoteL_size (d :: r)
    unfold Lx.quoteL at h
    split at h
    · dsimp only at h
      split at h
      · obtain ⟨y, hy, rfl⟩ := Option.map_eq_some_iff.1 h
        have := i1 y hy; simp; omega
      · injection h with h; subst h; simp
    · obtain ⟨y, hy, rfl⟩ := Option.map_eq_some_iff.1 h
      have := i2 y hy; simp at this ⊢; omega
theorem runL_pos (p : UInt8 → Bool) (c : UInt8) (r : List UInt8) (h : p c = true) : 1 ≤ Lx.runL p (c :: r) := by simp [Lx.runL, h]
theorem signL_size (r : List UInt8) (t : Lx.Tk) (n : Nat) (h : Lx.signL r = some (t, n)) : 1 ≤ n ∧ n ≤ r.length := by
  match r, h with
  | [], h => simp [Lx.signL] at h
  | [c], h => simp [Lx.signL] at h; obtain ⟨_, _, rfl⟩ := h; simp
  | c :: d :: r, h =>
    simp only [Lx.signL] at h
    split at h
    · injection h with h; injection h with _ h; subst h; simp
    · split at h
      · injection h with h; injection h with _ h; subst h; simp
      · cases h
theorem prefix_remark (l : List UInt8) : Lib.hasPrefix l [45, 45] = Lx.remarkB l := by
  match l with
  | [] => rfl
  | [c] => simp [Lib.hasPrefix, Lx.remarkB, List.isPrefixOf]
  | c :: d :: r =>
    have e : ∀ x : UInt8, (x.toNat == 45) = ((45 : UInt8) == x) := by
      intro x
      rw [Bool.eq_iff_iff, beq_iff_eq, beq_iff_eq]
      constructor
      · intro h; have : x = UInt8.ofNat 45 := by rw [← h]; simp
        rw [this]; rfl
      · intro h; rw [← h]; rfl
    simp only [Lib.hasPrefix, List.isPrefixOf, Lx.remarkB, e, Bool.and_true]
theorem ibeq (a : Nat) (b : Nat) : ((a : Int) == (b : Int)) = (a == b) := by
  rw [Bool.eq_iff_iff]; simp; omega
section
variable (s : ByteArray) (w wr : World) (f : Nat → Value) (out : Value) (acc : List Lx.Tok) (k : Nat)
theorem ext_list (hk : k ≤ s.size) : (s.extract k s.size).data.toList = s.data.toList.drop k := Lib.extract_to_end s k
theorem ext_size (hk : k ≤ s.size) : (s.extract k s.size).size = s.size - k := by
  rw [Lib.size_eq, Lib.extract_to_end]; simp
theorem pass_white (hs : s.size ≤ 4096) (hk : k < s.size) (hI : WInv w wr out acc) (hC : Came s.data.toList k acc) (hw : Lx.whiteB s[k] = true) :
    Code.wp Tryz.prog (restB 1) (LQ s w 1 k) (LFrame s w.heap.size out k f) wr := by
  have hC' : Came s.data.toList (k + 1) acc := hC.skip (by simpa using hk) 1 (blank_white s k hk hw) (Nat.le_refl 1)
  cases h32 : (s[k].toNat == 32) with
  | true => exact pass_whitea s w wr hs f out acc k hk hI hC' (by rw [← h32]; exact ibeq _ 32)
  | false =>
  cases h9 : (s[k].toNat == 9) with
  | true => exact pass_whiteb s w wr hs f out acc k hk hI hC' (by rw [← h32]; exact ibeq _ 32) (by rw [← h9]; exact ibeq _ 9)
  | false =>
  cases h10 : (s[k].toNat == 10) with
  | true => exact pass_whitec s w wr hs f out acc k hk hI hC' (by rw [← h32]; exact ibeq _ 32) (by rw [← h9]; exact ibeq _ 9) (by rw [← h10]; exact ibeq _ 10)
  | false =>
  have h13 : (s[k].toNat == 13) = true := by simpa [Lx.whiteB, h32, h9, h10] using hw
  exact pass_whited s w wr hs f out acc k hk hI hC' (by rw [← h32]; exact ibeq _ 32) (by rw [← h9]; exact ibeq _ 9) (by rw [← h10]; exact ibeq _ 10) (by rw [← h13]; exact ibeq _ 13)
theorem pass_tok (hs : s.size ≤ 4096) (hk : k < s.size) (hI : WInv w wr out acc) (hC : Came s.data.toList k acc) (hw : Lx.whiteB s[k] = false) (hr : Lx.remarkB (s.data.toList.drop k) = false) :
    Code.wp Tryz.prog (restB 1) (LQ s w 1 k) (LFrame s w.heap.size out k f) wr := by
  have hl : k < s.data.toList.length := by simpa using hk
  have hdrop := drop_at s k hk
  have hlen : (s.data.toList.drop k).length = s.size - k := by simp
  have hacc : acc.length ≤ k := by obtain ⟨_, _, _, h⟩ := hC; exact h
  have hb0 : Lx.blank1 (s.data.toList.drop k) = 0 := by rw [hdrop] at hr ⊢; simp [Lx.blank1, hw, hr]
  simp only [Lx.whiteB, Bool.or_eq_false_iff] at hw
  obtain ⟨⟨⟨h32, h9⟩, h10⟩, h13⟩ := hw
  have t32 : ((s[k].toNat : Int) == 32) = false := by rw [← h32]; exact ibeq _ 32
  have t9 : ((s[k].toNat : Int) == 9) = false := by rw [← h9]; exact ibeq _ 9
  have t10 : ((s[k].toNat : Int) == 10) = false := by rw [← h10]; exact ibeq _ 10
  have t13 : ((s[k].toNat : Int) == 13) = false := by rw [← h13]; exact ibeq _ 13
  have hpre : ∀ W, Calls Tryz.prog 55 #[.string (s.extract k s.size), .string ⟨#[45, 45]⟩] W fun e w' => e = .returned (.bool false) ∧ W = w' := fun W =>
    (Tryz.strings_HasPrefix (s.extract k s.size) ⟨#[45, 45]⟩ W).mono fun e w' ⟨he, hw'⟩ => ⟨by
      rw [he, ext_list s k (by omega)]
      have := prefix_remark (s.data.toList.drop k)
      rw [hr] at this
      exact ret_bool this, hw'.symm⟩
  have hxs := ext_size s k (by omega)
  have hxl := ext_list s k (by omega)
  have hot : Lx.oneTok (s.data.toList.drop k) = if Lx.letterB s[k] then Lx.wordL (s.data.toList.drop k) else if Lx.digitB s[k] then Lx.numberL (s.data.toList.drop k) else if s[k].toNat = 39 then Lx.textL (s.data.toList.drop (k + 1)) else Lx.signL (s.data.toList.drop k) := by
    rw [hdrop]; rfl
  cases hlt : Lx.letterB s[k] with
  | true =>
    rw [hlt, if_pos rfl] at hot
    obtain ⟨n, hn⟩ : ∃ n, n = Lx.runL Lx.innerB (s.data.toList.drop k) := ⟨_, rfl⟩
    have hn1 : 1 ≤ n := by rw [hn, hdrop]; exact runL_pos _ _ _ (by simp [Lx.innerB, hlt])
    have hn2 : n ≤ s.size - k := by rw [hn, ← hlen]; exact runL_le _ _
    have hrun : ∀ W, Calls Tryz.prog 57 #[.string (s.extract k s.size), .func (.func 58) #[] #[]] W fun e w' => e = .returned (.int .i64 (n : Int)) ∧ W = w' := fun W => by
      rw [hn, ← hxl]
      exact run_inner (s.extract k s.size) W (by rw [hxs]; unfold maxLen; omega)
    have hsx : (s.extract k (k + n)).data.toList = (s.data.toList.drop k).take n := by rw [Lib.extract_data]; congr 1; omega
    have hsm : ∀ W, Calls Tryz.prog 59 #[.string (s.extract k (k + n))] W fun e w' => e = .returned (.string ⟨(((s.data.toList.drop k).take n).map Lx.low).toArray⟩) ∧ Below W.heap.size W w' := fun W => by
      rw [← hsx]
      exact small_any _ W (by rw [Lib.size_eq, hsx]; simp only [List.length_take]; unfold maxLen; omega)
    unfold Lx.wordL at hot
    rw [← hn] at hot
    by_cases h32' : n ≤ 32
    · simp only [if_pos h32'] at hot
      exact pass_word_ok s w wr hs f out acc k hk hI ⟨1, ((s.data.toList.drop k).take n).map Lx.low, 0⟩ hacc t32 t9 t10 t13 hpre hlt n (by omega) _ hn1 (by simp; omega)
        (hC.tok hl hb0 _ n hot hn1) rfl hrun hsm
    · simp only [if_neg h32'] at hot
      exact pass_word_bad s w wr hs f out acc k hk hI (hC.wrong hl hb0 hot) t32 t9 t10 t13 hpre hlt n (by omega) _ (by simp; omega) hrun hsm
  | false =>
    rw [hlt] at hot
    simp only [Bool.false_eq_true, if_false] at hot
    cases hdg : Lx.digitB s[k] with
    | true =>
      rw [hdg, if_pos rfl] at hot
      have hcall := fun W => number_any (s.extract k s.size) W (by rw [hxs]; unfold maxLen; omega)
      rw [hxl, ← hot] at hcall
      cases ho : Lx.oneTok (s.data.toList.drop k) with
      | none =>
        rw [ho] at hcall
        exact pass_number_bad s w wr hs f out acc k hk hI (hC.wrong hl hb0 ho) t32 t9 t10 t13 hpre hlt hdg hcall
      | some x =>
        obtain ⟨t, n⟩ := x
        rw [ho] at hcall
        have hnn : n = Lx.runL Lx.digitB (s.data.toList.drop k) := by
          rw [hot] at ho; simp only [Lx.numberL] at ho; split at ho
          · injection ho with ho; injection ho with _ ho; exact ho.symm
          · cases ho
        have hn1 : 1 ≤ n := by rw [hnn, hdrop]; exact runL_pos _ _ _ hdg
        have hn2 : n ≤ s.size - k := by rw [hnn, ← hlen]; exact runL_le _ _
        exact pass_number_ok s w wr hs f out acc k hk hI t n (by omega) hn1 (hC.tok hl hb0 t n ho hn1) hacc t32 t9 t10 t13 hpre hlt hdg _ _ _ rfl hcall
    | false =>
      rw [hdg] at hot
      simp only [Bool.false_eq_true, if_false] at hot
      by_cases h39 : s[k].toNat = 39
      · rw [if_pos h39] at hot
        have t39 : ((s[k].toNat : Int) == 39) = true := by simp [h39]
        have hcall := fun W => quoted_any (s.extract k s.size) W (by rw [hxs]; omega)
        rw [hxl, List.drop_drop, ← hot] at hcall
        cases ho : Lx.oneTok (s.data.toList.drop k) with
        | none =>
          rw [ho] at hcall
          exact pass_text_bad s w wr hs f out acc k hk hI (hC.wrong hl hb0 ho) t32 t9 t10 t13 hpre hlt hdg t39 hcall
        | some x =>
          obtain ⟨t, n⟩ := x
          rw [ho] at hcall
          have hnn : 1 ≤ n ∧ n ≤ s.size - k := by
            rw [hot] at ho
            obtain ⟨y, hy, he⟩ := Option.map_eq_some_iff.1 ho
            injection he with _ he
            have := quoteL_size _ y hy
            simp at this; omega
          exact pass_text_ok s w wr hs f out acc k hk hI t n (by omega) hnn.1 (hC.tok hl hb0 t n ho hnn.1) hacc t32 t9 t10 t13 hpre hlt hdg t39 _ _ _ rfl hcall
      · rw [if_neg h39] at hot
        have t39 : ((s[k].toNat : Int) == 39) = false := by rw [beq_eq_false_iff_ne]; omega
        have hcall := fun W => sign_any (s.extract k s.size) W (by rw [hxs]; omega)
        rw [hxl, ← hot] at hcall
        cases ho : Lx.oneTok (s.data.toList.drop k) with
        | none =>
          rw [ho] at hcall
          exact pass_sign_bad s w wr hs f out acc k hk hI (hC.wrong hl hb0 ho) t32 t9 t10 t13 hpre hlt hdg t39 hcall
        | some x =>
          obtain ⟨t, n⟩ := x
          rw [ho] at hcall
          have hnn := signL_size _ t n (by rw [← hot]; exact ho)
          rw [hlen] at hnn
          exact pass_sign_ok s w wr hs f out acc k hk hI t n (by omega) hnn.1 (hC.tok hl hb0 t n ho hnn.1) hacc t32 t9 t10 t13 hpre hlt hdg t39 _ _ _ rfl hcall
theorem pass_rem (hs : s.size ≤ 4096) (hk : k < s.size) (hI : WInv w wr out acc) (hC : Came s.data.toList k acc) (hw : Lx.whiteB s[k] = false) (hr : Lx.remarkB (s.data.toList.drop k) = true) :
    Code.wp Tryz.prog (restB 1) (LQ s w 1 k) (LFrame s w.heap.size out k f) wr := by
  have hdrop := drop_at s k hk
  have hb0 : Lx.blank1 (s.data.toList.drop k) = Lx.runL Lx.noLine (s.data.toList.drop k) := by rw [hdrop] at hr ⊢; simp [Lx.blank1, hw, hr]
  have hc45 : s[k].toNat = 45 := by
    rw [hdrop] at hr
    cases hd : s.data.toList.drop (k + 1) with
    | nil => rw [hd] at hr; cases hr
    | cons d r => rw [hd] at hr; simp [Lx.remarkB] at hr; exact hr.1
  have hpos : 1 ≤ Lx.runL Lx.noLine (s.data.toList.drop k) := by rw [hdrop]; exact runL_pos _ _ _ (by simp [Lx.noLine, hc45])
  simp only [Lx.whiteB, Bool.or_eq_false_iff] at hw
  obtain ⟨⟨⟨h32, h9⟩, h10⟩, h13⟩ := hw
  have hpre : ∀ W, Calls Tryz.prog 55 #[.string (s.extract k s.size), .string ⟨#[45, 45]⟩] W fun e w' => e = .returned (.bool true) ∧ W = w' := fun W =>
    (Tryz.strings_HasPrefix (s.extract k s.size) ⟨#[45, 45]⟩ W).mono fun e w' ⟨he, hw'⟩ => ⟨by
      rw [he, ext_list s k (by omega)]
      have := prefix_remark (s.data.toList.drop k)
      rw [hr] at this
      exact ret_bool this, hw'.symm⟩
  exact pass_remark s w wr hs f out acc k hk hI hC (by rw [← h32]; exact ibeq _ 32) (by rw [← h9]; exact ibeq _ 9) (by rw [← h10]; exact ibeq _ 10) (by rw [← h13]; exact ibeq _ 13) hpre hb0 hpos
theorem pass1 (hs : s.size ≤ 4096) (hk : k ≤ s.size) (hI : WInv w wr out acc) (hC : Came s.data.toList k acc) :
    Code.wp Tryz.prog (restB 1) (LQ s w 1 k) (LFrame s w.heap.size out k f) wr := by
  by_cases h : k = s.size
  · subst h; exact pass_end s w wr hs f out acc hI hC
  · have hk' : k < s.size := by omega
    cases hw : Lx.whiteB s[k] with
    | true => exact pass_white s w wr f out acc k hs hk' hI hC hw
    | false =>
      cases hr : Lx.remarkB (s.data.toList.drop k) with
      | true => exact pass_rem s w wr f out acc k hs hk' hI hC hw hr
      | false => exact pass_tok s w wr f out acc k hs hk' hI hC hw hr
end
end Go.Proofs.YtbeinfhgfflneaaGreat
end
section
namespace Go.Proofs.YtbeinfhgfflneaaGreat
open Go.RowKit
set_option linter.unusedVariables false
set_option maxRecDepth 100000 in
theorem LQ_of {s : ByteArray} {w : World} {lb k : Nat} {a : Act} {wr : World} (ha : a.tmps.getD 8 undef = .int .i64 (k : Int)) : ∀ e a' w', LQ s w lb k e a' w' →
    Exit.jumps (fun l' a' w' => LJ s w l' a' w' ∧ Lmu s l' a' w' < Lmu s lb a wr) (bodyPost Tryz.prog Tryz.f33 (WordsPost s.data.toList w)) e a' w' := by
  intro e a' w' h
  cases e with
  | goto l =>
    obtain ⟨h1, h2⟩ := h
    refine ⟨h1, Nat.lt_of_lt_of_le h2 ?_⟩
    unfold Lmu
    rw [ha]
    exact Nat.le_refl _
  | _ => exact h
theorem pass1_at (s : ByteArray) (w wr : World) (out : Value) (acc : List Lx.Tok) (k : Nat) (hs : s.size ≤ 4096) (hk : k ≤ s.size) (hI : WInv w wr out acc) (hC : Came s.data.toList k acc) (a : Act)
    (hd : a.defers = []) (hz : a.tmps.size = 130) (h0 : a.tmps.getD 0 undef = .string s) (h5 : a.tmps.getD 5 undef = out) (h6 : a.tmps.getD 6 undef = .pointer (some ⟨w.heap.size, 0, none⟩)) (h8 : a.tmps.getD 8 undef = .int .i64 (k : Int)) :
    Code.wp Tryz.prog (restB 1) (LQ s w 1 k) a wr := by
  rw [LFrame_of a hd hz h0 h5 h6 h8]
  exact pass1 s w wr _ out acc k hs hk hI hC
theorem LQ_first {s : ByteArray} {w : World} : ∀ e a' w', LQ s w 1 0 e a' w' → Exit.jumps (LJ s w) (bodyPost Tryz.prog Tryz.f33 (WordsPost s.data.toList w)) e a' w' := by
  intro e a' w' h
  cases e with
  | goto l => exact h.1
  | _ => exact h
theorem came0 (l : List UInt8) : Came l 0 [] := ⟨l.length + 1, rfl, by omega, by simp⟩
theorem winv0 (w : World) : WInv w (w.alloc (.cells #[.int .i64 0, .string ⟨#[]⟩, .int .i64 0, .int .i64 0] 66)) (.slice none 0 0) [] :=
  ⟨⟨rfl, .inl ⟨rfl, rfl⟩⟩, ⟨_, _, _, _, heap_new w _⟩, (Below.refl _ _).alloc (Nat.le_refl _) _, by simp⟩
set_option maxHeartbeats 1000000 in
set_option maxRecDepth 100000 in
theorem words_any (s : ByteArray) (w : World) (hs : s.size ≤ 4096) :
    Calls Tryz.prog 33 #[.string s] w (WordsPost s.data.toList w) := by
  have hd : decide ((4096 : Int) < (s.size : Int)) = false := by simp; omega
  go_enter Tryz.func33, Tryz.ntmps33
  go_wp2
  refine scope_jumps (LJ s w) (Lmu s) ?_ ?_
  · go_wp2
    go_step3
    go_step
    go_step
    exact Code.wp_mono LQ_first (pass1_at s w _ (.slice none 0 0) [] 0 hs (Nat.zero_le _) (winv0 w) (came0 _) _ rfl rfl rfl rfl rfl rfl)
  · intro l a wr hJ
    obtain ⟨f, out, k, acc, rfl, hI, hC, hk, h⟩ := hJ
    rcases h with rfl | ⟨rfl, hk', hb, hb1⟩ | ⟨rfl, rfl⟩
    · exact ⟨restC 1, find1, by rw [rest1]; exact wp_seq_k (fun _ hK => wp_skip (hK _ _ (Code.wp_mono (LQ_of rfl) (pass1 s w wr f out acc k hs hk hI hC))))⟩
    · have hl : k < s.data.toList.length := by simpa using hk'
      have hle : Lx.runL Lx.noLine (s.data.toList.drop k) ≤ s.size - k := by
        have := runL_le Lx.noLine (s.data.toList.drop k)
        simp at this; omega
      have hrun : ∀ W, Calls Tryz.prog 57 #[.string (s.extract k s.size), .func (.func 64) #[] #[]] W fun e w' => e = .returned (.int .i64 (Lx.runL Lx.noLine (s.data.toList.drop k) : Nat)) ∧ W = w' := fun W => by
        rw [← ext_list s k hk]
        exact run_noLine (s.extract k s.size) W (by rw [ext_size s k hk]; unfold maxLen; omega)
      exact ⟨restC 2, find2, Code.wp_mono (LQ_of rfl) (pass2 s w wr hs f out acc k _ hk' (by omega) hb1 hI (hC.skip hl _ hb hb1) hrun)⟩
    · have hacc : acc.length ≤ s.size := by obtain ⟨_, _, _, h⟩ := hC; exact h
      have hlen : s.data.toList.length = s.size := by simp
      have hg := Came.done (l := s.data.toList) (acc := acc) (by rw [hlen]; exact hC)
      rw [hlen] at hg
      exact ⟨restC 0, find0, Code.wp_mono (LQ_of rfl) (pass0 s w wr hs f out acc hacc hI hg)⟩
set_option maxHeartbeats 1000000 in
set_option maxRecDepth 100000 in
theorem words_long (s : ByteArray) (w : World) (hs : 4096 < s.size) (hm : s.size ≤ maxLen) :
    Calls Tryz.prog 33 #[.string s] w fun e w' => e = .returned (.tuple #[.slice none 0 0, .int .i64 2, .int .i64 0]) ∧ Below w.heap.size w w' := by
  have hd : decide ((4096 : Int) < (s.size : Int)) = true := by simp; omega
  go_enter Tryz.func33, Tryz.ntmps33
  go_wp2
  go_step3
  go_wp2
  rw [Exit.noGoto_ret]
  go_ret3
  exact ⟨rfl, (Below.refl _ _).alloc (Nat.le_refl _) _⟩
end Go.Proofs.YtbeinfhgfflneaaGreat
end
section
namespace Go.Proofs.YtbeinfhgfflneaaGreat
open Lx
def wordsB : Bytes := [32, 97, 108, 108, 32, 97, 110, 100, 32, 97, 115, 32, 97, 115, 99, 32, 98, 101, 103, 105, 110, 32, 98, 101, 116, 119, 101, 101, 110, 32, 98, 111, 111, 108, 32, 98, 121, 32, 99, 111, 97, 108, 101, 115, 99, 101, 32, 99, 111, 108, 117, 109, 110, 32, 99, 111, 109, 109, 105, 116, 32, 99, 111, 117, 110, 116, 32, 99, 114, 101, 97, 116, 101, 32, 100, 101, 108, 101, 116, 101, 32, 100, 101, 115, 99, 32, 100, 105, 115, 116, 105, 110, 99, 116, 32, 100, 114, 111, 112, 32, 101, 110, 100, 32, 101, 120, 105, 115, 116, 115, 32, 101, 120, 112, 108, 97, 105, 110, 32, 102, 97, 108, 115, 101, 32, 102, 114, 111, 109, 32, 103, 114, 111, 117, 112, 32, 104, 97, 118, 105, 110, 103, 32, 105, 110, 32, 105, 110, 100, 101, 120, 32, 105, 110, 110, 101, 114, 32, 105, 110, 115, 101, 114, 116, 32, 105, 110, 116, 32, 105, 110, 116, 111, 32, 105, 115, 32, 106, 111, 105, 110, 32, 107, 101, 121, 32, 108, 101, 110, 103, 116, 104, 32, 108, 105, 109, 105, 116, 32, 109, 97, 120, 32, 109, 105, 110, 32, 110, 111, 116, 32, 110, 117, 108, 108, 32, 111, 102, 102, 115, 101, 116, 32, 111, 110, 32, 111, 114, 32, 111, 114, 100, 101, 114, 32, 112, 114, 105, 109, 97, 114, 121, 32, 114, 101, 108, 101, 97, 115, 101, 32, 114, 111, 108, 108, 98, 97, 99, 107, 32, 115, 97, 118, 101, 112, 111, 105, 110, 116, 32, 115, 101, 108, 101, 99, 116, 32, 115, 101, 116, 32, 115, 117, 109, 32, 116, 97, 98, 108, 101, 32, 116, 101, 120, 116, 32, 116, 111, 32, 116, 114, 117, 101, 32, 117, 110, 105, 113, 117, 101, 32, 117, 112, 100, 97, 116, 101, 32, 118, 97, 108, 117, 101, 115, 32, 119, 104, 101, 114, 101, 32]
def keptL : List Bytes := [[97, 108, 108], [97, 110, 100], [97, 115], [97, 115, 99], [98, 101, 103, 105, 110], [98, 101, 116, 119, 101, 101, 110], [98, 111, 111, 108], [98, 121], [99, 111, 97, 108, 101, 115, 99, 101], [99, 111, 108, 117, 109, 110], [99, 111, 109, 109, 105, 116], [99, 111, 117, 110, 116], [99, 114, 101, 97, 116, 101], [100, 101, 108, 101, 116, 101], [100, 101, 115, 99], [100, 105, 115, 116, 105, 110, 99, 116], [100, 114, 111, 112], [101, 110, 100], [101, 120, 105, 115, 116, 115], [101, 120, 112, 108, 97, 105, 110], [102, 97, 108, 115, 101], [102, 114, 111, 109], [103, 114, 111, 117, 112], [104, 97, 118, 105, 110, 103], [105, 110], [105, 110, 100, 101, 120], [105, 110, 110, 101, 114], [105, 110, 115, 101, 114, 116], [105, 110, 116], [105, 110, 116, 111], [105, 115], [106, 111, 105, 110], [107, 101, 121], [108, 101, 110, 103, 116, 104], [108, 105, 109, 105, 116], [109, 97, 120], [109, 105, 110], [110, 111, 116], [110, 117, 108, 108], [111, 102, 102, 115, 101, 116], [111, 110], [111, 114], [111, 114, 100, 101, 114], [112, 114, 105, 109, 97, 114, 121], [114, 101, 108, 101, 97, 115, 101], [114, 111, 108, 108, 98, 97, 99, 107], [115, 97, 118, 101, 112, 111, 105, 110, 116], [115, 101, 108, 101, 99, 116], [115, 101, 116], [115, 117, 109], [116, 97, 98, 108, 101], [116, 101, 120, 116], [116, 111], [116, 114, 117, 101], [117, 110, 105, 113, 117, 101], [117, 112, 100, 97, 116, 101], [118, 97, 108, 117, 101, 115], [119, 104, 101, 114, 101]]
theorem kept_all : keptL.all (fun x => Lib.contains wordsB (32 :: (x ++ [32])) && !(x.contains 32) && !x.isEmpty) = true := by decide +kernel
theorem piece_all : (List.range 331).all (fun i => !((wordsB.drop i).head? == some 32) || (let x := (wordsB.drop (i + 1)).takeWhile (fun c => c != 32); x.isEmpty || keptL.contains x)) = true := by decide +kernel
theorem take_piece (s r : Bytes) (h : s.contains 32 = false) : (s ++ 32 :: r).takeWhile (fun c => c != 32) = s := by
  induction s with
  | nil => simp
  | cons c s ih =>
    simp only [List.contains_cons, Bool.or_eq_false_iff] at h
    have hc : (c != 32) = true := by
      have := h.1
      rw [bne_iff_ne]
      intro e; subst e; simp at this
    rw [List.cons_append, List.takeWhile_cons, if_pos hc, ih h.2]
theorem kept_eq (s : Bytes) (h0 : s ≠ []) (h32 : s.contains 32 = false) : Lib.contains wordsB (32 :: (s ++ [32])) = keptL.contains s := by
  rw [Bool.eq_iff_iff]
  constructor
  · intro h
    unfold Lib.contains at h
    rw [decide_eq_true_eq] at h
    rcases Lib.index_spec wordsB (32 :: (s ++ [32])) with ⟨h1, _⟩ | ⟨i, h1, h2, h3, _⟩
    · omega
    · unfold Lib.occAt at h3
      rw [List.isPrefixOf_iff_prefix] at h3
      obtain ⟨t, ht⟩ := h3
      have hlen : wordsB.length = 331 := by decide +kernel
      have hi : i < 331 := by
        have := congrArg List.length ht
        simp at this; omega
      have hp := List.all_eq_true.1 piece_all i (List.mem_range.2 hi)
      have hd1 : wordsB.drop (i + 1) = s ++ 32 :: t := by
        rw [← List.drop_drop, ← ht]; simp
      rw [hd1, take_piece s t h32, ← ht] at hp
      have he : s.isEmpty = false := by cases s with | nil => exact absurd rfl h0 | cons _ _ => rfl
      simp only [he, List.cons_append, List.head?_cons, beq_self_eq_true, Bool.not_true, Bool.false_or] at hp
      exact hp
  · intro h
    have hm : s ∈ keptL := by simpa using h
    have := List.all_eq_true.1 kept_all s hm
    simp only [Bool.and_eq_true] at this
    exact this.1.1
theorem kept_facts (s : Bytes) (h : keptL.contains s = true) : s ≠ [] ∧ s.contains 32 = false := by
  have hm : s ∈ keptL := by simpa using h
  have := List.all_eq_true.1 kept_all s hm
  simp only [Bool.and_eq_true, Bool.not_eq_true'] at this
  refine ⟨?_, this.1.2⟩
  intro e; subst e; simp at this
def keptB (s : Bytes) : Bool := keptL.contains s
theorem indexByte_contains (s : Bytes) (c : UInt8) : decide (0 ≤ Lib.indexByte s c) = s.contains c := (Lib.contains_iff_indexByte s c).symm
theorem kept_false (s : Bytes) (h : s = [] ∨ s.contains 32 = true) : keptB s = false := by
  rw [← Bool.not_eq_true]
  intro e
  obtain ⟨h1, h2⟩ := kept_facts s e
  rcases h with h | h
  · exact h1 h
  · rw [h] at h2; cases h2
end Go.Proofs.YtbeinfhgfflneaaGreat
end
section
namespace Go.Proofs.YtbeinfhgfflneaaGreat
open Go.RowKit
set_option linter.unusedVariables false
def bs (l : List UInt8) : ByteArray := ⟨l.toArray⟩
theorem ibeq' (a : Nat) (b : Nat) : ((a : Int) == (b : Int)) = (a == b) := by
  rw [Bool.eq_iff_iff]; simp; omega
theorem cell_lt {w : World} {g j : Nat} {u : Value} (h : w.cell? ⟨g, j, none⟩ = some u) : g < w.heap.size := by
  rcases Nat.lt_or_ge g w.heap.size with h' | h'
  · exact h'
  · simp [World.cell?, Array.getElem?_eq_none h'] at h
theorem keep_cell {w w' : World} {g j : Nat} {u : Value} (h : w.cell? ⟨g, j, none⟩ = some u) (hb : Below w.heap.size w w') : w'.cell? ⟨g, j, none⟩ = some u :=
  (hb.cell (p := ⟨g, j, none⟩) (cell_lt h)).trans h
set_option maxHeartbeats 1000000 in
set_option maxRecDepth 100000 in
theorem reserved_full (s : ByteArray) (m : Int) (w : World) (h0 : s.data.toList ≠ []) (hs : s.size ≤ 140737488355328) (hm : w.cell? ⟨0, 0, none⟩ = some (.int .i64 m)) :
    Calls Tryz.prog 137 #[.string s] w fun e w' => e = .returned (.bool (keptB s.data.toList)) ∧ w' = w := by
  have hne2 : ¬ s.toList = [] := by rw [ByteArray.toList_eq]; exact h0
  have hne : s.toList.isEmpty = false := by cases h : s.toList with | nil => exact absurd h hne2 | cons _ _ => rfl
  have hk := fun h32 => kept_eq s.data.toList h0 h32
  have hc1 := Tryz.strings_Contains_one s 32
  rw [indexByte_contains] at hc1
  have hsub : (⟨#[32]⟩ ++ s ++ ⟨#[32]⟩ : ByteArray).data.toList = 32 :: (s.data.toList ++ [32]) := by simp
  go_enter Tryz.func137, Tryz.ntmps137
  go_wp2_with fail
  refine (hc1 _).mono ?_
  rintro e w1 ⟨rfl, rfl⟩
  cases h32 : s.data.toList.contains 32 with
  | true =>
    have hkf := hid (kept_false s.data.toList (.inr h32))
    go_wp2
    go_ret
    exact ⟨by rw [hkf.out]; rfl, rfl⟩
  | false =>
    have hkt := hid (hk h32)
    clear hk hc1
    go_wp2_with fail
    refine (Tryz.strings_Contains _ _ m _ (by decide +kernel) hm).mono ?_
    rintro e w2 ⟨rfl, rfl⟩
    rw [hsub]
    have hkw : ∀ b, Lib.contains wordsB b = Lib.contains wordsB b := fun _ => rfl
    go_wp2
    go_ret
    exact ⟨congrArg (fun x => Ending.returned (.bool x)) hkt.out, rfl⟩
open Lx in
def okB (c : UInt8) : Bool := digitB c || (letterB c && !upperB c)
open Lx in
theorem ok_char (c : UInt8) : okB c = (innerB c && low c == c) := by
  have : ∀ n : Fin 256, okB (UInt8.ofNat n.val) = (innerB (UInt8.ofNat n.val) && low (UInt8.ofNat n.val) == UInt8.ofNat n.val) := by decide +kernel
  have h := this ⟨c.toNat, c.toNat_lt⟩
  simpa using h
open Lx in
theorem runL_full (p : UInt8 → Bool) (l : List UInt8) : (runL p l == l.length) = l.all p := by
  induction l with
  | nil => rfl
  | cons c r ih =>
    simp only [runL, List.all_cons, List.length_cons]
    cases p c with
    | true => simp only [if_true, Bool.true_and, ← ih]; rw [Bool.eq_iff_iff]; simp
    | false => simp
open Lx in
theorem low_full (l : List UInt8) : (l.map low == l) = l.all (fun c => low c == c) := by
  induction l with
  | nil => rfl
  | cons c r ih => simp only [List.map_cons, List.all_cons, ← ih]; rfl
open Lx in
theorem ok_full (l : List UInt8) : l.all okB = (runL innerB l == l.length && l.map low == l) := by
  rw [runL_full, low_full]
  induction l with
  | nil => rfl
  | cons c r ih =>
    simp only [List.all_cons, ih, ok_char]
    cases innerB c <;> cases (low c == c) <;> simp
open Lx in
def nameB (l : List UInt8) : Bool := match l with
  | [] => false
  | c :: r => decide ((c :: r).length ≤ 32) && !digitB c && (c :: r).all okB && !keptB (c :: r)
set_option maxHeartbeats 1000000 in
set_option maxRecDepth 100000 in
theorem name_empty (w : World) :
    Calls Tryz.prog 133 #[.string ⟨#[]⟩] w fun e w' => e = .returned (.bool false) ∧ w' = w := by
  go_enter Tryz.func133, Tryz.ntmps133
  go_wp2
  go_ret
  exact ⟨rfl, rfl⟩
set_option maxHeartbeats 1000000 in
set_option maxRecDepth 100000 in
theorem name_full (s : ByteArray) (m : Int) (w : World) (c : UInt8) (r : List UInt8) (hc : s.data.toList = c :: r) (hs : s.size ≤ 140737488355328) (hm : w.cell? ⟨0, 0, none⟩ = some (.int .i64 m)) :
    Calls Tryz.prog 133 #[.string s] w fun e w' => e = .returned (.bool (nameB s.data.toList)) ∧ Below w.heap.size w w' := by
  have hne2 : ¬ s.toList = [] := by rw [ByteArray.toList_eq, hc]; simp
  have hne : s.toList.isEmpty = false := by cases h : s.toList with | nil => exact absurd h hne2 | cons _ _ => rfl
  have hpos : 0 < s.size := by
    have := congrArg List.length hc
    simp at this; omega
  have hget : s[0] = c := by
    have : s.data.toList[0]? = some c := by rw [hc]; rfl
    simp at this
    exact (Array.getElem?_eq_some_iff.1 this).2
  have hnB : nameB s.data.toList = (decide (s.size ≤ 32) && !Lx.digitB c && (Lx.runL Lx.innerB s.data.toList == s.size && s.data.toList.map Lx.low == s.data.toList) && !keptB s.data.toList) := by
    have e : s.size = s.data.toList.length := by simp
    rw [e, ← ok_full, hc]; rfl
  have hsm : s.size ≤ maxLen := by unfold maxLen; omega
  have HnB := hid hnB
  clear hnB
  have hne0 : Hid (s.data.toList ≠ []) := by refine hid ?_; rw [hc]; simp
  clear hc
  cases h32 : decide (s.size ≤ 32) with
  | false =>
    have t32 : decide ((s.size : Int) ≤ 32) = false := by simp at h32 ⊢; omega
    have hv : Hid (nameB s.data.toList = false) := by refine hid ?_; rw [HnB.out, h32]; rfl
    go_enter Tryz.func133, Tryz.ntmps133
    go_wp2
    go_ret
    exact ⟨by rw [hv.out]; rfl, Below.refl _ _⟩
  | true =>
    have t32 : decide ((s.size : Int) ≤ 32) = true := by simp at h32 ⊢; omega
    go_enter Tryz.func133, Tryz.ntmps133
    go_wp2_with fail
    refine (digit_any c _).mono ?_
    rintro e w' ⟨rfl, rfl⟩
    cases hd : Lx.digitB c with
    | true =>
      have hv : Hid (nameB s.data.toList = false) := by refine hid ?_; rw [HnB.out, hd]; simp
      go_wp2
      go_ret
      exact ⟨by rw [hv.out]; rfl, Below.refl _ _⟩
    | false =>
      go_wp2_with fail
      refine (run_inner s _ hsm).mono ?_
      rintro e w' ⟨rfl, rfl⟩
      cases hr : (Lx.runL Lx.innerB s.data.toList == s.size) with
      | false =>
        have tr : ((Lx.runL Lx.innerB s.data.toList : Int) == (s.size : Int)) = false := by rw [← hr]; exact ibeq' _ _
        have hv : Hid (nameB s.data.toList = false) := by refine hid ?_; rw [HnB.out, hr]; simp
        go_wp2
        go_ret
        exact ⟨by rw [hv.out]; rfl, Below.refl _ _⟩
      | true =>
        have tr : ((Lx.runL Lx.innerB s.data.toList : Int) == (s.size : Int)) = true := by rw [← hr]; exact ibeq' _ _
        have hv : Hid (nameB s.data.toList = ((s.data.toList.map Lx.low == s.data.toList) && !keptB s.data.toList)) := by refine hid ?_; rw [HnB.out, hr, h32, hd]; rfl
        clear HnB
        generalize Lx.runL Lx.innerB s.data.toList = rn at *
        clear hr
        go_wp2_with fail
        refine (small_any s _ hsm).mono ?_
        rintro e w2 ⟨rfl, hb2⟩
        have hll : (⟨(s.data.toList.map Lx.low).toArray⟩ : ByteArray).toList = s.data.toList.map Lx.low := ByteArray.toList_mk _
        have hsl : s.toList = s.data.toList := ByteArray.toList_eq s
        have heq : ((⟨(s.data.toList.map Lx.low).toArray⟩ : ByteArray).toList == s.toList) = (s.data.toList.map Lx.low == s.data.toList) := by rw [hll, hsl]
        clear hll hsl
        generalize (⟨(s.data.toList.map Lx.low).toArray⟩ : ByteArray) = lo at *
        cases hl : (s.data.toList.map Lx.low == s.data.toList) with
        | false =>
          rw [hl] at heq hv
          go_wp2
          go_ret
          exact ⟨by rw [hv.out]; rfl, hb2⟩
        | true =>
          rw [hl] at heq hv
          have hm2 := keep_cell hm hb2
          go_wp2_with fail
          refine (reserved_full s m _ hne0.out hs hm2).mono ?_
          rintro e w3 ⟨rfl, rfl⟩
          have hv2 : nameB s.data.toList = !keptB s.data.toList := hv.out
          clear hv
          generalize keptB s.data.toList = kb at *
          have Hv2 := hid hv2
          clear hv2
          cases kb with
          | true =>
            go_wp2
            go_ret
            exact ⟨by rw [Hv2.out]; rfl, hb2⟩
          | false =>
            go_wp2
            go_ret
            exact ⟨by rw [Hv2.out]; rfl, hb2⟩
theorem empty_of (s : ByteArray) (h : s.data.toList = []) : s = ⟨#[]⟩ := by
  apply ByteArray.ext
  apply Array.ext'
  simpa using h
theorem name_any (s : ByteArray) (m : Int) (w : World) (hs : s.size ≤ 140737488355328) (hm : w.cell? ⟨0, 0, none⟩ = some (.int .i64 m)) :
    Calls Tryz.prog 133 #[.string s] w fun e w' => e = .returned (.bool (nameB s.data.toList)) ∧ Below w.heap.size w w' := by
  cases h : s.data.toList with
  | nil =>
    have e := empty_of s h
    subst e
    exact (name_empty w).mono fun e w' ⟨h1, h2⟩ => ⟨h1, by rw [h2]; exact Below.refl _ _⟩
  | cons c r => rw [← h]; exact name_full s m w c r h hs hm
end Go.Proofs.YtbeinfhgfflneaaGreat
end
section
namespace Go.Proofs.YtbeinfhgfflneaaGreat
set_option linter.unusedVariables false
structure Hd where
  op : Int
  v : V := nul
  tab : ByteArray := ⟨#[]⟩
  name : ByteArray := ⟨#[]⟩
  t : Int := 0
  c : Int := 0
  nt : Bool := false
  st : Bool := false
inductive Ex where
  | mk (h : Hd) (ks : List Ex)
def Ex.hd : Ex → Hd
  | .mk h _ => h
def Ex.ks : Ex → List Ex
  | .mk _ ks => ks
inductive Ps where
  | ok (l : List Lx.Tok) (d : Nat)
  | bad (e : Int) (at_ : Nat)
def Ps.good : Ps → Bool
  | .ok _ _ => true
  | .bad _ _ => false
def Ps.size : Ps → Nat
  | .ok l _ => l.length
  | .bad _ _ => 0
def txt (l : List UInt8) : ByteArray := ⟨l.toArray⟩
def Ps.is (k : Nat) (c : ByteArray) : Ps → Bool
  | .ok (t :: _) _ => t.tk.kind == k && t.tk.text == c.data.toList
  | _ => false
def Ps.fail (e : Int) : Ps → Ps
  | .ok (t :: _) _ => .bad e t.pos
  | .ok [] _ => .bad e 0
  | s => s
def Ps.step : Ps → Ps
  | .ok (t :: r) d => if t.tk.kind = 5 then .ok (t :: r) d else .ok r d
  | s => s
def Ps.may (k : Nat) (c : ByteArray) (s : Ps) : Bool × Ps := if s.is k c then (true, s.step) else (false, s)
abbrev Ps.word (c : ByteArray) (s : Ps) : Bool × Ps := s.may 1 c
def Ps.need (k : Nat) (c : ByteArray) (s : Ps) : Ps := if s.is k c then s.step else s.fail 180
def Ps.down : Ps → Ps
  | .ok l d => if d = 24 then Ps.fail 181 (.ok l d) else .ok l (d + 1)
  | s => s
def Ps.up : Ps → Ps
  | .ok l d => .ok l (d - 1)
  | s => s
def Ps.headK : Ps → Nat
  | .ok (t :: _) _ => t.tk.kind
  | _ => 0
def Ps.headT : Ps → List UInt8
  | .ok (t :: _) _ => t.tk.text
  | _ => []
def Ps.headN : Ps → Nat
  | .ok (t :: _) _ => t.tk.num
  | _ => 0
def Ps.tail : Ps → Ps
  | .ok (_ :: r) d => .ok r d
  | s => s
def Ps.isName (s : Ps) : Bool := s.headK == 1 && nameB s.headT
def Ps.name (s : Ps) : ByteArray × Ps := if s.isName then (txt s.headT, s.step) else (⟨#[]⟩, s.fail 180)
def Ps.num (s : Ps) : Int × Ps := if s.headK == 2 then ((s.headN : Int), s.step) else (0, s.fail 180)
abbrev Pa (α : Type) := Ps → α × Ps
def tre (op : Int) (ks : List Ex) : Ex := .mk { op := op } ks
def noEx : Ex := .mk { op := 0 } []
def lefts (ops : List (ByteArray × Int)) (k : Nat) (p : Pa Ex) : Nat → Ex → Pa Ex
  | 0, e, s => (e, s)
  | n + 1, e, s => match ops.find? (fun o => s.is k o.1) with
    | some o => let q := p s.step; lefts ops k p n (tre o.2 [e, q.1]) q.2
    | none => (e, s)
def left (ops : List (ByteArray × Int)) (k : Nat) (p : Pa Ex) : Pa Ex := fun s => let q := p s; lefts ops k p q.2.size q.1 q.2
def ahead (k : Nat) (c : ByteArray) (op : Int) (p : Pa Ex) : Nat → Pa Ex
  | 0, s => p s
  | n + 1, s => if s.is k c then (if s.down.good then let q := ahead k c op p n s.down.step; (tre op [q.1], q.2.up) else (noEx, s.down)) else p s
def seps {α : Type} (p : Pa α) : Nat → List α → Pa (List α)
  | 0, l, s => (l, s)
  | n + 1, l, s => let q := p s; if q.2.is 4 ⟨#[44]⟩ then seps p n (l ++ [q.1]) q.2.step else (l ++ [q.1], q.2)
def sep {α : Type} (p : Pa α) : Pa (List α) := fun s => seps p (s.size + 1) [] s
def sums (p : Pa Ex) : Pa Ex := left [(⟨#[43]⟩, 18), (⟨#[45]⟩, 19), (⟨#[124, 124]⟩, 23)] 4 p
def prods (p : Pa Ex) : Pa Ex := left [(⟨#[42]⟩, 20), (⟨#[47]⟩, 21), (⟨#[37]⟩, 22)] 4 p
def minuses (p : Pa Ex) : Pa Ex := fun s => ahead 4 ⟨#[45]⟩ 24 p s.size s
def nots (p : Pa Ex) : Pa Ex := fun s => ahead 1 ⟨#[110, 111, 116]⟩ 8 p s.size s
def ands (p : Pa Ex) : Pa Ex := left [(⟨#[97, 110, 100]⟩, 7)] 1 p
def ors (p : Pa Ex) : Pa Ex := left [(⟨#[111, 114]⟩, 6)] 1 p
def listS (E : Pa Ex) : Pa (List Ex) := fun s =>
  if s.is 4 ⟨#[40]⟩ then (if s.down.good then let q := sep E s.down.step; (q.1, (q.2.need 4 ⟨#[41]⟩).up) else ([], s.down)) else ([], s.fail 180)
def cmpOps : List (ByteArray × Int) := [(⟨#[61]⟩, 9), (⟨#[60, 62]⟩, 10), (⟨#[60]⟩, 11), (⟨#[60, 61]⟩, 12), (⟨#[62]⟩, 13), (⟨#[62, 61]⟩, 14)]
def betweens (p : Pa Ex) (n : Bool) (a : Ex) (s : Ps) : Ex × Ps :=
  let b := p s
  let c := p (b.2.need 1 ⟨#[97, 110, 100]⟩)
  (.mk { op := 17, nt := n } [a, b.1, c.1], c.2)
def compareT (p : Pa Ex) (E : Pa Ex) (a : Ex) (s : Ps) : Ex × Ps :=
  match cmpOps.find? (fun o => s.is 4 o.1) with
  | some o => let b := p s.step; (tre o.2 [a, b.1], b.2)
  | none =>
    if s.is 1 ⟨#[105, 115]⟩ then
      let n := s.step.word ⟨#[110, 111, 116]⟩
      (.mk { op := 15, nt := n.1 } [a], n.2.need 1 ⟨#[110, 117, 108, 108]⟩)
    else
      let n := s.word ⟨#[110, 111, 116]⟩
      if n.2.is 1 ⟨#[105, 110]⟩ then let l := listS E n.2.step; (.mk { op := 16, nt := n.1 } (a :: l.1), l.2)
      else if n.2.is 1 ⟨#[98, 101, 116, 119, 101, 101, 110]⟩ then betweens p n.1 a n.2.step
      else if n.1 then (a, n.2.fail 180) else (a, n.2)
def compares (p : Pa Ex) (E : Pa Ex) : Pa Ex := fun s => let a := p s; compareT p E a.1 a.2
def folds (l : List UInt8) : Bool := l == (⟨#[99, 111, 117, 110, 116]⟩ : ByteArray).data.toList || l == (⟨#[115, 117, 109]⟩ : ByteArray).data.toList || l == (⟨#[109, 105, 110]⟩ : ByteArray).data.toList || l == (⟨#[109, 97, 120]⟩ : ByteArray).data.toList
def built (l : List UInt8) : Bool := folds l || l == (⟨#[108, 101, 110, 103, 116, 104]⟩ : ByteArray).data.toList || l == (⟨#[99, 111, 97, 108, 101, 115, 99, 101]⟩ : ByteArray).data.toList
def callS (E : Pa Ex) (name : List UInt8) (s : Ps) : Ex × Ps :=
  if s.down.good then
    let s1 := s.down.step.need 4 ⟨#[40]⟩
    if name == (⟨#[99, 111, 117, 110, 116]⟩ : ByteArray).data.toList && s1.is 4 ⟨#[42]⟩ then (.mk { op := 4, name := txt name, st := true } [], (s1.step.need 4 ⟨#[41]⟩).up)
    else if folds name then let q := E s1; (.mk { op := 4, name := txt name } [q.1], (q.2.need 4 ⟨#[41]⟩).up)
    else let q := sep E s1; (.mk { op := 5, name := txt name } q.1, (q.2.need 4 ⟨#[41]⟩).up)
  else (noEx, s.down)
def nameS (s : Ps) : Ex × Ps :=
  let n := s.name
  if n.2.is 4 ⟨#[46]⟩ then let m := n.2.step.name; (.mk { op := 2, tab := n.1, name := m.1 } [], m.2) else (.mk { op := 2, name := n.1 } [], n.2)
def litE (v : V) : Ex := .mk { op := 1, v := v } []
def single (E : Pa Ex) (s : Ps) : Ex × Ps :=
  if s.headK == 2 then (litE (numV s.headN), s.step)
  else if s.headK == 3 then (litE (textV (txt s.headT)), s.step)
  else if s.is 1 ⟨#[116, 114, 117, 101]⟩ then (litE (boolV true), s.step)
  else if s.is 1 ⟨#[102, 97, 108, 115, 101]⟩ then (litE (boolV false), s.step)
  else if s.is 1 ⟨#[110, 117, 108, 108]⟩ then (litE nul, s.step)
  else if s.is 4 ⟨#[40]⟩ then (if s.down.good then let q := E s.down.step; (q.1, (q.2.need 4 ⟨#[41]⟩).up) else (noEx, s.down))
  else if s.headK == 1 && (built s.headT || nameB s.headT && s.tail.is 4 ⟨#[40]⟩) then callS E s.headT s
  else nameS s
def lvl (E : Pa Ex) : Pa Ex := ors (ands (nots (compares (sums (prods (minuses (single E)))) E)))
def expr : Nat → Pa Ex
  | 0 => lvl (fun s => (noEx, s))
  | n + 1 => lvl (expr n)
def exprS : Pa Ex := fun s => expr s.size s
end Go.Proofs.YtbeinfhgfflneaaGreat
end
section
set_option linter.unusedSimpArgs false
namespace Vl
def fitsB (n : Int) : Bool := decide (-9223372036854775808 ≤ n) && decide (n ≤ 9223372036854775807)
def lo (n : Int) : Nat := (n % 18446744073709551616).toNat
def hi (n : Int) : Nat := if n < 0 then 18446744073709551615 else 0
theorem lo_val (n : Int) : (lo n : Int) = n % 18446744073709551616 := by unfold lo; omega
def wholeB (h l : Nat) : Bool := (h == 0 && decide (l < 9223372036854775808)) || (h == 18446744073709551615 && decide (9223372036854775808 ≤ l))
def sgn (l : Nat) : Int := if l < 9223372036854775808 then (l : Int) else (l : Int) - 18446744073709551616
theorem hi_lo (n : Int) (h : fitsB n = true) : (n < 0 ∧ hi n = 18446744073709551615 ∧ (lo n : Int) = n + 18446744073709551616) ∨ (0 ≤ n ∧ hi n = 0 ∧ (lo n : Int) = n) := by
  have h1 := lo_val n
  simp only [fitsB, Bool.and_eq_true, decide_eq_true_eq] at h
  unfold hi
  by_cases h2 : n < 0
  · left; rw [if_pos h2]; exact ⟨h2, rfl, by omega⟩
  · right; rw [if_neg h2]; exact ⟨by omega, rfl, by omega⟩
theorem whole_iff (h l : Nat) : wholeB h l = true ↔ (h = 0 ∧ l < 9223372036854775808) ∨ (h = 18446744073709551615 ∧ 9223372036854775808 ≤ l) := by
  unfold wholeB
  simp only [Bool.or_eq_true, Bool.and_eq_true, beq_iff_eq, decide_eq_true_eq]
theorem fits_iff (n : Int) : fitsB n = true ↔ -9223372036854775808 ≤ n ∧ n ≤ 9223372036854775807 := by
  unfold fitsB
  simp only [Bool.and_eq_true, decide_eq_true_eq]
theorem whole_of (n : Int) (h l : Nat) (hl : l < 18446744073709551616) (hh : h < 18446744073709551616) (hn1 : -170141183460469231731687303715884105728 ≤ n) (hn2 : n < 170141183460469231731687303715884105728)
    (e : ∃ c : Int, (h : Int) * 18446744073709551616 + l = n + c * 340282366920938463463374607431768211456) :
    wholeB h l = fitsB n ∧ (fitsB n = true → sgn l = n) := by
  obtain ⟨c, e⟩ := e
  have hc : (0 ≤ n ∧ c = 0) ∨ (n < 0 ∧ c = 1) := by omega
  constructor
  · rw [Bool.eq_iff_iff, whole_iff, fits_iff]
    rcases hc with ⟨h0, rfl⟩ | ⟨h0, rfl⟩ <;> constructor <;> intro h1 <;> omega
  · intro hf
    rw [fits_iff] at hf
    unfold sgn
    rcases hc with ⟨h0, rfl⟩ | ⟨h0, rfl⟩ <;> split <;> omega
theorem add_whole (a b : Int) (ha : fitsB a = true) (hb : fitsB b = true) :
    wholeB ((hi a + hi b + (lo a + lo b) / 18446744073709551616) % 18446744073709551616) ((lo a + lo b) % 18446744073709551616) = fitsB (a + b) ∧
    (fitsB (a + b) = true → sgn ((lo a + lo b) % 18446744073709551616) = a + b) := by
  have h1 := hi_lo a ha
  have h2 := hi_lo b hb
  rw [fits_iff] at ha hb
  generalize lo a = la at *
  generalize lo b = lb at *
  refine whole_of _ _ _ (by omega) (by omega) (by omega) (by omega) ?_
  rcases h1 with ⟨h1, h3, h4⟩ | ⟨h1, h3, h4⟩ <;> rcases h2 with ⟨h2, h5, h6⟩ | ⟨h2, h5, h6⟩ <;> rw [h3, h5]
  · exact ⟨1, by omega⟩
  · by_cases h7 : la + lb < 18446744073709551616
    · exact ⟨1, by omega⟩
    · exact ⟨0, by omega⟩
  · by_cases h7 : la + lb < 18446744073709551616
    · exact ⟨1, by omega⟩
    · exact ⟨0, by omega⟩
  · exact ⟨0, by omega⟩
def owe (x y : Nat) : Nat := if x < y then 1 else 0
theorem sub_whole (a b : Int) (ha : fitsB a = true) (hb : fitsB b = true) :
    wholeB ((hi a + 36893488147419103232 - hi b - owe (lo a) (lo b)) % 18446744073709551616) ((lo a + 18446744073709551616 - lo b) % 18446744073709551616) = fitsB (a - b) ∧
    (fitsB (a - b) = true → sgn ((lo a + 18446744073709551616 - lo b) % 18446744073709551616) = a - b) := by
  have h1 := hi_lo a ha
  have h2 := hi_lo b hb
  rw [fits_iff] at ha hb
  generalize lo a = la at *
  generalize lo b = lb at *
  have ho : (la < lb ∧ owe la lb = 1) ∨ (lb ≤ la ∧ owe la lb = 0) := by unfold owe; split <;> omega
  generalize owe la lb = o at *
  refine whole_of _ _ _ (by omega) (by omega) (by omega) (by omega) ?_
  rcases h1 with ⟨h1, h3, h4⟩ | ⟨h1, h3, h4⟩ <;> rcases h2 with ⟨h2, h5, h6⟩ | ⟨h2, h5, h6⟩ <;> rw [h3, h5] <;> rcases ho with ⟨h7, rfl⟩ | ⟨h7, rfl⟩
  all_goals first
    | exact ⟨0, by omega⟩
    | exact ⟨1, by omega⟩
def signedOk (n : Nat) (below : Bool) : Bool := if below then decide (n ≤ 9223372036854775808) else decide (n ≤ 9223372036854775807)
def signedV (n : Nat) (below : Bool) : Int := if below then -(n : Int) else n
theorem signed_of (n : Int) (m : Nat) (below : Bool) (e : signedV m below = n) (hz : below = true → 0 < m) : signedOk m below = fitsB n := by
  subst e
  rw [Bool.eq_iff_iff, fits_iff]
  cases below with
  | true => have := hz rfl; simp only [signedOk, signedV, if_true, decide_eq_true_eq]; omega
  | false => simp only [signedOk, signedV, Bool.false_eq_true, if_false, decide_eq_true_eq]; omega
def neg (n : Int) : Bool := decide (n < 0)
theorem mul_signed (a b : Int) :
    signedV (a.natAbs * b.natAbs) ((neg a != neg b) && decide (0 < a.natAbs * b.natAbs)) = a * b := by
  have key : ∀ x y : Nat, ((x : Int) * (y : Int)) = ((x * y : Nat) : Int) := fun x y => by simp
  rcases Int.natAbs_eq a with ha | ha <;> rcases Int.natAbs_eq b with hb | hb
  all_goals
    generalize a.natAbs = x at *
    generalize b.natAbs = y at *
    subst ha hb
    simp only [Int.neg_mul, Int.mul_neg, Int.neg_neg, key, signedV, neg]
    have hx : x = 0 ∨ 0 < x := by omega
    have hy : y = 0 ∨ 0 < y := by omega
    rcases hx with rfl | hx
    · simp
    rcases hy with rfl | hy
    · simp
    have h0 : 0 < x * y := Nat.mul_pos hx hy
    have h1 : ¬ ((x : Int) < 0) := by omega
    have h2 : ¬ ((y : Int) < 0) := by omega
    have h3 : (-(x : Int) < 0) := by omega
    have h4 : (-(y : Int) < 0) := by omega
    simp [h0, h1, h2, h3, h4]
    try omega
theorem div_signed (a b : Int) :
    signedV (a.natAbs / b.natAbs) ((neg a != neg b) && decide (0 < a.natAbs / b.natAbs)) = a.tdiv b := by
  have key : ∀ x y : Nat, ((x : Int).tdiv (y : Int)) = ((x / y : Nat) : Int) := fun x y => rfl
  rcases Int.natAbs_eq a with ha | ha <;> rcases Int.natAbs_eq b with hb | hb
  all_goals
    generalize a.natAbs = x at *
    generalize b.natAbs = y at *
    subst ha hb
    simp only [Int.neg_tdiv, Int.tdiv_neg, Int.neg_neg, key, signedV, neg]
    have hx : x = 0 ∨ 0 < x := by omega
    have hy : y = 0 ∨ 0 < y := by omega
    rcases hx with rfl | hx
    · simp
    rcases hy with rfl | hy
    · simp
    have h1 : ¬ ((x : Int) < 0) := by omega
    have h2 : ¬ ((y : Int) < 0) := by omega
    have h3 : (-(x : Int) < 0) := by omega
    have h4 : (-(y : Int) < 0) := by omega
    generalize x / y = q at *
    have hq : q = 0 ∨ 0 < q := by omega
    rcases hq with rfl | hq
    · simp
    simp only [h1, h2, h3, h4, hq, decide_true, decide_false, bne_self_eq_false, Bool.false_and, Bool.and_true, Bool.true_bne, Bool.false_bne, Bool.not_false, Bool.not_true, if_true, Bool.false_eq_true, if_false]
    try rfl
theorem mod_signed (a b : Int) :
    signedV (a.natAbs % b.natAbs) (neg a && decide (0 < a.natAbs % b.natAbs)) = a.tmod b := by
  have key : ∀ x y : Nat, ((x : Int).tmod (y : Int)) = ((x % y : Nat) : Int) := fun x y => rfl
  rcases Int.natAbs_eq a with ha | ha <;> rcases Int.natAbs_eq b with hb | hb
  all_goals
    generalize a.natAbs = x at *
    generalize b.natAbs = y at *
    subst ha hb
    simp only [Int.neg_tmod, Int.tmod_neg, Int.neg_neg, key, signedV, neg]
    have hx : x = 0 ∨ 0 < x := by omega
    rcases hx with rfl | hx
    · simp
    have h1 : ¬ ((x : Int) < 0) := by omega
    have h3 : (-(x : Int) < 0) := by omega
    generalize x % y = q at *
    have hq : q = 0 ∨ 0 < q := by omega
    rcases hq with rfl | hq
    · simp
    simp only [h1, h3, hq, decide_true, decide_false, Bool.false_and, Bool.and_true, if_true, Bool.false_eq_true, if_false]
    try rfl
end Vl
end
section
namespace Go.Proofs.YtbeinfhgfflneaaGreat
open Go.RowKit
theorem vnumber_any (n : Int) (w : World) : Calls Tryz.prog 94 #[.int .i64 n] w fun e w' => e = .returned (.agg #[.int .i64 1, .int .i64 n, .string ⟨#[]⟩, .bool false]) ∧ Gr w w' := by
  go_enter Tryz.func94, Tryz.ntmps94
  go_wp2
  go_returns
  exact ⟨rfl, (Gr.refl _).alloc _⟩
theorem magnitude_any (n : Int) (w : World) (h : Vl.fitsB n = true) : Calls Tryz.prog 112 #[.int .i64 n] w fun e w' => e = .returned (.tuple #[.int .u64 n.natAbs, .bool (Vl.neg n)]) ∧ w' = w := by
  rw [Vl.fits_iff] at h
  go_enter Tryz.func112, Tryz.ntmps112
  go_wp2
  · have h1 : Vl.neg n = true := by simp [Vl.neg]; omega
    have h2 : IntKind.u64.wrap (-IntKind.u64.wrap n) = n.natAbs := by rw [uwrap, uwrap]; omega
    go_returns
    exact ⟨by rw [h1, ← h2]; rfl, rfl⟩
  · have h1 : Vl.neg n = false := by simp [Vl.neg]; omega
    have h2 : n = n.natAbs := by omega
    go_returns
    refine ⟨?_, rfl⟩
    rw [h1, ← h2]; rfl
theorem wide_any (n : Int) (w : World) (h : Vl.fitsB n = true) : Calls Tryz.prog 113 #[.int .i64 n] w fun e w' => e = .returned (.tuple #[.int .u64 (Vl.hi n), .int .u64 (Vl.lo n)]) ∧ w' = w := by
  rw [Vl.fits_iff] at h
  have h1 : IntKind.u64.wrap (n / 9223372036854775808) = Vl.hi n := by rw [uwrap]; unfold Vl.hi; split <;> omega
  have h2 : IntKind.u64.wrap n = Vl.lo n := by rw [uwrap, Vl.lo_val]
  have H1 := hid h1; clear h1
  have H2 := hid h2; clear h2
  go_enter Tryz.func113, Tryz.ntmps113
  go_wp2
  go_returns
  refine ⟨?_, rfl⟩
  rw [← H1.out, ← H2.out]; rfl
theorem truth_any (b : Bool) (w : World) : Calls Tryz.prog 97 #[.bool b] w fun e w' => e = .returned (.agg #[.int .i64 3, .int .i64 0, .string ⟨#[]⟩, .bool b]) ∧ Gr w w' := by
  go_enter Tryz.func97, Tryz.ntmps97
  go_wp2
  go_returns
  exact ⟨rfl, (Gr.refl _).alloc _⟩
theorem ktruth_any (b : Bool) (w : World) : Calls Tryz.prog 111 #[.bool b] w fun e w' => e = .returned (.int .u8 (if b then 1 else 0)) ∧ w' = w := by
  go_enter Tryz.func111, Tryz.ntmps111
  cases b
  all_goals go_wp2
  all_goals go_returns
  all_goals exact ⟨rfl, rfl⟩
end Go.Proofs.YtbeinfhgfflneaaGreat
end
section
namespace Go.Proofs.YtbeinfhgfflneaaGreat
open Go.RowKit
set_option linter.unusedSimpArgs false
def wholeR (h l : Nat) : V × Int := if Vl.wholeB h l then (numV (Vl.sgn l), 0) else (nul, 161)
set_option maxRecDepth 100000 in
theorem whole_any (h l : Nat) (w : World) (hh : h < 18446744073709551616) (hl : l < 18446744073709551616) : Calls Tryz.prog 115 #[.int .u64 h, .int .u64 l] w fun e w' => e = pairR (wholeR h l) ∧ Gr w w' := by
  have hW := Vl.whole_iff h l
  have hS : Hid (wrap64 (l : Int) = Vl.sgn l) := by
    refine hid ?_
    unfold Vl.sgn; unfold wrap64; split <;> omega
  obtain ⟨b1, t1⟩ : ∃ b, ((h : Int) == 0) = b := ⟨_, rfl⟩
  obtain ⟨b2, t2⟩ : ∃ b, decide ((l : Int) < 9223372036854775808) = b := ⟨_, rfl⟩
  obtain ⟨b3, t3⟩ : ∃ b, ((h : Int) == 18446744073709551615) = b := ⟨_, rfl⟩
  obtain ⟨b4, t4⟩ : ∃ b, decide (9223372036854775808 ≤ (l : Int)) = b := ⟨_, rfl⟩
  have hb : Vl.wholeB h l = ((b1 && b2) || (b3 && b4)) := by
    rw [← t1, ← t2, ← t3, ← t4, Bool.eq_iff_iff, hW]
    simp only [Bool.or_eq_true, Bool.and_eq_true, beq_iff_eq, decide_eq_true_eq]
    omega
  have hr : Hid (pairR (wholeR h l) = .returned (.tuple #[.agg #[.int .i64 (if ((b1 && b2) || (b3 && b4)) then 1 else 0), .int .i64 (if ((b1 && b2) || (b3 && b4)) then wrap64 (l : Int) else 0), .string ⟨#[]⟩, .bool false], .int .i64 (if ((b1 && b2) || (b3 && b4)) then 0 else 161)])) := by
    refine hid ?_
    unfold wholeR
    rw [hb, hS.out]
    cases ((b1 && b2) || (b3 && b4)) <;> rfl
  clear hW hh hl hb hS
  generalize pairR (wholeR h l) = R at *
  cases b1 <;> cases b2 <;> cases b3 <;> cases b4
  all_goals simp only [Bool.and_self, Bool.and_false, Bool.false_and, Bool.or_self, Bool.or_false, Bool.false_or, Bool.or_true, Bool.true_or, Bool.and_true, Bool.true_and, if_true, Bool.false_eq_true, if_false] at hr
  all_goals
    go_enter Tryz.func115, Tryz.ntmps115
    go_wp2_with (first | (go_at_call 94; refine (vnumber_any _ _).mono ?_; rintro e w' ⟨rfl, hg⟩; have hc := hg.cells; have hf := hg.frees))
    all_goals first
      | (refine bodyPost_ret (by simp [results, Tryz.results115, go_sem, hc]; try rfl) rfl ⟨?_, hg.own.set4 (Nat.le_refl _) _ _ _ _⟩; rw [hr.out])
      | (go_returns; exact ⟨by rw [hr.out], (Gr.refl _).alloc _⟩)
def signedR (n : Nat) (b : Bool) : V × Int := if Vl.signedOk n b then (numV (Vl.signedV n b), 0) else (nul, 161)
set_option maxRecDepth 100000 in
theorem signed_above (n : Nat) (w : World) (hl : n < 18446744073709551616) : Calls Tryz.prog 118 #[.int .u64 n, .bool false] w fun e w' => e = pairR (signedR n false) ∧ Gr w w' := by
  obtain ⟨b1, t1⟩ : ∃ b, decide (9223372036854775807 < (n : Int)) = b := ⟨_, rfl⟩
  have hr : Hid (pairR (signedR n false) = .returned (.tuple #[.agg #[.int .i64 (if b1 then 0 else 1), .int .i64 (if b1 then 0 else n), .string ⟨#[]⟩, .bool false], .int .i64 (if b1 then 161 else 0)])) := by
    refine hid ?_
    have h1 : Vl.signedOk n false = !b1 := by
      rw [← t1]
      simp only [Vl.signedOk, Bool.false_eq_true, if_false]
      by_cases h : n ≤ 9223372036854775807 <;> simp [h] <;> omega
    unfold signedR
    rw [h1]
    cases b1 <;> rfl
  have hw : b1 = false → wrap64 (n : Int) = n := fun h => by subst h; simp at t1; unfold wrap64; omega
  generalize pairR (signedR n false) = R at *
  cases b1
  all_goals simp only [Bool.false_eq_true, if_false, if_true] at hr
  · have hx := hw rfl
    clear hw hl
    go_enter Tryz.func118, Tryz.ntmps118
    go_wp2_with (first | (go_at_call 94; refine (vnumber_any _ _).mono ?_; rintro e w' ⟨rfl, hg⟩; have hc := hg.cells; have hf := hg.frees))
    refine bodyPost_ret (by simp [results, Tryz.results118, go_sem, hc]; try rfl) rfl ⟨?_, hg.own.set4 (Nat.le_refl _) _ _ _ _⟩; rw [hr.out]
  · clear hw hl
    go_enter Tryz.func118, Tryz.ntmps118
    go_wp2
    go_returns; exact ⟨by rw [hr.out], (Gr.refl _).alloc _⟩
set_option maxRecDepth 100000 in
theorem signed_below (n : Nat) (w : World) (h0 : 0 < n) (hl : n < 18446744073709551616) : Calls Tryz.prog 118 #[.int .u64 n, .bool true] w fun e w' => e = pairR (signedR n true) ∧ Gr w w' := by
  obtain ⟨b1, t1⟩ : ∃ b, decide (9223372036854775808 < (n : Int)) = b := ⟨_, rfl⟩
  have hr : Hid (pairR (signedR n true) = .returned (.tuple #[.agg #[.int .i64 (if b1 then 0 else 1), .int .i64 (if b1 then 0 else -n), .string ⟨#[]⟩, .bool false], .int .i64 (if b1 then 161 else 0)])) := by
    refine hid ?_
    have h1 : Vl.signedOk n true = !b1 := by
      rw [← t1]
      simp only [Vl.signedOk, if_true]
      by_cases h : n ≤ 9223372036854775808 <;> simp [h] <;> omega
    unfold signedR
    rw [h1]
    cases b1 <;> rfl
  have hw : b1 = false → wrap64 (IntKind.u64.wrap (-(n : Int))) = -n := fun h => by subst h; simp at t1; rw [uwrap]; unfold wrap64; omega
  generalize pairR (signedR n true) = R at *
  cases b1
  all_goals simp only [Bool.false_eq_true, if_false, if_true] at hr
  · have hx := hw rfl
    clear hw hl h0
    go_enter Tryz.func118, Tryz.ntmps118
    go_wp2_with (first | (go_at_call 94; refine (vnumber_any _ _).mono ?_; rintro e w' ⟨rfl, hg⟩; have hc := hg.cells; have hf := hg.frees))
    refine bodyPost_ret (by simp [results, Tryz.results118, go_sem, hc]; try rfl) rfl ⟨?_, hg.own.set4 (Nat.le_refl _) _ _ _ _⟩; rw [hr.out]
  · clear hw hl h0
    go_enter Tryz.func118, Tryz.ntmps118
    go_wp2
    go_returns; exact ⟨by rw [hr.out], (Gr.refl _).alloc _⟩
end Go.Proofs.YtbeinfhgfflneaaGreat
end
section
namespace Go.Proofs.YtbeinfhgfflneaaGreat
open Go.RowKit
set_option linter.unusedSimpArgs false
set_option linter.unusedVariables false
theorem add64_run (x y c : Nat) (hc : c ≤ 1) (w : World) :
    (callFunc 114 #[.int .u64 x, .int .u64 y, .int .u64 c]).run Tryz.prog w =
      .ok (.value (.tuple #[.int .u64 (((x + y + c) % 18446744073709551616 : Nat) : Int), .int .u64 (((x + y + c) / 18446744073709551616 : Nat) : Int)])) w := by
  rw [run_callFunc_extern Tryz.func114 (by kernel_rfl) (by kernel_rfl) (by kernel_rfl) (e := add64Entry) (by kernel_rfl), run_add64 x y c (by omega) (by omega) (by omega) (by omega)]
  simp only [Result.andThen]
  congr 5 <;> omega
theorem sub64_run (x y b : Nat) (hb : b ≤ 1) (w : World) :
    (callFunc 116 #[.int .u64 x, .int .u64 y, .int .u64 b]).run Tryz.prog w =
      .ok (.value (.tuple #[.int .u64 (((x + 18446744073709551616 - y - b) % 18446744073709551616 : Nat) : Int), .int .u64 ((if x < y + b then 1 else 0 : Nat) : Int)])) w := by
  rw [run_callFunc_extern Tryz.func116 (by kernel_rfl) (by kernel_rfl) (by kernel_rfl) (e := sub64Entry) (by kernel_rfl), run_sub64 x y b hb]
  rfl
def fitR (n : Int) : V × Int := if Vl.fitsB n then (numV n, 0) else (nul, 161)
theorem whole_fit (h l : Nat) (n : Int) (h1 : Vl.wholeB h l = Vl.fitsB n) (h2 : Vl.fitsB n = true → Vl.sgn l = n) : wholeR h l = fitR n := by
  unfold wholeR fitR
  rw [h1]
  cases hf : Vl.fitsB n with
  | true => rw [if_pos rfl, if_pos rfl, h2 hf]
  | false => rfl
theorem signed_fit (m : Nat) (b : Bool) (n : Int) (h1 : Vl.signedV m b = n) (hz : b = true → 0 < m) : signedR m b = fitR n := by
  unfold signedR fitR
  rw [Vl.signed_of n m b h1 hz, h1]
theorem hi_lt (n : Int) : Vl.hi n < 18446744073709551616 := by unfold Vl.hi; split <;> omega
theorem lo_lt (n : Int) : Vl.lo n < 18446744073709551616 := by unfold Vl.lo; omega
set_option maxHeartbeats 1000000 in
set_option maxRecDepth 100000 in
theorem arith_add (a b : Int) (w : World) (ha : Vl.fitsB a = true) (hb : Vl.fitsB b = true) :
    Calls Tryz.prog 99 #[.int .i64 18, .int .i64 a, .int .i64 b] w fun e w' => e = pairR (fitR (a + b)) ∧ Gr w w' := by
  obtain ⟨h1, h2⟩ := Vl.add_whole a b ha hb
  have hr := hid (whole_fit _ _ _ h1 h2)
  clear h1 h2
  have M1 := fun W => magnitude_any a W ha
  have M2 := fun W => magnitude_any b W hb
  have W1 := fun W => wide_any a W ha
  have W2 := fun W => wide_any b W hb
  have la := lo_lt a
  have lb := lo_lt b
  clear ha hb
  generalize fitR (a + b) = R at *
  generalize Vl.hi a = xh at *
  generalize Vl.lo a = xl at *
  generalize Vl.hi b = yh at *
  generalize Vl.lo b = yl at *
  generalize a.natAbs = am at *
  generalize b.natAbs = bm at *
  generalize Vl.neg a = an at *
  generalize Vl.neg b = bn at *
  have A1 := fun W => add64_run xl yl 0 (by omega) W
  have A2 := fun W => add64_run xh yh ((xl + yl + 0) / 18446744073709551616) (by omega) W
  simp only [Nat.add_zero, Int.natCast_zero] at A1 A2
  have lt1 : (xh + yh + (xl + yl) / 18446744073709551616) % 18446744073709551616 < 18446744073709551616 := Nat.mod_lt _ (by decide)
  have lt2 : (xl + yl) % 18446744073709551616 < 18446744073709551616 := Nat.mod_lt _ (by decide)
  have C := fun W => whole_any _ _ W lt1 lt2
  rw [hr.out] at C
  clear lt1 lt2 hr la lb
  generalize (xh + yh + (xl + yl) / 18446744073709551616) % 18446744073709551616 = sh at *
  generalize (xh + yh + (xl + yl) / 18446744073709551616) / 18446744073709551616 = sc at *
  generalize (xl + yl) % 18446744073709551616 = sl at *
  generalize (xl + yl) / 18446744073709551616 = sd at *
  obtain ⟨⟨rt, rn, rs, rb⟩, re⟩ := R
  unfold pairR at C ⊢
  go_enter Tryz.func99, Tryz.ntmps99
  go_wp2_with fail
  refine (M1 _).mono ?_
  rintro e w' ⟨rfl, rfl⟩
  go_wp2_with fail
  refine (M2 _).mono ?_
  rintro e w' ⟨rfl, rfl⟩
  go_wp2_with fail
  refine (W1 _).mono ?_
  rintro e w' ⟨rfl, rfl⟩
  go_wp2_with fail
  refine (W2 _).mono ?_
  rintro e w' ⟨rfl, rfl⟩
  clear M1 M2 W1 W2
  go_wp2_with fail
  refine (C _).mono ?_
  rintro e w' ⟨rfl, hg⟩
  have hc := hg.cells
  have hf := hg.frees
  go_wp2_with fail
  refine bodyPost_ret (by simp [results, Tryz.results99, go_sem, hc]; try rfl) rfl ⟨rfl, hg.own.set4 (Nat.le_refl _) _ _ _ _⟩
set_option maxHeartbeats 1000000 in
set_option maxRecDepth 100000 in
theorem arith_sub (a b : Int) (w : World) (ha : Vl.fitsB a = true) (hb : Vl.fitsB b = true) :
    Calls Tryz.prog 99 #[.int .i64 19, .int .i64 a, .int .i64 b] w fun e w' => e = pairR (fitR (a - b)) ∧ Gr w w' := by
  obtain ⟨h1, h2⟩ := Vl.sub_whole a b ha hb
  have hr := hid (whole_fit _ _ _ h1 h2)
  clear h1 h2
  have M1 := fun W => magnitude_any a W ha
  have M2 := fun W => magnitude_any b W hb
  have W1 := fun W => wide_any a W ha
  have W2 := fun W => wide_any b W hb
  have la := lo_lt a
  have lb := lo_lt b
  have hi_b := hi_lt b
  clear ha hb
  generalize fitR (a - b) = R at *
  generalize Vl.hi a = xh at *
  generalize Vl.lo a = xl at *
  generalize Vl.hi b = yh at *
  generalize Vl.lo b = yl at *
  generalize a.natAbs = am at *
  generalize b.natAbs = bm at *
  generalize Vl.neg a = an at *
  generalize Vl.neg b = bn at *
  have A1 := fun W => sub64_run xl yl 0 (by omega) W
  have ho1 : Vl.owe xl yl ≤ 1 := by unfold Vl.owe; split <;> omega
  have A2 := fun W => sub64_run xh yh (Vl.owe xl yl) ho1 W
  have e1 : (if xl < yl + 0 then 1 else 0 : Nat) = Vl.owe xl yl := rfl
  rw [e1] at A1
  have e2 : xh + 18446744073709551616 - yh - Vl.owe xl yl = xh + 18446744073709551616 - yh - Vl.owe xl yl := rfl
  have e3 : (xh + 18446744073709551616 - yh - Vl.owe xl yl) % 18446744073709551616 = (xh + 36893488147419103232 - yh - Vl.owe xl yl) % 18446744073709551616 := by
    have := hi_b
    omega
  rw [e3] at A2
  simp only [Nat.sub_zero, Int.natCast_zero] at A1 A2
  have lt1 : (xh + 36893488147419103232 - yh - Vl.owe xl yl) % 18446744073709551616 < 18446744073709551616 := Nat.mod_lt _ (by decide)
  have lt2 : (xl + 18446744073709551616 - yl) % 18446744073709551616 < 18446744073709551616 := Nat.mod_lt _ (by decide)
  have C := fun W => whole_any _ _ W lt1 lt2
  rw [hr.out] at C
  clear lt1 lt2 hr la lb ho1 e1 e2 e3 hi_b
  generalize (if xh < yh + Vl.owe xl yl then 1 else 0 : Nat) = sc at *
  generalize (xh + 36893488147419103232 - yh - Vl.owe xl yl) % 18446744073709551616 = sh at *
  generalize (xl + 18446744073709551616 - yl) % 18446744073709551616 = sl at *
  generalize Vl.owe xl yl = sd at *
  obtain ⟨⟨rt, rn, rs, rb⟩, re⟩ := R
  unfold pairR at C ⊢
  go_enter Tryz.func99, Tryz.ntmps99
  go_wp2_with fail
  refine (M1 _).mono ?_
  rintro e w' ⟨rfl, rfl⟩
  go_wp2_with fail
  refine (M2 _).mono ?_
  rintro e w' ⟨rfl, rfl⟩
  go_wp2_with fail
  refine (W1 _).mono ?_
  rintro e w' ⟨rfl, rfl⟩
  go_wp2_with fail
  refine (W2 _).mono ?_
  rintro e w' ⟨rfl, rfl⟩
  clear M1 M2 W1 W2
  go_wp2_with fail
  refine (C _).mono ?_
  rintro e w' ⟨rfl, hg⟩
  have hc := hg.cells
  have hf := hg.frees
  go_wp2_with fail
  refine bodyPost_ret (by simp [results, Tryz.results99, go_sem, hc]; try rfl) rfl ⟨rfl, hg.own.set4 (Nat.le_refl _) _ _ _ _⟩
end Go.Proofs.YtbeinfhgfflneaaGreat
end
section
namespace Go.Proofs.YtbeinfhgfflneaaGreat
open Go.RowKit
set_option linter.unusedSimpArgs false
set_option linter.unusedVariables false
theorem signed_any (n : Nat) (b : Bool) (w : World) (hz : b = true → 0 < n) (hl : n < 18446744073709551616) : Calls Tryz.prog 118 #[.int .u64 n, .bool b] w fun e w' => e = pairR (signedR n b) ∧ Gr w w' := by
  cases b with
  | true => exact signed_below n w (hz rfl) hl
  | false => exact signed_above n w hl
set_option maxHeartbeats 1000000 in
set_option maxRecDepth 100000 in
theorem arith_mul (a b : Int) (w : World) (ha : Vl.fitsB a = true) (hb : Vl.fitsB b = true) :
    Calls Tryz.prog 99 #[.int .i64 20, .int .i64 a, .int .i64 b] w fun e w' => e = pairR (fitR (a * b)) ∧ Gr w w' := by
  have h1 := Vl.mul_signed a b
  have M1 := fun W => magnitude_any a W ha
  have M2 := fun W => magnitude_any b W hb
  have W1 := fun W => wide_any a W ha
  have W2 := fun W => wide_any b W hb
  have la : a.natAbs < 18446744073709551616 := by rw [Vl.fits_iff] at ha; omega
  have lb : b.natAbs < 18446744073709551616 := by rw [Vl.fits_iff] at hb; omega
  clear ha hb
  generalize a * b = n at *
  generalize Vl.hi a = xh at *
  generalize Vl.lo a = xl at *
  generalize Vl.hi b = yh at *
  generalize Vl.lo b = yl at *
  generalize a.natAbs = am at *
  generalize b.natAbs = bm at *
  generalize Vl.neg a = an at *
  generalize Vl.neg b = bn at *
  have B := fun W => Tryz.bits_Mul64 am bm la lb W
  by_cases hbig : am * bm < 18446744073709551616
  · rw [Nat.div_eq_of_lt hbig, Nat.mod_eq_of_lt hbig] at B
    clear la lb
    generalize am * bm = m at *
    have hz : ((an != bn) && decide (0 < m)) = true → 0 < m := fun h => by
      rw [Bool.and_eq_true] at h; exact of_decide_eq_true h.2
    have S := fun W => signed_any m ((an != bn) && decide (0 < m)) W hz hbig
    rw [signed_fit m _ n h1 hz] at S
    clear hz hbig h1
    generalize fitR n = R at *
    obtain ⟨⟨rt, rn, rs, rb⟩, re⟩ := R
    unfold pairR at S ⊢
    simp only [Int.natCast_zero] at B
    cases an <;> cases bn
    all_goals simp only [bne_self_eq_false, Bool.true_bne, Bool.false_bne, Bool.not_true, Bool.not_false, Bool.and_self, Bool.and_false, Bool.false_and, Bool.true_and] at S
    all_goals
      go_enter Tryz.func99, Tryz.ntmps99
      go_wp2_with fail
      refine (M1 _).mono ?_
      rintro e w' ⟨rfl, rfl⟩
      go_wp2_with fail
      refine (M2 _).mono ?_
      rintro e w' ⟨rfl, rfl⟩
      go_wp2_with fail
      refine (W1 _).mono ?_
      rintro e w' ⟨rfl, rfl⟩
      go_wp2_with fail
      refine (W2 _).mono ?_
      rintro e w' ⟨rfl, rfl⟩
      clear M1 M2 W1 W2
      go_wp2_with fail
      refine (B _).mono ?_
      rintro e w' ⟨rfl, hw⟩
      subst hw
      go_wp2_with fail
      refine (S _).mono ?_
      rintro e w' ⟨rfl, hg⟩
      have hc := hg.cells
      have hf := hg.frees
      go_wp2_with fail
      refine bodyPost_ret (by simp [results, Tryz.results99, go_sem, hc]; try rfl) rfl ⟨rfl, hg.own.set4 (Nat.le_refl _) _ _ _ _⟩
  · have hov : Vl.fitsB n = false := by
      have hm : 0 < am * bm := by omega
      have h3 := Vl.signed_of n (am * bm) _ h1 (fun _ => hm)
      rw [← h3]
      unfold Vl.signedOk
      split <;> simp <;> omega
    have hr : Hid (pairR (fitR n) = .returned (.tuple #[.agg #[.int .i64 0, .int .i64 0, .string ⟨#[]⟩, .bool false], .int .i64 161])) := by
      refine hid ?_
      unfold fitR
      rw [hov]; rfl
    have hh : decide (0 < am * bm / 18446744073709551616) = true := by
      rw [decide_eq_true_eq]
      exact Nat.div_pos (by omega) (by decide)
    clear h1 hbig hov la lb
    generalize am * bm / 18446744073709551616 = mh at *
    generalize am * bm % 18446744073709551616 = ml at *
    generalize pairR (fitR n) = R at *
    go_enter Tryz.func99, Tryz.ntmps99
    go_wp2_with fail
    refine (M1 _).mono ?_
    rintro e w' ⟨rfl, rfl⟩
    go_wp2_with fail
    refine (M2 _).mono ?_
    rintro e w' ⟨rfl, rfl⟩
    go_wp2_with fail
    refine (W1 _).mono ?_
    rintro e w' ⟨rfl, rfl⟩
    go_wp2_with fail
    refine (W2 _).mono ?_
    rintro e w' ⟨rfl, rfl⟩
    clear M1 M2 W1 W2
    go_wp2_with fail
    refine (B _).mono ?_
    rintro e w' ⟨rfl, hw⟩
    subst hw
    go_wp2
    go_returns
    exact ⟨by rw [hr.out], (Gr.refl _).alloc _⟩
end Go.Proofs.YtbeinfhgfflneaaGreat
end
section
namespace Go.Rg
open Go
set_option linter.unusedSimpArgs false
section
variable {P : Program} {ops : Array Oper} {md : Region.Mode} {S : World → Prop}
def Leads (P : Program) (S : World → Prop) (v : Value) : Result Next → Prop
  | .ok (.value u) w => u = v ∧ S w
  | .ok .skip w => undef = v ∧ S w
  | .ok (.enter f args) w => Calls P f args w fun e w' => e = .returned v ∧ S w'
  | _ => False
theorem leads_value {u v : Value} {w : World} : Leads P S v (.ok (.value u) w) = (u = v ∧ S w) := rfl
theorem leads_skip {v : Value} {w : World} : Leads P S v (.ok .skip w) = (undef = v ∧ S w) := rfl
theorem leads_enter {f : FuncId} {args : Array Value} {v : Value} {w : World} : Leads P S v (.ok (.enter f args) w) = Calls P f args w fun e w' => e = .returned v ∧ S w' := rfl
def GYields (P : Program) (ops : Array Oper) (S : World → Prop) (o : Oper) (v : Value) (a : Act) : Prop :=
  (Region.wanted o (yielded ops a.tmps) = true ∧ ∀ w, S w → Leads P S v ((execOp a.eval o).run P w)) ∨
  (Region.wanted o (yielded ops a.tmps) = false ∧ v = undef)
theorem GYields.of_same {o : Oper} {v : Value} {a a' : Act} (hy : GYields P ops S o v a) (he : execOp a'.eval o = execOp a.eval o)
    (hw : Region.wanted o (yielded ops a'.tmps) = Region.wanted o (yielded ops a.tmps)) : GYields P ops S o v a' := by
  unfold GYields at *
  rw [he, hw]
  exact hy
theorem GYields.wpOp {i : Nat} {o : Oper} {v : Value} {a : Act} {w : World} {Q : Exit → Act → World → Prop} (hi : ops[i]? = some o) (hy : GYields P ops S o v a) (hS : S w)
    {K : Act → World → Prop} (h : ∀ w', S w' → K (a.put o.dst v) w') : wpOp P ops Q i K a w := by
  unfold Go.wpOp
  simp only [hi]
  rcases hy with ⟨hw, hv⟩ | ⟨hw, rfl⟩
  · simp only [hw, if_true]
    refine .inl ?_
    unfold Oper.wp
    have h1 := hv w hS
    generalize (execOp a.eval o).run P w = r at *
    cases r with
    | ok n w' =>
      cases n <;> simp only [Leads] at h1 <;> simp only [Oper.upon]
      case value u => obtain ⟨rfl, h2⟩ := h1; exact h _ h2
      case skip => obtain ⟨rfl, h2⟩ := h1; exact h _ h2
      case enter f args => exact h1.mono fun e w'' ⟨he, h2⟩ => by subst he; exact h _ h2
    | halt x w' => simp only [Leads] at h1
  · simp only [hw, Bool.false_eq_true, if_false]; exact h _ hS
def wpAnyG (P : Program) (md : Region.Mode) (ops : Array Oper) (S : World → Prop) (n : Nat) (L : Array Bool → Act → Prop) : Nat → Array Bool → Act → Prop
  | 0, listed, a => L listed a
  | f + 1, listed, a =>
    Region.ready md ops listed ≠ [] ∧ ∀ i ∈ Region.ready md ops listed, i < n ∧ ∃ o v, ops[i]? = some o ∧ GYields P ops S o v a ∧ wpAnyG P md ops S n L f (listed.setIfInBounds i true) (a.put o.dst v)
theorem wpAny_of_grow {n g : Nat} {L : Array Bool → Act → Prop} {Q : Exit → Act → World → Prop} (hL : ∀ listed a, L listed a → ∀ w, S w → wpAny P md ops Q g listed a w) :
    ∀ (f : Nat) (listed : Array Bool) (a : Act), wpAnyG P md ops S n L f listed a → ∀ w, S w → wpAny P md ops Q (f + g) listed a w
  | 0, listed, a, h, w, hS => by rw [Nat.zero_add]; exact hL _ _ h w hS
  | f + 1, listed, a, h, w, hS => by
    rw [show f + 1 + g = (f + g) + 1 by omega]
    refine ⟨fun h0 => absurd h0 h.1, fun i hi => ?_⟩
    obtain ⟨_, o, v, ho, hy, h2⟩ := h.2 i hi
    exact hy.wpOp ho hS fun w' hS' => wpAny_of_grow hL f _ _ h2 w' hS'
theorem GYields.put {oi oj : Oper} {v u : Value} {a : Act} (hap : oi.apart ops oj = true) (hsi : ∀ cs b, oi.op ≠ .select cs b)
    (hy : GYields P ops S oi v a) : GYields P ops S oi v (a.put oj.dst u) := by
  obtain ⟨h1, h2, h3⟩ := Oper.apart_spec hap
  exact hy.of_same (execOp_put oi hsi a oj.dst u h3) (wanted_put oi a oj.dst u h3)
theorem wpAnyG_first {n i : Nat} {oi : Oper} {v : Value} {L : Array Bool → Act → Prop} (hi : ops[i]? = some oi) (hsel : ∀ (j : Nat) (o : Oper) cs b, ops[j]? = some o → o.op ≠ .select cs b)
    (hs : Region.sinkB md ops n = true) (hc : Region.chainB md ops n = true) (hn : n < ops.size) (hin : i < n)
    (hdone : ∀ listed a, L listed a → ∀ j ∈ Region.ready md ops listed, n ≤ j) :
    ∀ (f : Nat) (listed : Array Bool) (a : Act), HeadInv md ops n listed →
      (∀ j oj, ops[j]? = some oj → j ≠ i → listed.getD j true = false → (∀ e ∈ oj.after, Region.binds md e = true → e.on ≠ i) → oi.apart ops oj = true) →
      i ∈ Region.ready md ops listed → GYields P ops S oi v a →
      wpAnyG P md ops S n L f (listed.setIfInBounds i true) (a.put oi.dst v) → wpAnyG P md ops S n L (f + 1) listed a := by
  intro f
  induction f with
  | zero =>
    intro listed a inv _ hr hy H
    have hun := (mem_ready.1 hr).1
    refine ⟨fun h => (by rw [h] at hr; cases hr), fun j hj => ?_⟩
    have hjn : j < n := by
      rcases Nat.lt_or_ge j n with h | h
      · exact h
      · exact absurd hj (tail_waits hs hc hn inv _ i rfl hin hun j h)
    refine ⟨hjn, ?_⟩
    by_cases hji : j = i
    · subst hji; exact ⟨oi, v, hi, hy, H⟩
    · have := hdone _ _ H j (ready_mono hj hji)
      omega
  | succ f ih =>
    intro listed a inv hfree hr hy H
    have hun := (mem_ready.1 hr).1
    refine ⟨fun h => (by rw [h] at hr; cases hr), fun j hj => ?_⟩
    have hjn : j < n := by
      rcases Nat.lt_or_ge j n with h | h
      · exact h
      · exact absurd hj (tail_waits hs hc hn inv _ i rfl hin hun j h)
    refine ⟨hjn, ?_⟩
    by_cases hji : j = i
    · subst hji; exact ⟨oi, v, hi, hy, H⟩
    · obtain ⟨_, oj, vj, hoj, hyj, H2⟩ := H.2 j (ready_mono hj hji)
      obtain ⟨hjun, oj', hoj', hall⟩ := mem_ready.1 hj
      have hnot : ∀ e ∈ oj.after, Region.binds md e = true → e.on ≠ i := fun e he hb heq => by
        have : oj = oj' := Option.some.inj (hoj.symm.trans hoj')
        subst this
        have h1 := hall e he hb
        rw [heq, getD_both hun] at h1
        cases h1
      have hap := hfree j oj hoj hji hjun hnot
      obtain ⟨a1, a2, a3⟩ := Oper.apart_spec hap
      have hyj' : GYields P ops S oj vj a := hyj.of_same (execOp_put oj (fun cs b => hsel j oj cs b hoj) a oi.dst v a1).symm (wanted_put oj a oi.dst v a1).symm
      have hfree' : ∀ k ok, ops[k]? = some ok → k ≠ i → (listed.setIfInBounds j true).getD k true = false →
          (∀ e ∈ ok.after, Region.binds md e = true → e.on ≠ i) → oi.apart ops ok = true := fun k ok hk hki hun hno => by
        refine hfree k ok hk hki ?_ hno
        by_cases hjk : j = k
        · subst hjk; exact hjun
        · rw [getD_set_ne true hjk] at hun; exact hun
      refine ⟨oj, vj, hoj, hyj', ih (listed.setIfInBounds j true) _ (inv.set hj hjn) hfree' (ready_mono hr (Ne.symm hji)) (GYields.put hap (fun cs b => hsel i oi cs b hi) hy) ?_⟩
      rw [Array.setIfInBounds_comm _ _ hji, Act.put_comm a vj v fun d hd hd2 => a2 d hd2 hd]
      exact H2
def wpG (P : Program) (ops : Array Oper) (S : World → Prop) (L : Act → Prop) : List Oper → Act → Prop
  | [], a => L a
  | o :: r, a => ∃ v, GYields P ops S o v a ∧ wpG P ops S L r (a.put o.dst v)
theorem wpAnyG_lex {n g : Nat} {Lq : Act → Prop} (hsel : Region.noSelect ops = true) (hs : Region.sinkB md ops n = true) (hc : Region.chainB md ops n = true) (hn : n < ops.size) :
    ∀ (l : List Oper) (k : Nat) (listed : Array Bool) (a : Act), (∀ j, j < l.length → l[j]? = ops[k + j]?) → k + l.length = n → HeadInv md ops n listed →
    Region.lexHead md ops g l.length k listed = true → wpG P ops S Lq l a →
    wpAnyG P md ops S n (fun listed' a' => Region.seqB md ops g n listed' = true ∧ Lq a') l.length listed a
  | [], k, listed, a, _, hk, _, hB, h => by
    have : k = n := by simpa using hk
    subst this
    exact ⟨by simpa [Region.lexHead] using hB, h⟩
  | o :: l, k, listed, a, hl, hk, inv, hB, h => by
    have h0 : ops[k]? = some o := by simpa using (hl 0 (by simp)).symm
    simp only [List.length_cons, Region.lexHead, Bool.and_eq_true] at hB
    obtain ⟨⟨hr, hf⟩, hB'⟩ := hB
    have hkn : k < n := by simp only [List.length_cons] at hk; omega
    have hr' : k ∈ Region.ready md ops listed := by simpa using hr
    obtain ⟨v, hy, hK⟩ := h
    exact wpAnyG_first h0 (Region.noSelect_spec hsel) hs hc hn hkn (fun listed' a' hL => seqB_ready hL.1) l.length listed a inv (Region.free_spec h0 hf) hr' hy
      (wpAnyG_lex hsel hs hc hn l (k + 1) _ _ (fun j hj => by have := hl (j + 1) (by simp; omega); simpa [Nat.add_assoc, Nat.add_comm 1 j] using this) (by simp only [List.length_cons] at hk; omega) (inv.set hr' hkn) hB' hK)
theorem region_tail {id : Nat} {Q : Exit → Act → World → Prop} {a : Act} {w : World} {l : List Oper} (S : World → Prop) (n : Nat) (hS : S { w with drawn := w.drawn + 1 }) (hm : P.follows .mixedOrders = true) (hB : Region.lexTailB .any l.toArray n = true)
    (h : wpG P l.toArray S (fun a' => ∀ w', S w' → wpList P l.toArray Q (l.drop n) a' w') (l.take n) a) : (Code.region id l.toArray true).wp P Q a w := by
  simp only [Region.lexTailB, Bool.and_eq_true, decide_eq_true_eq] at hB
  obtain ⟨⟨⟨⟨hsel, hn⟩, hs⟩, hc⟩, hlex⟩ := hB
  have hn' : n < l.length := by simpa using hn
  have htl : (l.take n).length = n := by simp; omega
  have hdl : (l.drop n).length = l.toArray.size - n := by simp
  have inv0 : HeadInv .any l.toArray n (Array.replicate l.toArray.size false) :=
    ⟨by simp, fun j oj _ hl => (by rw [getD_replicate_false] at hl; cases hl), fun t _ ht => getD_in (by simpa using ht) (getD_replicate_false _ _)⟩
  have H := wpAnyG_lex (md := .any) (g := l.toArray.size - n) hsel hs hc hn (l.take n) 0 _ a (fun j hj => by
    have hj' : j < n := by rw [htl] at hj; exact hj
    simp [hj']) (by simpa using htl) inv0 (by rw [htl]; exact hlex) h
  refine wp_region_any hm ?_
  have := wpAny_of_grow (Q := Q) (g := l.toArray.size - n) (fun listed a' hL w' hw' => by
    have := wpAny_of_seq (md := .any) (Q' := Q) (l.drop n) n listed a' w' (fun j => by simp [List.getElem?_drop]) (by rw [hdl]; exact hL.1) (hL.2 w' hw')
    rwa [hdl] at this) _ _ _ H _ hS
  rw [htl, show n + (l.toArray.size - n) = l.toArray.size by omega] at this
  exact this
theorem wpG_step {L : Act → Prop} {o : Oper} {r : List Oper} {a : Act} (v : Value) (hw : Region.wanted o (yielded ops a.tmps) = true)
    (h : ∀ w, S w → Leads P S v ((execOp a.eval o).run P w)) (hr : wpG P ops S L r (a.put o.dst v)) : wpG P ops S L (o :: r) a := ⟨v, .inl ⟨hw, h⟩, hr⟩
theorem wpG_skip {L : Act → Prop} {o : Oper} {r : List Oper} {a : Act} (hw : Region.wanted o (yielded ops a.tmps) = false)
    (hr : wpG P ops S L r (a.put o.dst undef)) : wpG P ops S L (o :: r) a := ⟨undef, .inr ⟨hw, rfl⟩, hr⟩
theorem wpG_nil {L : Act → Prop} {a : Act} (h : L a) : wpG P ops S L [] a := h
end
def once (l : Nat) (K : Act → World → Prop) (Q : Exit → Act → World → Prop) : Exit → Act → World → Prop
  | .goto l', a, w => l' = l ∧ K a w
  | e, a, w => Q e a w
section
variable {P : Program} {a : Act} {w : World} {Q : Exit → Act → World → Prop} {K : Act → World → Prop} {l : Nat}
theorem once_normal : once l K Q .normal a w = Q .normal a w := rfl
theorem once_exit (id : Nat) : once l K Q (.exit id) a w = Q (.exit id) a w := rfl
theorem once_ret : once l K Q .ret a w = Q .ret a w := rfl
theorem once_panic (ch : List PanicEntry) : once l K Q (.panic ch) a w = Q (.panic ch) a w := rfl
theorem once_goto : once l K Q (.goto l) a w = K a w := by simp [once]
theorem wp_scope_once {c rest : Code} (l : Nat) (hf : findLabel c l = some rest)
    (first : c.wp P (once l (fun a w => rest.wp P (Exit.noGoto Q) a w) Q) a w) : (Code.scope c).wp P Q a w := by
  refine wp_scope_jumps l (fun a w => rest.wp P (Exit.noGoto Q) a w) (fun _ _ => 0) hf (Code.wp_mono (fun e a w h => ?_) first) (fun a w h => Code.wp_mono (fun e a' w' h' => ?_) h)
  · cases e <;> exact h
  · cases e <;> first | exact h' | exact h'.elim
end
end Go.Rg
end
section
namespace Go.Proofs.YtbeinfhgfflneaaGreat
open Go.RowKit
set_option linter.unusedSimpArgs false
set_option linter.unusedVariables false
attribute [local go_sem] Rg.leads_value Rg.leads_skip Rg.leads_enter
set_option maxHeartbeats 1000000 in
set_option maxRecDepth 100000 in
theorem arith_div (a b : Int) (w : World) (ha : Vl.fitsB a = true) (hb : Vl.fitsB b = true) (hb0 : (b == 0) = false) :
    Calls Tryz.prog 99 #[.int .i64 21, .int .i64 a, .int .i64 b] w fun e w' => e = pairR (fitR (a.tdiv b)) ∧ Gr w w' := by
  have h1 := Vl.div_signed a b
  have M1 := fun W => magnitude_any a W ha
  have M2 := fun W => magnitude_any b W hb
  have W1 := fun W => wide_any a W ha
  have W2 := fun W => wide_any b W hb
  have la : a.natAbs < 18446744073709551616 := by rw [Vl.fits_iff] at ha; omega
  have hy0 : ¬ b.natAbs = 0 := by simp at hb0; omega
  clear ha hb
  generalize a.tdiv b = n at *
  generalize Vl.hi a = xh at *
  generalize Vl.lo a = xl at *
  generalize Vl.hi b = yh at *
  generalize Vl.lo b = yl at *
  generalize a.natAbs = am at *
  generalize b.natAbs = bm at *
  generalize Vl.neg a = an at *
  generalize Vl.neg b = bn at *
  have lm : am / bm < 18446744073709551616 := Nat.lt_of_le_of_lt (Nat.div_le_self _ _) la
  have hz : IntKind.u64.wrap ((am : Int) / (bm : Int)) = ((am / bm : Nat) : Int) := by
    rw [uwrap]
    exact Int.emod_eq_of_lt (Int.natCast_nonneg (am / bm)) (show ((am / bm : Nat) : Int) < ((18446744073709551616 : Nat) : Int) from Int.ofNat_lt.2 lm)
  generalize am / bm = m at *
  obtain ⟨b1, t1⟩ : ∃ b, decide (0 < m) = b := ⟨_, rfl⟩
  rw [t1] at h1
  have hq : ((an != bn) && b1) = true → 0 < m := fun h => by
    rw [Bool.and_eq_true] at h; rw [h.2] at t1; exact of_decide_eq_true t1
  have S := fun W => signed_any m ((an != bn) && b1) W hq lm
  rw [signed_fit m _ n h1 hq] at S
  clear hq lm h1 la
  generalize fitR n = R at *
  obtain ⟨⟨rt, rn, rs, rb⟩, re⟩ := R
  unfold pairR at S ⊢
  cases an <;> cases bn <;> cases b1
  all_goals simp only [bne_self_eq_false, Bool.true_bne, Bool.false_bne, Bool.not_true, Bool.not_false, Bool.and_self, Bool.and_false, Bool.false_and, Bool.true_and] at S
  all_goals
    go_enter Tryz.func99, Tryz.ntmps99
    go_wp2_with fail
    refine (M1 _).mono ?_
    rintro e w' ⟨rfl, rfl⟩
    go_wp2_with fail
    refine (M2 _).mono ?_
    rintro e w' ⟨rfl, rfl⟩
    go_wp2_with fail
    refine (W1 _).mono ?_
    rintro e w' ⟨rfl, rfl⟩
    go_wp2_with fail
    refine (W2 _).mono ?_
    rintro e w' ⟨rfl, rfl⟩
    clear M1 M2 W1 W2
    go_wp2_with fail
    refine Rg.region_tail (fun wz => Gr (w.alloc (.cells #[.int .i64 0, .int .i64 0, .string ⟨#[]⟩, .bool false] 23)) wz) 15 (Gr.drew (Gr.refl _)) (by kernel_rfl) (by kernel_rfl) ?_
    simp only [List.take_succ_cons, List.take_zero, List.drop_succ_cons, List.drop_zero]
    repeat (first
        | (refine Rg.wpG_skip (by rfl) ?_; simp only [Act.put, List.setIfInBounds_toArray, List.set_cons_zero, List.set_cons_succ])
        | (refine Rg.wpG_step ?_ (by rfl) (fun w hS => ?_) ?_
           rotate_left
           · have hc := hS.cells
             have hf := hS.frees
             go_simp
             first
             | (refine ⟨?_, hS⟩; with_reducible rfl)
             | with_reducible rfl
             | ((with_reducible refine (S _).mono ?_); rintro e w' ⟨rfl, hg⟩; refine ⟨?_, hS.trans hg⟩; with_reducible rfl)
           simp only [Act.put, List.setIfInBounds_toArray, List.set_cons_zero, List.set_cons_succ]))
    refine Rg.wpG_nil ?_
    intro w' hg
    have hc := hg.cells
    have hf := hg.frees
    have hz := hg.size
    try simp only [World.size_alloc, World.size_setCell, World.size_drew] at hz
    try have : 0 < w'.heap.size := by omega
    try have : w.heap.size < w'.heap.size := by omega
    try have : w.heap.size + 1 < w'.heap.size := by omega
    try have : w.heap.size + 1 + 1 < w'.heap.size := by omega
    try have : w.heap.size + 1 + 1 + 1 < w'.heap.size := by omega
    go_wp2_with fail
    refine bodyPost_ret (by simp [results, Tryz.results99, go_sem, hc]; try rfl) rfl ?_
    exact ⟨rfl, hg.own.set4 (Nat.le_refl _) _ _ _ _⟩
set_option maxHeartbeats 1000000 in
set_option maxRecDepth 100000 in
theorem arith_mod (a b : Int) (w : World) (ha : Vl.fitsB a = true) (hb : Vl.fitsB b = true) (hb0 : (b == 0) = false) :
    Calls Tryz.prog 99 #[.int .i64 22, .int .i64 a, .int .i64 b] w fun e w' => e = pairR (fitR (a.tmod b)) ∧ Gr w w' := by
  have h1 := Vl.mod_signed a b
  have M1 := fun W => magnitude_any a W ha
  have M2 := fun W => magnitude_any b W hb
  have W1 := fun W => wide_any a W ha
  have W2 := fun W => wide_any b W hb
  have la : a.natAbs < 18446744073709551616 := by rw [Vl.fits_iff] at ha; omega
  have hy0 : ¬ b.natAbs = 0 := by simp at hb0; omega
  clear ha hb
  generalize a.tmod b = n at *
  generalize Vl.hi a = xh at *
  generalize Vl.lo a = xl at *
  generalize Vl.hi b = yh at *
  generalize Vl.lo b = yl at *
  generalize a.natAbs = am at *
  generalize b.natAbs = bm at *
  generalize Vl.neg a = an at *
  generalize Vl.neg b = bn at *
  have lm : am % bm < 18446744073709551616 := Nat.lt_of_le_of_lt (Nat.mod_le _ _) la
  have hz : ((am : Int).tmod (bm : Int)) = ((am % bm : Nat) : Int) := rfl
  generalize am % bm = m at *
  obtain ⟨b1, t1⟩ : ∃ b, decide (0 < m) = b := ⟨_, rfl⟩
  rw [t1] at h1
  have hq : (an && b1) = true → 0 < m := fun h => by
    rw [Bool.and_eq_true] at h; rw [h.2] at t1; exact of_decide_eq_true t1
  have S := fun W => signed_any m (an && b1) W hq lm
  rw [signed_fit m _ n h1 hq] at S
  clear hq lm h1 la
  generalize fitR n = R at *
  obtain ⟨⟨rt, rn, rs, rb⟩, re⟩ := R
  unfold pairR at S ⊢
  cases an <;> cases b1
  all_goals simp only [Bool.and_self, Bool.and_false, Bool.false_and, Bool.true_and] at S
  all_goals
    go_enter Tryz.func99, Tryz.ntmps99
    go_wp2_with fail
    refine (M1 _).mono ?_
    rintro e w' ⟨rfl, rfl⟩
    go_wp2_with fail
    refine (M2 _).mono ?_
    rintro e w' ⟨rfl, rfl⟩
    go_wp2_with fail
    refine (W1 _).mono ?_
    rintro e w' ⟨rfl, rfl⟩
    go_wp2_with fail
    refine (W2 _).mono ?_
    rintro e w' ⟨rfl, rfl⟩
    clear M1 M2 W1 W2
    go_wp2_with fail
    refine Rg.region_tail (fun wz => Gr (w.alloc (.cells #[.int .i64 0, .int .i64 0, .string ⟨#[]⟩, .bool false] 23)) wz) 13 (Gr.drew (Gr.refl _)) (by kernel_rfl) (by kernel_rfl) ?_
    simp only [List.take_succ_cons, List.take_zero, List.drop_succ_cons, List.drop_zero]
    repeat (first
        | (refine Rg.wpG_skip (by rfl) ?_; simp only [Act.put, List.setIfInBounds_toArray, List.set_cons_zero, List.set_cons_succ])
        | (refine Rg.wpG_step ?_ (by rfl) (fun w hS => ?_) ?_
           rotate_left
           · have hc := hS.cells
             have hf := hS.frees
             go_simp
             first
             | (refine ⟨?_, hS⟩; with_reducible rfl)
             | with_reducible rfl
             | ((with_reducible refine (S _).mono ?_); rintro e w' ⟨rfl, hg⟩; refine ⟨?_, hS.trans hg⟩; with_reducible rfl)
           simp only [Act.put, List.setIfInBounds_toArray, List.set_cons_zero, List.set_cons_succ]))
    refine Rg.wpG_nil ?_
    intro w' hg
    have hc := hg.cells
    have hf := hg.frees
    have hz := hg.size
    try simp only [World.size_alloc, World.size_setCell, World.size_drew] at hz
    try have : 0 < w'.heap.size := by omega
    try have : w.heap.size < w'.heap.size := by omega
    try have : w.heap.size + 1 < w'.heap.size := by omega
    try have : w.heap.size + 1 + 1 < w'.heap.size := by omega
    try have : w.heap.size + 1 + 1 + 1 < w'.heap.size := by omega
    go_wp2_with fail
    refine bodyPost_ret (by simp [results, Tryz.results99, go_sem, hc]; try rfl) rfl ?_
    exact ⟨rfl, hg.own.set4 (Nat.le_refl _) _ _ _ _⟩
set_option maxHeartbeats 1000000 in
set_option maxRecDepth 100000 in
theorem arith_zero (op a b : Int) (w : World) (ha : Vl.fitsB a = true) (hb : Vl.fitsB b = true) (hop : 21 ≤ op) (hb0 : (b == 0) = true) :
    Calls Tryz.prog 99 #[.int .i64 op, .int .i64 a, .int .i64 b] w fun e w' => e = pairR (nul, 162) ∧ Gr w w' := by
  have M1 := fun W => magnitude_any a W ha
  have M2 := fun W => magnitude_any b W hb
  have W1 := fun W => wide_any a W ha
  have W2 := fun W => wide_any b W hb
  have o1 : (op == 18) = false := by simp; omega
  have o2 : (op == 19) = false := by simp; omega
  have o3 : (op == 20) = false := by simp; omega
  clear ha hb
  go_enter Tryz.func99, Tryz.ntmps99
  go_wp2_with fail
  refine (M1 _).mono ?_
  rintro e w' ⟨rfl, rfl⟩
  go_wp2_with fail
  refine (M2 _).mono ?_
  rintro e w' ⟨rfl, rfl⟩
  go_wp2_with fail
  refine (W1 _).mono ?_
  rintro e w' ⟨rfl, rfl⟩
  go_wp2_with fail
  refine (W2 _).mono ?_
  rintro e w' ⟨rfl, rfl⟩
  clear M1 M2 W1 W2
  go_wp2
  go_returns
  exact ⟨rfl, (Gr.refl _).alloc _⟩
def arithR (op a b : Int) : V × Int :=
  if op == 18 then fitR (a + b) else if op == 19 then fitR (a - b) else if op == 20 then fitR (a * b) else if b == 0 then (nul, 162) else if op == 21 then fitR (a.tdiv b) else fitR (a.tmod b)
theorem arith_any (op a b : Int) (w : World) (ha : Vl.fitsB a = true) (hb : Vl.fitsB b = true) (h1 : 18 ≤ op) (h2 : op ≤ 22) :
    Calls Tryz.prog 99 #[.int .i64 op, .int .i64 a, .int .i64 b] w fun e w' => e = pairR (arithR op a b) ∧ Gr w w' := by
  have h : op = 18 ∨ op = 19 ∨ op = 20 ∨ op = 21 ∨ op = 22 := by omega
  rcases h with rfl | rfl | rfl | rfl | rfl
  · exact arith_add a b w ha hb
  · exact arith_sub a b w ha hb
  · exact arith_mul a b w ha hb
  · cases hb0 : (b == 0)
    · have := arith_div a b w ha hb hb0
      unfold arithR; rw [hb0]; exact this
    · have := arith_zero 21 a b w ha hb (by omega) hb0
      unfold arithR; rw [hb0]; exact this
  · cases hb0 : (b == 0)
    · have := arith_mod a b w ha hb hb0
      unfold arithR; rw [hb0]; exact this
    · have := arith_zero 22 a b w ha hb (by omega) hb0
      unfold arithR; rw [hb0]; exact this
end Go.Proofs.YtbeinfhgfflneaaGreat
end
section
namespace Go.Proofs.YtbeinfhgfflneaaGreat
open Go.RowKit
set_option linter.unusedSimpArgs false
def typedFrom (kind : Int) : List V → Bool → Bool × Bool
  | [], nl => (true, nl)
  | v :: r, nl => if v.t == kind || v.t == 0 then typedFrom kind r (nl || v.t == 0) else (false, false)
def vtypedB (kind : Int) (l : List V) : Bool × Bool := typedFrom kind l false
set_option maxHeartbeats 1000000 in
set_option maxRecDepth 100000 in
theorem typed_any (kind : Int) (l : List V) (g c : Nat) (w : World) (hl : l.length ≤ 4611686018427387904) (hrow : VRow w g l) :
    Calls Tryz.prog 93 #[.int .i64 kind, .slice (some ⟨g, 0, none⟩) l.length c] w fun e w' => e = .returned (.tuple #[.bool (vtypedB kind l).1, .bool (vtypedB kind l).2]) ∧ Gr w w' := by
  go_enter Tryz.func93, Tryz.ntmps93
  go_wp2
  go_loopw [5, 10] (fun nl i wr => ∃ (k : Nat) (nb : Bool), i = .int .i64 k ∧ nl = .bool nb ∧ k ≤ l.length ∧ Hid (vtypedB kind l = typedFrom kind (l.drop k) nb) ∧ Gr w wr) (fun _ i _ => l.length - (intOf i).toNat)
  case atStart => exact ⟨0, false, rfl, rfl, Nat.zero_le _, hid rfl, Gr.refl _⟩
  case round =>
    obtain ⟨k, nb, rfl, rfl, hk, H, hg⟩ := hrel
    by_cases hlt : k < l.length
    · obtain ⟨v, hv⟩ : ∃ v, v = l[k] := ⟨_, rfl⟩
      have hd : l.drop k = v :: l.drop (k + 1) := by rw [hv]; exact List.drop_eq_getElem_cons hlt
      have c0 : _ = some (Value.int .i64 v.t) := hg.keep (hrow k 0 _ hlt (by rw [← hv]; rfl))
      have c1 : _ = some (Value.int .i64 v.n) := hg.keep (hrow k 1 _ hlt (by rw [← hv]; rfl))
      have c2 : _ = some (Value.string v.s) := hg.keep (hrow k 2 _ hlt (by rw [← hv]; rfl))
      have c3 : _ = some (Value.bool v.b) := hg.keep (hrow k 3 _ hlt (by rw [← hv]; rfl))
      simp only [Nat.add_zero] at c0
      clear hv
      have HH := H.out
      rw [hd] at HH
      simp only [typedFrom] at HH
      clear hd H
      obtain ⟨x, n, s, b⟩ := v
      simp only at c0 c1 c2 c3 HH
      obtain ⟨b1, t1⟩ : ∃ b, (x == kind) = b := ⟨_, rfl⟩
      obtain ⟨b2, t2⟩ : ∃ b, (x == 0) = b := ⟨_, rfl⟩
      rw [t1, t2] at HH
      have n1 : (x != kind) = !b1 := by rw [← t1]; rfl
      have n2 : (x != 0) = !b2 := by rw [← t2]; rfl
      cases b1 <;> cases b2 <;> cases nb
      all_goals
        simp only [Bool.or_self, Bool.or_true, Bool.true_or, Bool.or_false, Bool.false_or, if_true, Bool.false_eq_true, if_false, Bool.not_true, Bool.not_false] at HH n1 n2
        have H := hid HH
        clear HH
        go_wp2
        first
          | (go_returns; exact ⟨by rw [H.out]; rfl, hg.alloc _⟩)
          | (go_roundw
             case rel => exact ⟨k + 1, _, by go_num, rfl, by omega, H, hg.alloc _⟩
             case measure => simp [intOf]; omega)
    · obtain rfl : k = l.length := by omega
      have HH := H.out
      rw [List.drop_length] at HH
      simp only [typedFrom] at HH
      have H := hid HH
      clear HH
      go_wp2
      go_returns
      exact ⟨by rw [H.out]; rfl, hg⟩
end Go.Proofs.YtbeinfhgfflneaaGreat
end
section
namespace Go.Proofs.YtbeinfhgfflneaaGreat
open Go.RowKit
set_option linter.unusedSimpArgs false
set_option linter.unusedVariables false
attribute [local go_sem] Rg.once_normal Rg.once_exit Rg.once_ret Rg.once_panic Rg.once_goto Rg.leads_value Rg.leads_skip Rg.leads_enter
theorem typed2 (kind : Int) (a b : V) (g c : Nat) (W : World)
    (c0 : W.cell? ⟨g, 0, none⟩ = some (.int .i64 a.t)) (c1 : W.cell? ⟨g, 1, none⟩ = some (.int .i64 a.n)) (c2 : W.cell? ⟨g, 2, none⟩ = some (.string a.s)) (c3 : W.cell? ⟨g, 3, none⟩ = some (.bool a.b))
    (c4 : W.cell? ⟨g, 4, none⟩ = some (.int .i64 b.t)) (c5 : W.cell? ⟨g, 5, none⟩ = some (.int .i64 b.n)) (c6 : W.cell? ⟨g, 6, none⟩ = some (.string b.s)) (c7 : W.cell? ⟨g, 7, none⟩ = some (.bool b.b)) :
    Calls Tryz.prog 93 #[.int .i64 kind, .slice (some ⟨g, 0, none⟩) 2 c] W fun e w' => e = .returned (.tuple #[.bool (vtypedB kind [a, b]).1, .bool (vtypedB kind [a, b]).2]) ∧ Gr W w' := by
  refine typed_any kind [a, b] g c W (by simp) (fun k i u h hu => ?_)
  match k, h, i, hu with
  | 0, _, 0, hu => simp [V.cells] at hu; rw [← hu]; exact c0
  | 0, _, 1, hu => simp [V.cells] at hu; rw [← hu]; exact c1
  | 0, _, 2, hu => simp [V.cells] at hu; rw [← hu]; exact c2
  | 0, _, 3, hu => simp [V.cells] at hu; rw [← hu]; exact c3
  | 0, _, i + 4, hu => simp [V.cells] at hu
  | 1, _, 0, hu => simp [V.cells] at hu; rw [← hu]; exact c4
  | 1, _, 1, hu => simp [V.cells] at hu; rw [← hu]; exact c5
  | 1, _, 2, hu => simp [V.cells] at hu; rw [← hu]; exact c6
  | 1, _, 3, hu => simp [V.cells] at hu; rw [← hu]; exact c7
  | 1, _, i + 4, hu => simp [V.cells] at hu
theorem typed1 (kind : Int) (a : V) (g c : Nat) (W : World)
    (c0 : W.cell? ⟨g, 0, none⟩ = some (.int .i64 a.t)) (c1 : W.cell? ⟨g, 1, none⟩ = some (.int .i64 a.n)) (c2 : W.cell? ⟨g, 2, none⟩ = some (.string a.s)) (c3 : W.cell? ⟨g, 3, none⟩ = some (.bool a.b)) :
    Calls Tryz.prog 93 #[.int .i64 kind, .slice (some ⟨g, 0, none⟩) 1 c] W fun e w' => e = .returned (.tuple #[.bool (vtypedB kind [a]).1, .bool (vtypedB kind [a]).2]) ∧ Gr W w' := by
  refine typed_any kind [a] g c W (by simp) (fun k i u h hu => ?_)
  match k, h, i, hu with
  | 0, _, 0, hu => simp [V.cells] at hu; rw [← hu]; exact c0
  | 0, _, 1, hu => simp [V.cells] at hu; rw [← hu]; exact c1
  | 0, _, 2, hu => simp [V.cells] at hu; rw [← hu]; exact c2
  | 0, _, 3, hu => simp [V.cells] at hu; rw [← hu]; exact c3
  | 0, _, i + 4, hu => simp [V.cells] at hu
def mathIn (op : Int) (a b : V) (k : Int) : V × Int :=
  if (vtypedB k [a, b]).1 then (if (vtypedB k [a, b]).2 then (nul, 0) else if op == 23 then (textV (a.s ++ b.s), 0) else arithR op a.n b.n) else (nul, 160)
def mathR (op : Int) (a b : V) : V × Int :=
  if decide (op < 18) then (nul, 1) else if decide (23 < op) then (nul, 1) else if op == 23 then mathIn op a b 2 else mathIn op a b 1
set_option maxHeartbeats 1000000 in
set_option maxRecDepth 100000 in
theorem math_out (op : Int) (a b : V) (w : World) (h : op < 18 ∨ 23 < op) : Calls Tryz.prog 81 #[.int .i64 op, a.val, b.val] w fun e w' => e = pairR (nul, 1) ∧ Gr w w' := by
  obtain ⟨t, n, s, b'⟩ := a
  obtain ⟨t2, n2, s2, b2'⟩ := b
  unfold V.val
  have o3 : (op == 23) = false := by simp; omega
  rcases h with h | h
  · have o1 : decide (op < 18) = true := by simpa using h
    go_enter Tryz.func81, Tryz.ntmps81
    go_wp2_with fail
    refine Rg.wp_scope_once 0 rfl ?_
    go_wp2
    all_goals
      (try (go_step3; (try simp only [Exit.then]); (try change Rg.once _ _ _ _ _ _); rw [Rg.once_goto]; go_wp2))
      (try rw [Rg.once_ret])
      (try rw [Exit.noGoto_ret])
      (try change bodyPost _ _ _ _ _ _)
      first
      | (go_returns; refine ⟨?_, ?_⟩)
      | (refine bodyPost_ret (by simp [results, Tryz.results81, go_sem, *]; try rfl) rfl ⟨?_, ?_⟩)
      rotate_left
      · repeat' (first | exact Gr.refl _ | exact Nat.le_refl _ | exact Nat.le_add_right _ _ | refine Gr.setCell ?_ ?_ _ | refine Gr.alloc ?_ _ | refine Gr.drew ?_ | refine Gr.trans ?_ (by assumption) | omega | (dsimp only; omega))
    all_goals rfl
  · have o1 : decide (op < 18) = false := by simp; omega
    have o2 : decide (23 < op) = true := by simpa using h
    go_enter Tryz.func81, Tryz.ntmps81
    go_wp2_with fail
    refine Rg.wp_scope_once 0 rfl ?_
    go_wp2
    all_goals
      (try (go_step3; (try simp only [Exit.then]); (try change Rg.once _ _ _ _ _ _); rw [Rg.once_goto]; go_wp2))
      (try rw [Rg.once_ret])
      (try rw [Exit.noGoto_ret])
      (try change bodyPost _ _ _ _ _ _)
      first
      | (go_returns; refine ⟨?_, ?_⟩)
      | (refine bodyPost_ret (by simp [results, Tryz.results81, go_sem, *]; try rfl) rfl ⟨?_, ?_⟩)
      rotate_left
      · repeat' (first | exact Gr.refl _ | exact Nat.le_refl _ | exact Nat.le_add_right _ _ | refine Gr.setCell ?_ ?_ _ | refine Gr.alloc ?_ _ | refine Gr.drew ?_ | refine Gr.trans ?_ (by assumption) | omega | (dsimp only; omega))
    all_goals rfl
set_option maxHeartbeats 1000000 in
set_option maxRecDepth 100000 in
theorem math_num (op : Int) (a b : V) (w : World) (h1 : 18 ≤ op) (h2 : op ≤ 22) (ha : Vl.fitsB a.n = true) (hb : Vl.fitsB b.n = true) : Calls Tryz.prog 81 #[.int .i64 op, a.val, b.val] w fun e w' => e = pairR (mathIn op a b 1) ∧ Gr w w' := by
  obtain ⟨t, n, s, b'⟩ := a
  obtain ⟨t2, n2, s2, b2'⟩ := b
  have T := typed2 1 ⟨t, n, s, b'⟩ ⟨t2, n2, s2, b2'⟩
  have M := fun W => arith_any op n n2 W ha hb h1 h2
  have o1 : decide (op < 18) = false := by simp; omega
  have o2 : decide (23 < op) = false := by simp; omega
  have o3 : (op == 23) = false := by simp; omega
  unfold mathIn
  clear ha hb h1 h2
  rw [o3]
  generalize vtypedB 1 [⟨t, n, s, b'⟩, ⟨t2, n2, s2, b2'⟩] = tb at *
  obtain ⟨tb1, tb2⟩ := tb
  have TT := hid T
  clear T
  simp only
  generalize arithR op n n2 = R at *
  obtain ⟨⟨rt, rn, rs, rb⟩, re⟩ := R
  unfold V.val
  unfold pairR at M
  cases tb1 <;> cases tb2
  all_goals
    go_enter Tryz.func81, Tryz.ntmps81
    go_wp2_with fail
    refine Rg.wp_scope_once 0 rfl ?_
    go_wp2_with fail
    go_wp2_with fail
    refine (TT.out _ _ _ (by go_simp) (by go_simp) (by go_simp) (by go_simp) (by go_simp) (by go_simp) (by go_simp) (by go_simp)).mono ?_
    rintro e w' ⟨rfl, hg⟩
    have hc := hg.cells
    have hf := hg.frees
    have hz := hg.size
    try simp only [World.size_alloc, World.size_setCell, World.size_drew] at hz
    try have : 0 < w'.heap.size := by omega
    try have : w.heap.size < w'.heap.size := by omega
    try have : w.heap.size + 1 < w'.heap.size := by omega
    try have : w.heap.size + 1 + 1 < w'.heap.size := by omega
    try have : w.heap.size + 1 + 1 + 1 < w'.heap.size := by omega
    go_wp2_with (first | (go_at_call 99; ((with_reducible refine (M _).mono ?_)); rintro e w' ⟨rfl, hg⟩; have hc := hg.cells; have hf := hg.frees; have hz := hg.size; (try simp only [World.size_alloc, World.size_setCell, World.size_drew] at hz); (try have : 0 < w'.heap.size := by omega); (try have : w.heap.size < w'.heap.size := by omega); (try have : w.heap.size + 1 < w'.heap.size := by omega); (try have : w.heap.size + 1 + 1 < w'.heap.size := by omega); (try have : w.heap.size + 1 + 1 + 1 < w'.heap.size := by omega)))
    all_goals
      (try (go_step3; (try simp only [Exit.then]); (try change Rg.once _ _ _ _ _ _); rw [Rg.once_goto]; go_wp2))
      (try rw [Rg.once_ret])
      (try rw [Exit.noGoto_ret])
      (try change bodyPost _ _ _ _ _ _)
      first
      | (go_returns; refine ⟨?_, ?_⟩)
      | (refine bodyPost_ret (by simp [results, Tryz.results81, go_sem, *]; try rfl) rfl ⟨?_, ?_⟩)
      rotate_left
      · repeat' (first | exact Gr.refl _ | exact Nat.le_refl _ | exact Nat.le_add_right _ _ | refine Gr.setCell ?_ ?_ _ | refine Gr.alloc ?_ _ | refine Gr.drew ?_ | refine Gr.trans ?_ (by assumption) | omega | (dsimp only; omega))
    all_goals rfl
set_option maxHeartbeats 1000000 in
set_option maxRecDepth 100000 in
theorem math_cat (a b : V) (w : World) (hs : a.s.size + b.s.size ≤ 9223372036854775807) : Calls Tryz.prog 81 #[.int .i64 23, a.val, b.val] w fun e w' => e = pairR (mathIn 23 a b 2) ∧ Gr w w' := by
  obtain ⟨t, n, s, b'⟩ := a
  obtain ⟨t2, n2, s2, b2'⟩ := b
  have T := typed2 2 ⟨t, n, s, b'⟩ ⟨t2, n2, s2, b2'⟩
  have hs' : s.size + s2.size ≤ 9223372036854775807 := hs
  clear hs
  unfold mathIn
  generalize vtypedB 2 [⟨t, n, s, b'⟩, ⟨t2, n2, s2, b2'⟩] = tb at *
  obtain ⟨tb1, tb2⟩ := tb
  have TT := hid T
  clear T
  unfold V.val
  cases tb1 <;> cases tb2
  all_goals
    go_enter Tryz.func81, Tryz.ntmps81
    go_wp2_with fail
    refine Rg.wp_scope_once 0 rfl ?_
    go_wp2_with fail
    go_wp2_with fail
    refine (TT.out _ _ _ (by go_simp) (by go_simp) (by go_simp) (by go_simp) (by go_simp) (by go_simp) (by go_simp) (by go_simp)).mono ?_
    rintro e w' ⟨rfl, hg⟩
    have hc := hg.cells
    have hf := hg.frees
    have hz := hg.size
    try simp only [World.size_alloc, World.size_setCell, World.size_drew] at hz
    try have : 0 < w'.heap.size := by omega
    try have : w.heap.size < w'.heap.size := by omega
    try have : w.heap.size + 1 < w'.heap.size := by omega
    try have : w.heap.size + 1 + 1 < w'.heap.size := by omega
    try have : w.heap.size + 1 + 1 + 1 < w'.heap.size := by omega
    go_wp2
    all_goals
      (try (go_step3; (try simp only [Exit.then]); (try change Rg.once _ _ _ _ _ _); rw [Rg.once_goto]; go_wp2))
      (try rw [Rg.once_ret])
      (try rw [Exit.noGoto_ret])
      (try change bodyPost _ _ _ _ _ _)
      first
      | (go_returns; refine ⟨?_, ?_⟩)
      | (refine bodyPost_ret (by simp [results, Tryz.results81, go_sem, *]; try rfl) rfl ⟨?_, ?_⟩)
      rotate_left
      · repeat' (first | exact Gr.refl _ | exact Nat.le_refl _ | exact Nat.le_add_right _ _ | refine Gr.setCell ?_ ?_ _ | refine Gr.alloc ?_ _ | refine Gr.drew ?_ | refine Gr.trans ?_ (by assumption) | omega | (dsimp only; omega))
    all_goals rfl
end Go.Proofs.YtbeinfhgfflneaaGreat
end

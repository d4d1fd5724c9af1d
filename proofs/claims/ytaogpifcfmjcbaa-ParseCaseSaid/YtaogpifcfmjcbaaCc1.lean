/- Texts of this claim, put together: walks of functions and plain laws, of no condition. -/
import Derived.Test.YtaogpifcfmjcbaaRows
import Derived.WalkKit
import Derived.WalkLawsBesides
import Derived.WalkSpells
import Derived.Handy
import Derived.Below
import Derived.Shelf.Strings.Builder1
import Derived.Shelf.Small.Strs
import Derived.Shelf.Strings.BuilderF
import Derived.Shelf.Strings.BuilderK
import Derived.Shelf.Strings.Search1
import Derived.Shelf.Strings.Search2
import Derived.Shelf.Strings.Search3
import Derived.Shelf.LaysM
import Derived.Shelf.Strings.Shaped
import Derived.Shelf.Strings.Prefix
import Derived.Test.YtaogpifcfmjcbaaProg
import Derived.Lib.Builder
import Derived.Laws.Externs
import Derived.Lib.IndexBytes
import Derived.Scope
import Derived.Deep.DeepCutAuto
import Derived.Lib.IndexMore
import Derived.Lib.IndexAny
import Derived.StillTail
import Derived.ScopeJumps
import Derived.WalkMore
import Derived.OwnWalk
import Derived.Laws.OwnMore
section
namespace Go.Proofs.Ytaogpifcfmjcbaa
open Go.RowKit
theorem hid {p : Prop} (h : p) : Hid p := h
theorem ret_bool {a b : Bool} (h : a = b) : Ending.returned (.bool a) = .returned (.bool b) := by rw [h]
def Gr (w w' : World) : Prop := Below w.heap.size w w'
theorem Gr.refl (w : World) : Gr w w := Below.refl _ _
theorem Gr.size {w w' : World} (h : Gr w w') : w.heap.size ≤ w'.heap.size := Below.size h
theorem Gr.trans {a b c : World} (h : Gr a b) (k : Gr b c) : Gr a c := Below.trans h (Below.mono k h.size)
theorem Gr.alloc {a w : World} (h : Gr a w) (o : Obj) : Gr a (w.alloc o) := Below.alloc h h.size o
theorem Gr.drew {a w : World} (h : Gr a w) : Gr a w.drew := Below.drew h
theorem Gr.setCell {a w : World} (h : Gr a w) {p : Addr} (hp : a.heap.size ≤ p.block) (u : Value) : Gr a (w.setCell p u) := Below.setCell h hp u
theorem lt_of_cell {w : World} {g k : Nat} {v : Value} (h : w.cell? ⟨g, k, none⟩ = some v) : g < w.heap.size := World.block_lt_of_cell? _ _ h
theorem Gr.keep {w w' : World} {g k : Nat} {v : Value} (h : Gr w w') (hc : w.cell? ⟨g, k, none⟩ = some v) : w'.cell? ⟨g, k, none⟩ = some v := by
  rw [Below.cell (p := ⟨g, k, none⟩) h (lt_of_cell hc)]; exact hc
structure V where
  t : Int
  n : Int
  s : ByteArray
  b : Bool
def V.cells (v : V) : Array Value := #[.int .i64 v.t, .int .i64 v.n, .string v.s, .bool v.b]
def V.val (v : V) : Value := .agg #[.int .i64 v.t, .int .i64 v.n, .string v.s, .bool v.b]
def nul : V := ⟨0, 0, ⟨#[]⟩, false⟩
def numV (n : Int) : V := ⟨1, n, ⟨#[]⟩, false⟩
def textV (s : ByteArray) : V := ⟨2, 0, s, false⟩
def boolV (b : Bool) : V := ⟨3, 0, ⟨#[]⟩, b⟩
def VRow (w : World) (g : Nat) (l : List V) : Prop := ∀ (k i : Nat) (u : Value) (h : k < l.length), l[k].cells[i]? = some u → w.cell? ⟨g, k * 4 + i, none⟩ = some u
theorem VRow.keep {w w' : World} {g : Nat} {l : List V} (h : VRow w g l) (hg : Gr w w') : VRow w' g l := fun k i u hk hu => hg.keep (h k i u hk hu)
theorem v_struct : Try.prog.underlying 30 = some (.struct (Try.prog.fieldsOf 30)) := by kernel_rfl
theorem v_plain : Try.prog.stoodInHeld 30 = false := by kernel_rfl
theorem v_same (x0 x1 : Int) (x2 : ByteArray) (x3 : Bool) (W : World) : (Op.equalIn 10000 30 (.agg #[.int .i64 x0, .int .i64 x1, .string x2, .bool x3]) (.agg #[.int .i64 x0, .int .i64 x1, .string x2, .bool x3])).run Try.prog W = .ok true W := by
  rw [run_equalIn_agg W 9999 30 _ _ v_struct v_plain]
  go_simp
theorem Gr.cells {w w' : World} (h : Gr w w') : ∀ b i, b < w.heap.size → w'.cell? ⟨b, i, none⟩ = w.cell? ⟨b, i, none⟩ := fun b i hb => Below.cell (p := ⟨b, i, none⟩) h hb
theorem Gr.frees {w w' : World} (h : Gr w w') : ∀ b i, b < w.heap.size → w'.frozen? ⟨b, i, none⟩ = w.frozen? ⟨b, i, none⟩ := fun b i hb => Below.frozen (p := ⟨b, i, none⟩) h hb
theorem Gr.own {w w' : World} {o : Obj} (h : Gr (w.alloc o) w') : Gr w w' := ((Gr.refl _).alloc _).trans h
end Go.Proofs.Ytaogpifcfmjcbaa
end
section
namespace Go.Proofs.Ytaogpifcfmjcbaa
namespace Lx
abbrev Bytes := List UInt8
def letterB (c : UInt8) : Bool := (decide (65 ≤ c.toNat) && decide (c.toNat ≤ 90)) || (decide (97 ≤ c.toNat) && decide (c.toNat ≤ 122)) || c.toNat == 95
def digitB (c : UInt8) : Bool := decide (48 ≤ c.toNat) && decide (c.toNat ≤ 57)
def innerB (c : UInt8) : Bool := letterB c || digitB c
def whiteB (c : UInt8) : Bool := c.toNat == 32 || c.toNat == 9 || c.toNat == 10 || c.toNat == 13
def upperB (c : UInt8) : Bool := decide (65 ≤ c.toNat) && decide (c.toNat ≤ 90)
def low (c : UInt8) : UInt8 := if upperB c then c + 32 else c
def noLine (c : UInt8) : Bool := !(c.toNat == 10)
def runL (p : UInt8 → Bool) : Bytes → Nat
  | [] => 0
  | c :: r => if p c then runL p r + 1 else 0
def dig (n : Nat) (c : UInt8) : Nat := 10 * n + (c.toNat - 48)
def valOf (n : Nat) (l : Bytes) : Nat := l.foldl dig n
def quoteL : Bytes → Option (Bytes × Nat)
  | [] => none
  | c :: r =>
    if c.toNat = 39 then
      match r with
      | [] => some ([], 1)
      | d :: r' => if d.toNat = 39 then (quoteL r').map fun x => (39 :: x.1, x.2 + 2) else some ([], 1)
    else (quoteL r).map fun x => (c :: x.1, x.2 + 1)
def twoSign (c d : UInt8) : Bool :=
  (c.toNat == 60 && d.toNat == 62) || (c.toNat == 60 && d.toNat == 61) || (c.toNat == 62 && d.toNat == 61) || (c.toNat == 124 && d.toNat == 124)
def oneSign (c : UInt8) : Bool := ([40, 41, 44, 46, 42, 43, 45, 47, 37, 61, 60, 62, 59] : List Nat).contains c.toNat
structure Tk where
  kind : Nat
  text : Bytes
  num : Nat
  deriving DecidableEq
def signL : Bytes → Option (Tk × Nat)
  | [] => none
  | c :: r =>
    match r with
    | d :: _ => if twoSign c d then some (⟨4, [c, d], 0⟩, 2) else if oneSign c then some (⟨4, [c], 0⟩, 1) else none
    | [] => if oneSign c then some (⟨4, [c], 0⟩, 1) else none
def wordL (r : Bytes) : Option (Tk × Nat) :=
  let n := runL innerB r
  if n ≤ 32 then some (⟨1, (r.take n).map low, 0⟩, n) else none
def startsLetter : Bytes → Bool
  | [] => false
  | c :: _ => letterB c
def numberL (r : Bytes) : Option (Tk × Nat) :=
  let n := runL digitB r
  if n ≤ 19 ∧ startsLetter (r.drop n) = false ∧ valOf 0 (r.take n) < 9223372036854775808 then some (⟨2, [], valOf 0 (r.take n)⟩, n) else none
def textL (r : Bytes) : Option (Tk × Nat) := (quoteL r).map fun x => (⟨3, x.1, 0⟩, x.2 + 1)
def oneTok : Bytes → Option (Tk × Nat)
  | [] => none
  | c :: r =>
    if letterB c then wordL (c :: r)
    else if digitB c then numberL (c :: r)
    else if c.toNat = 39 then textL r
    else signL (c :: r)
def remarkB : Bytes → Bool
  | c :: d :: _ => c.toNat == 45 && d.toNat == 45
  | _ => false
def blank1 : Bytes → Nat
  | [] => 0
  | c :: r => if whiteB c then 1 else if remarkB (c :: r) then runL noLine (c :: r) else 0
structure Tok where
  tk : Tk
  pos : Nat
  deriving DecidableEq
inductive Res where
  | good (l : List Tok)
  | bad (pos : Nat)
def lexN : Nat → Bytes → Nat → List Tok → Res
  | 0, _, pos, _ => .bad pos
  | f + 1, s, pos, acc =>
    let r := s.drop pos
    if r = [] then .good (acc ++ [⟨⟨5, [], 0⟩, pos⟩])
    else if blank1 r ≠ 0 then lexN f s (pos + blank1 r) acc
    else match oneTok r with
      | none => .bad pos
      | some (t, n) => lexN f s (pos + n) (acc ++ [⟨t, pos⟩])
def lexAll (s : Bytes) : Res := lexN (s.length + 1) s 0 []
end Lx
theorem valOf_shift (l : List UInt8) : ∀ n, Lx.valOf n l = n * 10 ^ l.length + Lx.valOf 0 l := by
  induction l with
  | nil => intro n; simp [Lx.valOf]
  | cons c r ih =>
    intro n
    have e1 : Lx.valOf n (c :: r) = Lx.valOf (Lx.dig n c) r := rfl
    have e2 : Lx.valOf 0 (c :: r) = Lx.valOf (Lx.dig 0 c) r := rfl
    rw [e1, e2, ih, ih (Lx.dig 0 c), List.length_cons, Nat.pow_succ]
    unfold Lx.dig
    generalize 10 ^ r.length = p
    generalize c.toNat - 48 = d
    generalize Lx.valOf 0 r = v
    rw [Nat.mul_zero, Nat.zero_add, Nat.add_mul, Nat.mul_comm p 10, ← Nat.mul_assoc, Nat.mul_comm n 10, Nat.add_assoc]
theorem valOf_lt (l : List UInt8) (h : ∀ c ∈ l, Lx.digitB c = true) : Lx.valOf 0 l < 10 ^ l.length := by
  induction l with
  | nil => simp [Lx.valOf]
  | cons c r ih =>
    have e1 : Lx.valOf 0 (c :: r) = Lx.valOf (Lx.dig 0 c) r := rfl
    rw [e1]
    unfold Lx.dig
    have hc := h c (by simp)
    simp [Lx.digitB] at hc
    rw [valOf_shift, List.length_cons, Nat.pow_succ]
    have := ih (fun d hd => h d (by simp [hd]))
    have h9 : (10 * 0 + (c.toNat - 48)) * 10 ^ r.length ≤ 9 * 10 ^ r.length := Nat.mul_le_mul_right _ (by omega)
    generalize 10 ^ r.length = p at *
    omega
theorem valOf_snoc (l : List UInt8) (c : UInt8) : ∀ n, Lx.valOf n (l ++ [c]) = 10 * Lx.valOf n l + (c.toNat - 48) := by
  intro n
  unfold Lx.valOf
  rw [List.foldl_append]
  rfl
theorem runL_take (p : UInt8 → Bool) (l : List UInt8) : ∀ c ∈ l.take (Lx.runL p l), p c = true := by
  induction l with
  | nil => simp [Lx.runL]
  | cons c r ih =>
    simp only [Lx.runL]
    split
    · rename_i hc; intro d hd; simp at hd; rcases hd with rfl | hd
      · exact hc
      · exact ih d hd
    · simp
theorem runL_le (p : UInt8 → Bool) (l : List UInt8) : Lx.runL p l ≤ l.length := by
  induction l with
  | nil => simp [Lx.runL]
  | cons c r ih => simp only [Lx.runL]; split <;> simp <;> omega
theorem valOf_19 (l : List UInt8) (n k : Nat) (hn : n ≤ 19) (hk : k < n) (h : ∀ c ∈ l.take n, Lx.digitB c = true) : Lx.valOf 0 ((l.take n).take k) ≤ 999999999999999999 := by
  have h1 := valOf_lt ((l.take n).take k) (fun c hc => h c (List.mem_of_mem_take hc))
  have h2 : ((l.take n).take k).length ≤ 18 := by simp; omega
  have h3 : 10 ^ ((l.take n).take k).length ≤ 10 ^ 18 := Nat.pow_le_pow_right (by omega) h2
  have h4 : (10 : Nat) ^ 18 = 1000000000000000000 := by decide
  omega
end Go.Proofs.Ytaogpifcfmjcbaa
end
section
namespace Go.Proofs.Ytaogpifcfmjcbaa
open Go.RowKit
theorem ret_int {k : IntKind} {a b : Int} (h : a = b) : Ending.returned (.int k a) = .returned (.int k b) := by rw [h]
theorem u8map (W : World) (s : ByteArray) : (convert 9 49 (.string s)).run Try.prog W = .ok (.slice (some ⟨W.heap.size, 0, none⟩) s.size (grownCap W s.size 0 5))
      (W.drew.alloc (.cells (bytesRow s (grownCap W s.size 0 5)) 5 ((bytesRow s (grownCap W s.size 0 5)).size, (bytesRow s (grownCap W s.size 0 5)).size + 1))) :=
  run_bytes_of_string W 9 49 5 s Try.underlying9 Try.underlying49 Try.underlying5
structure BRow (w : World) (g : Nat) (l : List UInt8) : Prop where
  cell : ∀ i c, l[i]? = some c → w.cell? ⟨g, i, none⟩ = some (.int .u8 (c.toNat : Int))
  free : ∀ i, i < l.length → w.frozen? ⟨g, i, none⟩ = false
theorem heap_new (W : World) (o : Obj) : (W.alloc o).heap[W.heap.size]? = some o := by
  show (W.heap.push _)[W.heap.size]? = _
  simp
theorem lt_of_get {α : Type} {l : List α} {i : Nat} {c : α} (h : l[i]? = some c) : i < l.length := (List.getElem?_eq_some_iff.1 h).1
theorem BRow.made (W : World) (s : ByteArray) (cap : Nat) : BRow (W.alloc (.cells (bytesRow s cap) 5 ((bytesRow s cap).size, (bytesRow s cap).size + 1))) W.heap.size s.data.toList := by
  constructor
  · intro i c hc
    rw [World.cell?_alloc_mark]
    have hi : i < s.data.toList.length := lt_of_get hc
    have hi' : i < s.data.size := by simpa using hi
    rw [bytesRow, Array.getElem?_append_left (by simpa using hi')]
    rw [Array.getElem?_toList] at hc
    simp [hc]
  · intro i hi
    have hi' : i < s.size := by simpa using hi
    unfold World.frozen?
    rw [heap_new]
    have : s.size ≤ (bytesRow s cap).size := by
      rw [bytesRow, Array.size_append, Array.size_map, ByteArray.size_data]; omega
    simp
    omega
theorem BRow.drew {w : World} {g : Nat} {l : List UInt8} (h : BRow w g l) : BRow w.drew g l := ⟨h.cell, h.free⟩
theorem BRow.set {w : World} {g : Nat} {l : List UInt8} (h : BRow w g l) (i : Nat) (hi : i < l.length) (c : UInt8) : BRow (w.setCell ⟨g, i, none⟩ (.int .u8 (c.toNat : Int))) g (l.set i c) := by
  constructor
  · intro j d hj
    by_cases e : j = i
    · subst e
      rw [World.cell?_setCell_same _ _ _ (h.cell j _ (List.getElem?_eq_getElem hi))]
      rw [List.getElem?_set_self hi] at hj
      injection hj with hj; subst hj; rfl
    · rw [List.getElem?_set_ne (Ne.symm e)] at hj
      rw [World.cell?_setCell_other _ _ _ _ (by intro e'; injection e' with _ e2; exact e e2.symm), h.cell j _ hj]
  · intro j hj
    simp only [List.length_set] at hj
    rw [World.frozen?_setCell]; exact h.free j hj
theorem add0 (g j : Nat) : (⟨g, 0, none⟩ : Addr).add j = ⟨g, j, none⟩ := by
  unfold Addr.add; split
  · subst_vars; rfl
  · simp
theorem BRow.back {w : World} {g : Nat} {l : List UInt8} (h : BRow w g l) (cap : Nat) :
    (convert 49 9 (.slice (some ⟨g, 0, none⟩) l.length cap)).run Try.prog w = .ok (.string ⟨l.toArray⟩) w :=
  run_convert_bytes_back w 49 9 5 ⟨g, 0, none⟩ cap l Try.underlying49 Try.underlying5 Try.underlying9 (fun j hj => by
    rw [add0]; exact h.cell j _ (List.getElem?_eq_getElem hj))
end Go.Proofs.Ytaogpifcfmjcbaa
end
section
namespace Go.Proofs.Ytaogpifcfmjcbaa
open Go.RowKit
theorem letter_any (c : UInt8) (w : World) :
    Calls Try.prog 47 #[.int .u8 (c.toNat : Int)] w fun e w' => e = .returned (.bool (Lx.letterB c)) ∧ w = w' := by
  go_enter Try.func47, Try.ntmps47
  go_wp2
  all_goals
    go_ret
    refine ⟨ret_bool ?_, rfl⟩
    rw [Bool.eq_iff_iff]
    simp [Lx.letterB]
    omega
theorem digit_any (c : UInt8) (w : World) :
    Calls Try.prog 51 #[.int .u8 (c.toNat : Int)] w fun e w' => e = .returned (.bool (Lx.digitB c)) ∧ w = w' := by
  go_enter Try.func51, Try.ntmps51
  go_wp2
  all_goals
    go_ret
    refine ⟨ret_bool ?_, rfl⟩
    rw [Bool.eq_iff_iff]
    simp [Lx.digitB]
    omega
theorem inner_any (c : UInt8) (w : World) :
    Calls Try.prog 49 #[.int .u8 (c.toNat : Int)] w fun e w' => e = .returned (.bool (Lx.innerB c)) ∧ w = w' := by
  go_enter Try.func49, Try.ntmps49
  go_wp2_with (first
    | (go_at_call 47; refine (letter_any c _).mono ?_; rintro e w' ⟨rfl, rfl⟩)
    | (go_at_call 51; refine (digit_any c _).mono ?_; rintro e w' ⟨rfl, rfl⟩))
  all_goals
    go_ret
    refine ⟨ret_bool ?_, rfl⟩
    rw [Bool.eq_iff_iff]
    simp_all [Lx.innerB]
theorem noLine_any (c : UInt8) (w : World) :
    Calls Try.prog 55 #[.int .u8 (c.toNat : Int)] w fun e w' => e = .returned (.bool (Lx.noLine c)) ∧ w = w' := by
  go_enter Try.func55, Try.ntmps55
  go_wp2
  all_goals
    go_ret
    refine ⟨ret_bool ?_, rfl⟩
    rw [Bool.eq_iff_iff]
    simp [Lx.noLine]
    omega
theorem runL_at (p : UInt8 → Bool) (s : ByteArray) (k : Nat) (h : k < s.size) :
    Lx.runL p (s.data.toList.drop k) = if p s[k] then Lx.runL p (s.data.toList.drop (k + 1)) + 1 else 0 := by
  have hl : k < s.data.toList.length := by simpa using h
  rw [List.drop_eq_getElem_cons hl]
  simp only [Lx.runL]
  rfl
set_option maxHeartbeats 400000 in
theorem run_digit (s : ByteArray) (w : World) (hs : s.size ≤ maxLen) :
    Calls Try.prog 48 #[.string s, .func (.func 51) #[] #[]] w fun e w' => e = .returned (.int .i64 (Lx.runL Lx.digitB s.data.toList)) ∧ w = w' := by
  unfold maxLen at hs
  go_enter Try.func48, Try.ntmps48
  go_wp2
  go_loop [5] (fun n => ∃ k : Nat, k ≤ s.size ∧ n = .int .i64 k ∧ Hid (Lx.runL Lx.digitB s.data.toList = k + Lx.runL Lx.digitB (s.data.toList.drop k))) (fun n => s.size - (intOf n).toNat)
  case atStart => exact ⟨0, Nat.zero_le _, rfl, by simp [Hid]⟩
  case round =>
    obtain ⟨k, hk, rfl, H⟩ := hrel
    by_cases hlt : k < s.size
    · have h1 := runL_at Lx.digitB s k hlt
      have H1 := hid h1; clear h1
      go_wp2_with (first
        | (go_at_call 51; refine (digit_any _ _).mono ?_; rintro e w' ⟨rfl, rfl⟩))
      · have hp : Lx.digitB s[k] = true := by assumption
        go_round
        case rel => exact ⟨k + 1, by omega, by go_num, by have := H.out; rw [H1.out, if_pos hp] at this; show _ = _; omega⟩
        case measure => simp [intOf]; omega
      · have hp : ¬ Lx.digitB s[k] = true := by first | assumption | (rw [Bool.not_eq_true]; assumption)
        go_ret
        refine ⟨ret_int ?_, rfl⟩
        have := H.out; rw [H1.out, if_neg hp] at this; omega
    · obtain rfl : k = s.size := by omega
      go_wp2
      go_ret
      refine ⟨ret_int ?_, rfl⟩
      have := H.out
      rw [List.drop_eq_nil_of_le (by simp)] at this
      simp only [Lx.runL] at this
      omega
set_option maxHeartbeats 400000 in
theorem run_inner (s : ByteArray) (w : World) (hs : s.size ≤ maxLen) :
    Calls Try.prog 48 #[.string s, .func (.func 49) #[] #[]] w fun e w' => e = .returned (.int .i64 (Lx.runL Lx.innerB s.data.toList)) ∧ w = w' := by
  unfold maxLen at hs
  go_enter Try.func48, Try.ntmps48
  go_wp2
  go_loop [5] (fun n => ∃ k : Nat, k ≤ s.size ∧ n = .int .i64 k ∧ Hid (Lx.runL Lx.innerB s.data.toList = k + Lx.runL Lx.innerB (s.data.toList.drop k))) (fun n => s.size - (intOf n).toNat)
  case atStart => exact ⟨0, Nat.zero_le _, rfl, by simp [Hid]⟩
  case round =>
    obtain ⟨k, hk, rfl, H⟩ := hrel
    by_cases hlt : k < s.size
    · have h1 := runL_at Lx.innerB s k hlt
      have H1 := hid h1; clear h1
      go_wp2_with (first
        | (go_at_call 49; refine (inner_any _ _).mono ?_; rintro e w' ⟨rfl, rfl⟩))
      · have hp : Lx.innerB s[k] = true := by assumption
        go_round
        case rel => exact ⟨k + 1, by omega, by go_num, by have := H.out; rw [H1.out, if_pos hp] at this; show _ = _; omega⟩
        case measure => simp [intOf]; omega
      · have hp : ¬ Lx.innerB s[k] = true := by first | assumption | (rw [Bool.not_eq_true]; assumption)
        go_ret
        refine ⟨ret_int ?_, rfl⟩
        have := H.out; rw [H1.out, if_neg hp] at this; omega
    · obtain rfl : k = s.size := by omega
      go_wp2
      go_ret
      refine ⟨ret_int ?_, rfl⟩
      have := H.out
      rw [List.drop_eq_nil_of_le (by simp)] at this
      simp only [Lx.runL] at this
      omega
set_option maxHeartbeats 400000 in
theorem run_noLine (s : ByteArray) (w : World) (hs : s.size ≤ maxLen) :
    Calls Try.prog 48 #[.string s, .func (.func 55) #[] #[]] w fun e w' => e = .returned (.int .i64 (Lx.runL Lx.noLine s.data.toList)) ∧ w = w' := by
  unfold maxLen at hs
  go_enter Try.func48, Try.ntmps48
  go_wp2
  go_loop [5] (fun n => ∃ k : Nat, k ≤ s.size ∧ n = .int .i64 k ∧ Hid (Lx.runL Lx.noLine s.data.toList = k + Lx.runL Lx.noLine (s.data.toList.drop k))) (fun n => s.size - (intOf n).toNat)
  case atStart => exact ⟨0, Nat.zero_le _, rfl, by simp [Hid]⟩
  case round =>
    obtain ⟨k, hk, rfl, H⟩ := hrel
    by_cases hlt : k < s.size
    · have h1 := runL_at Lx.noLine s k hlt
      have H1 := hid h1; clear h1
      go_wp2_with (first
        | (go_at_call 55; refine (noLine_any _ _).mono ?_; rintro e w' ⟨rfl, rfl⟩))
      · have hp : Lx.noLine s[k] = true := by assumption
        go_round
        case rel => exact ⟨k + 1, by omega, by go_num, by have := H.out; rw [H1.out, if_pos hp] at this; show _ = _; omega⟩
        case measure => simp [intOf]; omega
      · have hp : ¬ Lx.noLine s[k] = true := by first | assumption | (rw [Bool.not_eq_true]; assumption)
        go_ret
        refine ⟨ret_int ?_, rfl⟩
        have := H.out; rw [H1.out, if_neg hp] at this; omega
    · obtain rfl : k = s.size := by omega
      go_wp2
      go_ret
      refine ⟨ret_int ?_, rfl⟩
      have := H.out
      rw [List.drop_eq_nil_of_le (by simp)] at this
      simp only [Lx.runL] at this
      omega
def lowK (k : Nat) (l : List UInt8) : List UInt8 := (l.map Lx.low).take k ++ l.drop k
theorem lowK_len (k : Nat) (l : List UInt8) : (lowK k l).length = l.length := by simp [lowK]; omega
theorem lowK_at (k : Nat) (l : List UInt8) (h : k < l.length) : (lowK k l)[k]? = some l[k] := by
  unfold lowK
  rw [List.getElem?_append_right (by simp; omega)]
  simp [Nat.min_eq_left (Nat.le_of_lt h), h]
theorem lowK_set (k : Nat) (l : List UInt8) (h : k < l.length) : (lowK k l).set k (Lx.low l[k]) = lowK (k + 1) l := by
  unfold lowK
  have hm : k < (l.map Lx.low).length := by simpa using h
  rw [List.set_append_right _ _ (by simp; omega), List.take_succ_eq_append_getElem hm, List.drop_eq_getElem_cons h]
  simp only [List.length_take, List.length_map, Nat.min_eq_left (Nat.le_of_lt h), Nat.sub_self, List.getElem_map, List.append_assoc]
  rw [← List.drop_eq_getElem_cons h]
  rw [List.drop_eq_getElem_cons h]
  rfl
theorem lowK_same (k : Nat) (l : List UInt8) (h : k < l.length) (hl : Lx.upperB l[k] = false) : lowK (k + 1) l = lowK k l := by
  unfold lowK
  have hm : k < (l.map Lx.low).length := by simpa using h
  rw [List.take_succ_eq_append_getElem hm, List.drop_eq_getElem_cons h]
  simp [Lx.low, hl]
set_option maxHeartbeats 400000 in
set_option maxRecDepth 100000 in
theorem small_any (s : ByteArray) (w : World) (hs : s.size ≤ maxLen) :
    Calls Try.prog 50 #[.string s] w fun e w' => e = .returned (.string ⟨(s.data.toList.map Lx.low).toArray⟩) ∧ Below w.heap.size w w' := by
  have hs : s.size ≤ 9223372036854775807 := hs
  have hb := fun W => u8map W s
  go_enter Try.func50, Try.ntmps50
  go_wp2
  generalize hcap : grownCap w s.size 0 5 = cap
  go_loopw [10] (fun n wr => ∃ k : Nat, k ≤ s.size ∧ n = .int .i64 k ∧ BRow wr w.heap.size (lowK k s.data.toList) ∧ Below w.heap.size w wr) (fun n _ => s.size - (intOf n).toNat)
  case atStart => exact ⟨0, Nat.zero_le _, rfl, (BRow.made w s _).drew, ((Below.refl _ _).alloc (Nat.le_refl _) _).drew⟩
  case round =>
    obtain ⟨k, hk, rfl, hrow, hbel⟩ := hrel
    clear hb hcap
    by_cases hlt : k < s.size
    · have hl : k < s.data.toList.length := by simpa using hlt
      have hl2 : k < (lowK k s.data.toList).length := by rw [lowK_len]; exact hl
      have hc := hrow.cell k _ (lowK_at k _ hl)
      have hf := hrow.free k hl2
      obtain ⟨c, hcc⟩ : ∃ c, c = s.data.toList[k] := ⟨_, rfl⟩
      rw [← hcc] at hc
      have Hcc := hid hcc; clear hcc
      have h255 : (c.toNat : Int) < 256 := by have := c.toNat_lt; omega
      go_wp2
      · have hu : Lx.upperB c = true := by simp [Lx.upperB]; omega
        have hlow : (((Lx.low c).toNat : Nat) : Int) = (c.toNat : Int) + 97 - 65 := by
          simp only [Lx.low, hu, if_true, UInt8.toNat_add]
          have : (32 : UInt8).toNat = 32 := rfl
          omega
        have hset := hrow.set k hl2 (Lx.low c)
        rw [Hcc.out, lowK_set k _ hl, ← Hcc.out, hlow] at hset
        go_roundw
        case rel => exact ⟨k + 1, by omega, by go_num, hset, hbel.setCell (Nat.le_refl _) _⟩
        case measure => simp [intOf]; omega
      all_goals
        have hu : Lx.upperB c = false := by rw [← Bool.not_eq_true]; simp [Lx.upperB]; omega
        have hsame := lowK_same k _ hl (by rw [← Hcc.out]; exact hu)
        rw [← hsame] at hrow
        go_roundw
        case rel => exact ⟨k + 1, by omega, by go_num, hrow, hbel⟩
        case measure => simp [intOf]; omega
    · obtain rfl : k = s.size := by omega
      have hbk := hrow.back cap
      rw [lowK_len] at hbk
      simp only [Array.length_toList, ByteArray.size_data] at hbk
      go_wp2
      go_ret
      refine ⟨?_, hbel⟩
      have : lowK s.size s.data.toList = s.data.toList.map Lx.low := by
        unfold lowK
        rw [List.take_of_length_le (by simp), List.drop_eq_nil_of_le (by simp), List.append_nil]
      exact congrArg (fun l : List UInt8 => Ending.returned (.string ⟨l.toArray⟩)) this
end Go.Proofs.Ytaogpifcfmjcbaa
end
section
namespace Go.Proofs
open Go.Shelf
def Try.lays169_ren : Go.Shelf.Ren := ⟨fun | 169 => 65 | n => n, fun | 70 => 99 | 9 => 9 | 0 => 0 | 72 => 101 | 37 => 49 | 127 => 107 | 3 => 3 | 5 => 5 | n => n, fun | n => n⟩
theorem Try.lays169 : Go.Proofs.Lays.n169 Try.prog Try.lays169_ren := {
  mixed := by kernel_rfl
  f169 := Try.func65.trans (congrArg some (by kernel_rfl))
  t0 := Try.underlying0
  a0 := Try.isAgg0
  z0 := Try.sizeOf0
  v0 := Try.zeroValue0
  t3 := Try.underlying3
  a3 := Try.isAgg3
  z3 := Try.sizeOf3
  v3 := Try.zeroValue3
  t9 := Try.underlying9
  a9 := Try.isAgg9
  z9 := Try.sizeOf9
  v9 := Try.zeroValue9
  t37 := Try.underlying49
  a37 := Try.isAgg49
  z37 := Try.sizeOf49
  v37 := Try.zeroValue49
  t70 := Try.underlying99
  a70 := Try.isAgg99
  z70 := Try.sizeOf99
  v70 := Try.zeroValue99
  t72 := Try.underlying101
  a72 := Try.isAgg101
  z72 := Try.sizeOf101
  v72 := Try.zeroValue101
  t127 := Try.underlying107
  a127 := Try.isAgg107
  z127 := Try.sizeOf107
  v127 := Try.zeroValue107 }
theorem Try.Builder_Extra_169 : Builder.Extra Try.prog Try.lays169_ren := {
  sizeBuilder := by kernel_rfl
  liesBuilder := by kernel_rfl
  t5 := Try.underlying5
  a5 := Try.isAgg5
  z5 := Try.sizeOf5
  v5 := Try.zeroValue5
  infoByte := by kernel_rfl
  cellsByte := by kernel_rfl
  sizeByte := by kernel_rfl
  neB5 := by decide }
open Go.RowKit in
open Go.RowKit in
open Go.RowKit in
theorem Try.Builder_String_any (B b : Nat) (l : List UInt8) (w : World) (h : Lib.IsBuilder 101 5 B b (Lib.byteCells l) w) (hBw : B ≤ w.heap.size) :
    Calls Try.prog 65 #[.pointer (some ⟨b, 0, none⟩)] w fun e w' => e = .returned (.string ⟨l.toArray⟩) ∧ Below B w w' := Any.Builder_String_any Try.lays169 Try.Builder_Extra_169 B b l w h hBw
def Try.lays137_ren : Go.Shelf.Ren := ⟨fun | 137 => 66 | 217 => 72 | 266 => 77 | n => n, fun | 9 => 9 | 5 => 5 | 3 => 3 | n => n, fun | n => n⟩
theorem Try.lays137 : Go.Proofs.Lays.n137 Try.prog Try.lays137_ren := {
  mixed := by kernel_rfl
  f137 := Try.func66.trans (congrArg some (by kernel_rfl))
  f217 := Try.func72.trans (congrArg some (by kernel_rfl))
  f266 := Try.func77.trans (congrArg some (by kernel_rfl))
  t3 := Try.underlying3
  a3 := Try.isAgg3
  z3 := Try.sizeOf3
  v3 := Try.zeroValue3
  t5 := Try.underlying5
  a5 := Try.isAgg5
  z5 := Try.sizeOf5
  v5 := Try.zeroValue5
  t9 := Try.underlying9
  a9 := Try.isAgg9
  z9 := Try.sizeOf9
  v9 := Try.zeroValue9 }
open Go.RowKit in
theorem Try.strings_IndexByte (s : ByteArray) (c : Int) (w : World) :
    Calls Try.prog 66 #[.string s, .int .u8 c] w fun e w' => e = .returned (.int .i64 (Lib.indexByte s.data.toList c.toNat.toUInt8)) ∧ w' = w := Any.strings_IndexByte Try.lays137 s c w
open Go.RowKit in
open Go.RowKit in
open Go.RowKit in
open Go.RowKit in
open Go.RowKit in
open Go.RowKit in
open Go.RowKit Go.Lib in
open Go.RowKit Go.Lib in
open Go.RowKit Go.Lib in
open Go.RowKit Go.Lib in
open Go.RowKit Go.Lib in
open Go.RowKit Go.Lib in
open Go.RowKit Go.Lib in
open Go.RowKit Go.Lib in
def Try.lays144_ren : Go.Shelf.Ren := ⟨fun | 144 => 73 | 143 => 78 | 219 => 80 | 217 => 72 | 225 => 82 | 224 => 83 | 267 => 84 | 266 => 77 | 314 => 86 | n => n, fun | 9 => 9 | 4 => 4 | 3 => 3 | 5 => 5 | 46 => 113 | 146 => 115 | 51 => 114 | n => n, fun | 1 => 0 | n => n⟩
theorem Try.lays144 : Go.Proofs.Lays.n144 Try.prog Try.lays144_ren := {
  mixed := by kernel_rfl
  f143 := Try.func78.trans (congrArg some (by kernel_rfl))
  f144 := Try.func73.trans (congrArg some (by kernel_rfl))
  f217 := Try.func72.trans (congrArg some (by kernel_rfl))
  f219 := Try.func80.trans (congrArg some (by kernel_rfl))
  f224 := Try.func83.trans (congrArg some (by kernel_rfl))
  f225 := Try.func82.trans (congrArg some (by kernel_rfl))
  f266 := Try.func77.trans (congrArg some (by kernel_rfl))
  f267 := Try.func84.trans (congrArg some (by kernel_rfl))
  f314 := Try.func86.trans (congrArg some (by kernel_rfl))
  t3 := Try.underlying3
  a3 := Try.isAgg3
  z3 := Try.sizeOf3
  v3 := Try.zeroValue3
  t4 := Try.underlying4
  a4 := Try.isAgg4
  z4 := Try.sizeOf4
  v4 := Try.zeroValue4
  t5 := Try.underlying5
  a5 := Try.isAgg5
  z5 := Try.sizeOf5
  v5 := Try.zeroValue5
  t9 := Try.underlying9
  a9 := Try.isAgg9
  z9 := Try.sizeOf9
  v9 := Try.zeroValue9
  t46 := Try.underlying113
  a46 := Try.isAgg113
  z46 := Try.sizeOf113
  v46 := Try.zeroValue113
  t51 := Try.underlying114
  a51 := Try.isAgg114
  z51 := Try.sizeOf114
  v51 := Try.zeroValue114
  t146 := Try.underlying115
  a146 := Try.isAgg115
  z146 := Try.sizeOf115
  v146 := Try.zeroValue115
  g1 := by kernel_rfl }
open Go.RowKit Go.Lib in
theorem Try.strings_Contains_one (s : ByteArray) (c : UInt8) (w : World) :
    Calls Try.prog 73 #[.string s, .string ⟨#[c]⟩] w fun e w' => e = .returned (.bool (decide (0 ≤ Lib.indexByte s.data.toList c))) ∧ w' = w := Any.strings_Contains_one Try.lays144 s c w
open Go.RowKit Go.Lib in
theorem Try.strings_Contains (s sub : ByteArray) (m : Int) (w : World) (hs : s.size < 4294967281) (hm : w.cell? ⟨0, 0, none⟩ = some (.int .i64 m)) :
    Calls Try.prog 73 #[.string s, .string sub] w fun e w' => e = .returned (.bool (Lib.contains s.data.toList sub.data.toList)) ∧ w' = w := Any.strings_Contains Try.lays144 s sub m w hs hm
open Go.RowKit Go.Lib in
open Go.RowKit Go.Lib in
def Try.laysM144_ren : Go.Shelf.Ren := ⟨fun | 144 => 73 | 143 => 78 | 219 => 80 | 217 => 72 | 225 => 82 | 224 => 83 | 267 => 84 | 266 => 77 | 314 => 86 | n => n, fun | 9 => 9 | 4 => 4 | 3 => 3 | 5 => 5 | 46 => 113 | 146 => 115 | 51 => 114 | n => n, fun | 1 => 0 | n => n⟩
theorem Try.laysM144 : Go.Proofs.LaysM.n144 Try.prog Try.laysM144_ren := {
  mixed := by kernel_rfl
  f143 := Try.func78.trans (congrArg some (by kernel_rfl))
  f144 := Try.func73.trans (congrArg some (by kernel_rfl))
  f217 := Try.func72.trans (congrArg some (by kernel_rfl))
  f219 := Try.func80.trans (congrArg some (by kernel_rfl))
  f224 := Try.func83.trans (congrArg some (by kernel_rfl))
  f225 := Try.func82.trans (congrArg some (by kernel_rfl))
  f266 := Try.func77.trans (congrArg some (by kernel_rfl))
  f267 := Try.func84.trans (congrArg some (by kernel_rfl))
  f314 := Try.func86.trans (congrArg some (by kernel_rfl))
  t3 := Try.underlying3
  a3 := Try.isAgg3
  z3 := Try.sizeOf3
  v3 := Try.zeroValue3
  t4 := Try.underlying4
  a4 := Try.isAgg4
  z4 := Try.sizeOf4
  v4 := Try.zeroValue4
  t5 := Try.underlying5
  a5 := Try.isAgg5
  z5 := Try.sizeOf5
  v5 := Try.zeroValue5
  t9 := Try.underlying9
  a9 := Try.isAgg9
  z9 := Try.sizeOf9
  v9 := Try.zeroValue9
  t46 := Try.underlying113
  a46 := Try.isAgg113
  z46 := Try.sizeOf113
  v46 := Try.zeroValue113
  t51 := Try.underlying114
  a51 := Try.isAgg114
  z51 := Try.sizeOf114
  v51 := Try.zeroValue114
  t146 := Try.underlying115
  a146 := Try.isAgg115
  z146 := Try.sizeOf115
  v146 := Try.zeroValue115
  g1 := by kernel_rfl
  i3 := by kernel_rfl
  i4 := by kernel_rfl
  i5 := by kernel_rfl
  i9 := by kernel_rfl
  i46 := by kernel_rfl
  i51 := by kernel_rfl
  i146 := by kernel_rfl
  m1 := by kernel_rfl
  s1_3 := fun w h => Go.Proofs.cell_of_shapedOpen_int (zero := #[.int .i64 0]) (t := 3) h (of_decide_eq_true (by kernel_rfl)) (by kernel_rfl) rfl (by kernel_rfl) (by kernel_rfl) Try.underlying3 }
open Go.RowKit Go.Lib in
open Go.RowKit Go.Lib in
def Try.lays99_ren : Go.Shelf.Ren := ⟨fun | 99 => 46 | 206 => 63 | n => n, fun | 9 => 9 | 4 => 4 | 3 => 3 | n => n, fun | n => n⟩
theorem Try.lays99 : Go.Proofs.Lays.n99 Try.prog Try.lays99_ren := {
  mixed := by kernel_rfl
  f99 := Try.func46.trans (congrArg some (by kernel_rfl))
  f206 := Try.func63.trans (congrArg some (by kernel_rfl))
  t3 := Try.underlying3
  a3 := Try.isAgg3
  z3 := Try.sizeOf3
  v3 := Try.zeroValue3
  t4 := Try.underlying4
  a4 := Try.isAgg4
  z4 := Try.sizeOf4
  v4 := Try.zeroValue4
  t9 := Try.underlying9
  a9 := Try.isAgg9
  z9 := Try.sizeOf9
  v9 := Try.zeroValue9 }
open Go.RowKit Go.Lib in
theorem Try.strings_HasPrefix (s p : ByteArray) (w : World) :
    Calls Try.prog 46 #[.string s, .string p] w fun e w' => e = .returned (.bool (Lib.hasPrefix s.data.toList p.data.toList)) ∧ w' = w := Any.strings_HasPrefix Try.lays99 s p w
end Go.Proofs
end
section
namespace Go.Proofs.Ytaogpifcfmjcbaa
open Go.RowKit
set_option linter.unusedVariables false
theorem bld_info : (Try.prog.info? 101).map (fun i => i.size) = some 2 := by kernel_rfl
theorem byte_info : (Try.prog.info? 5).map (fun i => (i.zero, i.size, i.bytes)) = some (some (.int .u8 0), 1, 1) := by kernel_rfl
theorem bld_lies : liesAt Try.prog Try.prog.depth 101 (2 / Try.prog.cellsOf 101) 0 101 1 = true := by kernel_rfl
set_option maxRecDepth 100000 in
set_option maxHeartbeats 1000000 in
theorem check_used (b : Nat) (w : World) (h0 : w.cell? ⟨b, 0, none⟩ = some (.pointer (some ⟨b, 0, none⟩))) :
    Calls Try.prog 71 #[.pointer (some ⟨b, 0, none⟩)] w fun e w' => e = .returned (.tuple #[]) ∧ w = w' := by
  obtain ⟨j, hj, _⟩ := Option.map_eq_some_iff.1 bld_info
  have hne := fun W : World => Lib.run_neq_ptr_same W (⟨b, 0, none⟩ : Addr) Try.underlying99 hj
  go_enter Try.func71, Try.ntmps71
  go_wp2
  go_end0
  exact ⟨rfl, rfl⟩
set_option maxRecDepth 100000 in
set_option maxHeartbeats 1000000 in
theorem check_fresh (b : Nat) (w : World) (h0 : w.cell? ⟨b, 0, none⟩ = some (.pointer none)) (hsh : w.shape? b = some (101, 2)) (hfz : w.frozen? ⟨b, 0, none⟩ = false) :
    Calls Try.prog 71 #[.pointer (some ⟨b, 0, none⟩)] w fun e w' => e = .returned (.tuple #[]) ∧ w.setCell ⟨b, 0, none⟩ (.pointer (some ⟨b, 0, none⟩)) = w' := by
  obtain ⟨j, hj, hjs⟩ := Option.map_eq_some_iff.1 bld_info
  have hne := fun W : World => Lib.run_neq_ptr_same W (⟨b, 0, none⟩ : Addr) Try.underlying99 hj
  have ht := Lib.run_to_unsafe w ⟨b, 0, none⟩ Try.underlying99 Try.underlying109 hj (by rw [hjs]; decide) hsh (Nat.zero_lt_succ 1)
  have hf := Lib.run_from_unsafe w ⟨b, 0, none⟩ Try.underlying109 Try.underlying99 hj hsh bld_lies
  have hx := run_callFunc_extern (P := Try.prog) (w := w) Try.func76 (by kernel_rfl) (by kernel_rfl) (by kernel_rfl) (e := Extern.AbiNoEscape.same) (by kernel_rfl) (args := #[.pointer (some ⟨b, 0, none⟩)])
  rw [Lib.run_noEscape] at hx
  go_enter Try.func71, Try.ntmps71
  go_wp2
  go_end0
  exact ⟨rfl, rfl⟩
theorem check_any (B b : Nat) (bs : List Value) (w : World) (h : Lib.IsBuilder 101 5 B b bs w) :
    Calls Try.prog 71 #[.pointer (some ⟨b, 0, none⟩)] w fun e w' => e = .returned (.tuple #[]) ∧ (Lib.BuilderAt 101 5 B b (.pointer (some ⟨b, 0, none⟩)) bs w' ∧ Below B w w') := by
  rcases h with h | h
  · refine (check_fresh b w h.cell0 h.shape h.frozen0).mono ?_
    rintro e w' ⟨rfl, rfl⟩
    exact ⟨rfl, h.used _, (Below.refl B w).setCell (p := ⟨b, 0, none⟩) h.1 _⟩
  · refine (check_used b w h.cell0).mono ?_
    rintro e w' ⟨rfl, rfl⟩
    exact ⟨rfl, h, Below.refl B _⟩
set_option maxHeartbeats 2000000 in
set_option maxRecDepth 100000 in
theorem writeByte_any (B b : Nat) (bs : List Value) (c : Int) (w : World) (h : Lib.IsBuilder 101 5 B b bs w) (hlen : bs.length + 1 ≤ 140737488355328) (hBw : B ≤ w.heap.size) :
    Calls Try.prog 64 #[.pointer (some ⟨b, 0, none⟩), .int .u8 c] w fun e w' => e = .returned .nilIface ∧ Lib.IsBuilder 101 5 B b (bs ++ [.int .u8 c]) w' ∧ Below B w w' := by
  obtain ⟨i0, hi, hz0, hz1, hz2⟩ := info_parts byte_info
  go_enter Try.func64, Try.ntmps64
  go_wp2_with (go_at_call 71; refine (check_any B b bs _ h).mono ?_)
  rintro e w1 ⟨rfl, h1, hb1⟩
  obtain ⟨hB, v, hbk, hown, hne⟩ := h1
  have c0 : w1.cell? ⟨b, 0, none⟩ = some (.pointer (some ⟨b, 0, none⟩)) := by rw [Lib.cell_of_heap hbk]; rfl
  have c1 : w1.cell? ⟨b, 1, none⟩ = some v := by rw [Lib.cell_of_heap hbk]; rfl
  go_wp2_with (at_builtin; refine wpList_append_own _ rfl _ _ 49 rfl B 5 i0 (.int .u8 0) 1 1 Try.underlying49 hi hz0 hz1 hz2 rfl (by decide) _ _ _ rfl (hown.alloc _) ⟨w1.heap.size, 0, none⟩ 1 1 [.int .u8 c] rfl rfl ?c1 ?c2 ?c3 ?c4 ?c5 ?_)
  case c1 =>
    intro j u hj
    match j, hj with
    | 0, hj => simp at hj; subst hj; simp [Addr.add]
  case c2 => intro u hu; simp at hu; subst hu; rfl
  case c3 => unfold maxLen; omega
  case c4 => omega
  case c5 => have := hb1.size; simp; omega
  intro v' w2 hown' hgrow _
  have hlt : b < w1.heap.size := by
    rcases Nat.lt_or_ge b w1.heap.size with h' | h'
    · exact h'
    · simp [Array.getElem?_eq_none h'] at hbk
  have hb2 : w2.heap[b]? = some (.cells #[.pointer (some ⟨b, 0, none⟩), v] 101 (0, 0)) := by
    rw [hgrow.block b (by simp; omega) (fun e => hne e.symm), Below.heap_alloc w1 _ b hlt]
    exact hbk
  have d0 : w2.cell? ⟨b, 0, none⟩ = some (.pointer (some ⟨b, 0, none⟩)) := by rw [Lib.cell_of_heap hb2]; rfl
  have d1 : w2.cell? ⟨b, 1, none⟩ = some v := by rw [Lib.cell_of_heap hb2]; rfl
  have f1 : w2.frozen? ⟨b, 1, none⟩ = false := Lib.frozen_of_heap hb2 1
  obtain ⟨g, cap, rfl⟩ : ∃ g cap, v' = .slice (some ⟨g, 0, none⟩) (bs.length + 1) cap := by
    rcases hown'.2 with ⟨_, h0⟩ | ⟨g, cap, cur, hv, _⟩
    · omega
    · exact ⟨g, cap, hv⟩
  go_wp2
  go_ret
  refine ⟨rfl, .inr ?_, ?_⟩
  · exact Lib.BuilderAt.put (T := 101) (e := 5) hB hb2 (bs' := bs ++ [.int .u8 c]) (by simpa using hown') (by decide)
  · exact ((hb1.alloc (by have := hb1.size; omega) _).grown hgrow (by have := hb1.size; simp; omega) (fun k hk => (hown.lt k hk).1)).setCell (p := ⟨b, 1, none⟩) hB _
theorem bld_fresh (w : World) (B : Nat) (hB : B ≤ w.heap.size) : Lib.IsBuilder 101 5 B w.heap.size [] (w.alloc (.cells #[.pointer none, .slice none 0 0] 101)) :=
  .inl ⟨hB, .slice none 0 0, heap_new _ _, ⟨by simp, .inl ⟨rfl, rfl⟩⟩, by simp [Value.ownBlock]⟩
end Go.Proofs.Ytaogpifcfmjcbaa
end
section
namespace Go.Proofs.Ytaogpifcfmjcbaa
open Go.RowKit
def tkCells (t : Lx.Tk) (pos : Int) : Array Value := #[.int .i64 (t.kind : Int), .string ⟨t.text.toArray⟩, .int .i64 (t.num : Int), .int .i64 pos]
def noCells : Array Value := #[.int .i64 0, .string ⟨#[]⟩, .int .i64 0, .int .i64 0]
def tokRes : Option (Lx.Tk × Nat) → Value
  | none => .tuple #[.agg noCells, .int .i64 0, .bool false]
  | some x => .tuple #[.agg (tkCells x.1 0), .int .i64 (x.2 : Int), .bool true]
theorem startsL_at (s : ByteArray) (k : Nat) (h : k < s.size) : Lx.startsLetter (s.data.toList.drop k) = Lx.letterB s[k] := by
  have hl : k < s.data.toList.length := by simpa using h
  rw [List.drop_eq_getElem_cons hl]; rfl
theorem startsL_end (s : ByteArray) (k : Nat) (h : s.size ≤ k) : Lx.startsLetter (s.data.toList.drop k) = false := by
  rw [List.drop_eq_nil_of_le (by simpa using h)]; rfl
set_option maxHeartbeats 400000 in
set_option maxRecDepth 100000 in
theorem number_no (s : ByteArray) (w : World) (hs : s.size ≤ maxLen) (h : 19 < Lx.runL Lx.digitB s.data.toList ∨ Lx.startsLetter (s.data.toList.drop (Lx.runL Lx.digitB s.data.toList)) = true) :
    Calls Try.prog 52 #[.string s] w fun e w' => e = .returned (tokRes none) ∧ Below w.heap.size w w' := by
  have hs' : s.size ≤ 9223372036854775807 := hs
  have hn := runL_le Lx.digitB s.data.toList
  have hrun := fun W => run_digit s W hs
  obtain ⟨n, e⟩ : ∃ n, n = Lx.runL Lx.digitB s.data.toList := ⟨_, rfl⟩
  simp only [← e] at hrun h hn
  clear e
  have Hrun := hid hrun; clear hrun
  by_cases h19 : 19 < n
  · clear h
    go_enter Try.func52, Try.ntmps52
    go_wp2_with (first | (go_at_call 48; refine (Hrun.out _).mono ?_; rintro e w' ⟨rfl, rfl⟩))
    refine bodyPost_ret (v := tokRes none) (by simp [results, Try.results52, go_sem, tokRes, noCells]) rfl ⟨rfl, ?_⟩
    exact (Below.refl _ _).alloc (Nat.le_refl _) _
  · have h2 := h.resolve_left h19
    clear h
    have hlt : n < s.size := by
      rcases Nat.lt_or_ge n s.size with h | h
      · exact h
      · rw [startsL_end s n h] at h2; cases h2
    rw [startsL_at s n hlt] at h2
    go_enter Try.func52, Try.ntmps52
    go_wp2_with (first | (go_at_call 48; refine (Hrun.out _).mono ?_; rintro e w' ⟨rfl, rfl⟩) | (go_at_call 47; refine (letter_any _ _).mono ?_; rintro e w' ⟨rfl, rfl⟩))
    refine bodyPost_ret (v := tokRes none) (by simp [results, Try.results52, go_sem, tokRes, noCells]) rfl ⟨rfl, ?_⟩
    exact (Below.refl _ _).alloc (Nat.le_refl _) _
theorem below_at {B g i : Nat} {a w : World} {u : Value} (h : Below B a w) (hg : B ≤ g) : Below B a (w.setCell ⟨g, i, none⟩ u) := h.setCell (p := ⟨g, i, none⟩) hg u
theorem blk4 {w : World} {g : Nat} {a b c d : Value} {T : TypeId} (h : w.heap[g]? = some (.cells #[a, b, c, d] T (0, 0))) :
    w.cell? ⟨g, 0, none⟩ = some a ∧ w.cell? ⟨g, 1, none⟩ = some b ∧ w.cell? ⟨g, 2, none⟩ = some c ∧ w.cell? ⟨g, 3, none⟩ = some d ∧ ∀ i, w.frozen? ⟨g, i, none⟩ = false :=
  ⟨by rw [Lib.cell_of_heap h]; rfl, by rw [Lib.cell_of_heap h]; rfl, by rw [Lib.cell_of_heap h]; rfl, by rw [Lib.cell_of_heap h]; rfl, fun i => Lib.frozen_of_heap h i⟩
theorem take_snoc' (l : List UInt8) (k : Nat) (h : k < l.length) : l.take (k + 1) = l.take k ++ [l[k]] := List.take_succ_eq_append_getElem h
set_option maxHeartbeats 1000000 in
set_option maxRecDepth 100000 in
theorem number_go (s : ByteArray) (w : World) (hs : s.size ≤ maxLen) (h19 : Lx.runL Lx.digitB s.data.toList ≤ 19) (h2 : Lx.startsLetter (s.data.toList.drop (Lx.runL Lx.digitB s.data.toList)) = false) :
    Calls Try.prog 52 #[.string s] w fun e w' => e = .returned (tokRes (Lx.numberL s.data.toList)) ∧ Below w.heap.size w w' := by
  have hs' : s.size ≤ 9223372036854775807 := hs
  have hn := runL_le Lx.digitB s.data.toList
  have hd := runL_take Lx.digitB s.data.toList
  have hrun := fun W => run_digit s W hs
  have hres : Lx.numberL s.data.toList = if Lx.valOf 0 (s.data.toList.take (Lx.runL Lx.digitB s.data.toList)) < 9223372036854775808 then some (⟨2, [], Lx.valOf 0 (s.data.toList.take (Lx.runL Lx.digitB s.data.toList))⟩, Lx.runL Lx.digitB s.data.toList) else none := by
    simp [Lx.numberL, h19, h2]
  generalize Lx.numberL s.data.toList = r at hres ⊢
  obtain ⟨n, e⟩ : ∃ n, n = Lx.runL Lx.digitB s.data.toList := ⟨_, rfl⟩
  simp only [← e] at hrun h19 h2 hn hd hres
  clear e
  have hn' : n ≤ s.size := by simpa using hn
  have hx : (s.extract 0 n).data.toList = s.data.toList.take n := by rw [Lib.extract_data]; simp
  have hxs : (s.extract 0 n).size = n := by simp; omega
  have H19 := fun k (hk : k < n) => valOf_19 s.data.toList n k h19 hk hd
  have hlen : (s.data.toList.take n).length = n := by rw [List.length_take]; omega
  have hb := fun W => u8map W (s.extract 0 n)
  rw [hxs] at hb
  have hmade := fun W cap => BRow.made W (s.extract 0 n) cap
  rw [hx] at hmade
  obtain ⟨d, hdd⟩ : ∃ d, d = s.data.toList.take n := ⟨_, rfl⟩
  simp only [← hdd] at hd H19 hlen hmade hres
  clear hx hdd
  have Hd := hid hd; clear hd
  have HH19 := hid H19; clear H19
  have Hrun := hid hrun; clear hrun
  have Hmade := hid hmade; clear hmade
  have Hlen := hid hlen; clear hlen
  have Hxs := hid hxs; clear hxs
  have Hres := hid hres; clear hres
  have hd19 : decide (19 < (n : Int)) = false := by simp; omega
  by_cases hlt : n < s.size
  · rw [startsL_at s n hlt] at h2
    go_enter Try.func52, Try.ntmps52
    go_wp2_with (first | (go_at_call 48; refine (Hrun.out _).mono ?_; rintro e w' ⟨rfl, rfl⟩) | (go_at_call 47; refine (letter_any _ _).mono ?_; rintro e w' ⟨rfl, rfl⟩))
    clear h2 hb
    generalize grownCap _ n 0 5 = cap
    go_loopw [6, 31] (fun x i wr => ∃ k : Nat, k ≤ n ∧ i = .int .i64 k ∧ x = .int .u64 (Lx.valOf 0 (d.take k)) ∧ BRow wr (w.heap.size + 1) d ∧ wr.heap[w.heap.size]? = some (.cells noCells 57 (0, 0)) ∧ Below w.heap.size w wr) (fun _ i _ => n - (intOf i).toNat)
    case atStart =>
      refine ⟨0, Nat.zero_le _, rfl, rfl, ?_, ?_, ?_⟩
      · have := (Hmade.out (w.alloc (.cells noCells 57)) cap).drew
        rw [World.size_alloc] at this
        exact this
      · exact (Below.heap_alloc (w.alloc (.cells noCells 57)) _ w.heap.size (by rw [World.size_alloc]; omega)).trans (heap_new w _)
      · exact ((((Below.refl _ _).alloc (Nat.le_refl _) _).alloc (by simp) _)).drew
    case round =>
      obtain ⟨k, hk, rfl, rfl, hrow, hblk, hbel⟩ := hrel
      by_cases hkn : k < n
      · have hl : k < d.length := by rw [Hlen.out]; exact hkn
        obtain ⟨c, hcc⟩ : ∃ c, c = d[k] := ⟨_, rfl⟩
        have hc := hrow.cell k c (by rw [hcc]; exact List.getElem?_eq_getElem hl)
        have hdc := Hd.out c (by rw [hcc]; exact List.getElem_mem hl)
        simp only [Lx.digitB, Bool.and_eq_true, decide_eq_true_eq] at hdc
        have hX := HH19.out k hkn
        have hts := take_snoc' d k hl
        have hvs := valOf_snoc (d.take k) c 0
        rw [hcc, ← hts, ← hcc] at hvs
        have Hvs := hid hvs; clear hvs hts
        have Hcc := hid hcc; clear hcc
        generalize Lx.valOf 0 (d.take k) = X at *
        have h1 : (48 : Int) ≤ (c.toNat : Int) := by omega
        have h2 : (c.toNat : Int) ≤ 57 := by omega
        have h3 : (X : Int) ≤ 999999999999999999 := by omega
        clear hdc hX
        go_wp2
        go_roundw
        case rel => exact ⟨k + 1, by omega, by go_num, by rw [Hvs.out]; go_num, hrow, hblk, hbel⟩
        case measure => simp [intOf]; omega
      · have hkn' : n = k := by omega
        subst hkn'
        have htk : d.take n = d := List.take_of_length_le (by rw [Hlen.out]; exact Nat.le_refl _)
        rw [htk]
        clear htk
        have hbd : Lx.valOf 0 d ≤ 9999999999999999999 := by
          have := valOf_lt d Hd.out
          rw [Hlen.out] at this
          have h3 : 10 ^ n ≤ 10 ^ 19 := Nat.pow_le_pow_right (by omega) h19
          have h4 : (10 : Nat) ^ 19 = 10000000000000000000 := by decide
          omega
        have hres := Hres.out
        generalize Lx.valOf 0 d = X at *
        obtain ⟨c0, c1, c2, c3, hf⟩ := blk4 hblk
        by_cases hX : X < 9223372036854775808
        · rw [if_pos hX] at hres
          have Hres := hid hres; clear hres
          go_wp2
          rw [Hres.out]
          refine bodyPost_ret (v := tokRes (some (⟨2, [], X⟩, n))) (by simp [results, Try.results52, go_sem, tokRes, tkCells, c0, c1, c2, c3]) rfl ⟨rfl, ?_⟩
          repeat (first | exact hbel | refine below_at ?_ (Nat.le_refl _))
        · rw [if_neg hX] at hres
          have Hres := hid hres; clear hres
          go_wp2
          rw [Hres.out]
          refine bodyPost_ret (v := tokRes none) (by simp [results, Try.results52, go_sem, tokRes, noCells, c0, c1, c2, c3]) rfl ⟨rfl, ?_⟩
          repeat (first | exact hbel | refine below_at ?_ (Nat.le_refl _))
  · clear h2
    go_enter Try.func52, Try.ntmps52
    go_wp2_with (first | (go_at_call 48; refine (Hrun.out _).mono ?_; rintro e w' ⟨rfl, rfl⟩) | (go_at_call 47; refine (letter_any _ _).mono ?_; rintro e w' ⟨rfl, rfl⟩))
    clear hb
    generalize grownCap _ n 0 5 = cap
    go_loopw [6, 31] (fun x i wr => ∃ k : Nat, k ≤ n ∧ i = .int .i64 k ∧ x = .int .u64 (Lx.valOf 0 (d.take k)) ∧ BRow wr (w.heap.size + 1) d ∧ wr.heap[w.heap.size]? = some (.cells noCells 57 (0, 0)) ∧ Below w.heap.size w wr) (fun _ i _ => n - (intOf i).toNat)
    case atStart =>
      refine ⟨0, Nat.zero_le _, rfl, rfl, ?_, ?_, ?_⟩
      · have := (Hmade.out (w.alloc (.cells noCells 57)) cap).drew
        rw [World.size_alloc] at this
        exact this
      · exact (Below.heap_alloc (w.alloc (.cells noCells 57)) _ w.heap.size (by rw [World.size_alloc]; omega)).trans (heap_new w _)
      · exact ((((Below.refl _ _).alloc (Nat.le_refl _) _).alloc (by simp) _)).drew
    case round =>
      obtain ⟨k, hk, rfl, rfl, hrow, hblk, hbel⟩ := hrel
      by_cases hkn : k < n
      · have hl : k < d.length := by rw [Hlen.out]; exact hkn
        obtain ⟨c, hcc⟩ : ∃ c, c = d[k] := ⟨_, rfl⟩
        have hc := hrow.cell k c (by rw [hcc]; exact List.getElem?_eq_getElem hl)
        have hdc := Hd.out c (by rw [hcc]; exact List.getElem_mem hl)
        simp only [Lx.digitB, Bool.and_eq_true, decide_eq_true_eq] at hdc
        have hX := HH19.out k hkn
        have hts := take_snoc' d k hl
        have hvs := valOf_snoc (d.take k) c 0
        rw [hcc, ← hts, ← hcc] at hvs
        have Hvs := hid hvs; clear hvs hts
        have Hcc := hid hcc; clear hcc
        generalize Lx.valOf 0 (d.take k) = X at *
        have h1 : (48 : Int) ≤ (c.toNat : Int) := by omega
        have h2 : (c.toNat : Int) ≤ 57 := by omega
        have h3 : (X : Int) ≤ 999999999999999999 := by omega
        clear hdc hX
        go_wp2
        go_roundw
        case rel => exact ⟨k + 1, by omega, by go_num, by rw [Hvs.out]; go_num, hrow, hblk, hbel⟩
        case measure => simp [intOf]; omega
      · have hkn' : n = k := by omega
        subst hkn'
        have htk : d.take n = d := List.take_of_length_le (by rw [Hlen.out]; exact Nat.le_refl _)
        rw [htk]
        clear htk
        have hbd : Lx.valOf 0 d ≤ 9999999999999999999 := by
          have := valOf_lt d Hd.out
          rw [Hlen.out] at this
          have h3 : 10 ^ n ≤ 10 ^ 19 := Nat.pow_le_pow_right (by omega) h19
          have h4 : (10 : Nat) ^ 19 = 10000000000000000000 := by decide
          omega
        have hres := Hres.out
        generalize Lx.valOf 0 d = X at *
        obtain ⟨c0, c1, c2, c3, hf⟩ := blk4 hblk
        by_cases hX : X < 9223372036854775808
        · rw [if_pos hX] at hres
          have Hres := hid hres; clear hres
          go_wp2
          rw [Hres.out]
          refine bodyPost_ret (v := tokRes (some (⟨2, [], X⟩, n))) (by simp [results, Try.results52, go_sem, tokRes, tkCells, c0, c1, c2, c3]) rfl ⟨rfl, ?_⟩
          repeat (first | exact hbel | refine below_at ?_ (Nat.le_refl _))
        · rw [if_neg hX] at hres
          have Hres := hid hres; clear hres
          go_wp2
          rw [Hres.out]
          refine bodyPost_ret (v := tokRes none) (by simp [results, Try.results52, go_sem, tokRes, noCells, c0, c1, c2, c3]) rfl ⟨rfl, ?_⟩
          repeat (first | exact hbel | refine below_at ?_ (Nat.le_refl _))
theorem number_any (s : ByteArray) (w : World) (hs : s.size ≤ maxLen) :
    Calls Try.prog 52 #[.string s] w fun e w' => e = .returned (tokRes (Lx.numberL s.data.toList)) ∧ Below w.heap.size w w' := by
  by_cases h : 19 < Lx.runL Lx.digitB s.data.toList ∨ Lx.startsLetter (s.data.toList.drop (Lx.runL Lx.digitB s.data.toList)) = true
  · have : Lx.numberL s.data.toList = none := by
      unfold Lx.numberL
      rw [if_neg]
      rintro ⟨h1, h2, _⟩
      rcases h with h | h
      · omega
      · rw [h2] at h; cases h
    rw [this]
    exact number_no s w hs h
  · exact number_go s w hs (by omega) (by
      rw [← Bool.not_eq_true]; exact fun h' => h (.inr h'))
end Go.Proofs.Ytaogpifcfmjcbaa
end
section
namespace Go.Proofs.Ytaogpifcfmjcbaa
open Go.RowKit
theorem byteCells_snoc (l : List UInt8) (c : UInt8) : Lib.byteCells (l ++ [c]) = Lib.byteCells l ++ [.int .u8 (c.toNat : Int)] := by simp [Lib.byteCells]
theorem byteCells_len (l : List UInt8) : (Lib.byteCells l).length = l.length := by simp [Lib.byteCells]
def QAt (l : List UInt8) (i : Nat) (acc : List UInt8) : Prop :=
  1 ≤ i ∧ acc.length ≤ i ∧ Lx.quoteL (l.drop 1) = (Lx.quoteL (l.drop i)).map fun x => (acc ++ x.1, x.2 + (i - 1))
theorem QAt.start (l : List UInt8) : QAt l 1 [] := ⟨by omega, by simp, by
  cases Lx.quoteL (l.drop 1) with
  | none => rfl
  | some x => rfl⟩
theorem QAt.plain {l : List UInt8} {i : Nat} {acc : List UInt8} (h : QAt l i acc) (hi : i < l.length) (hc : l[i].toNat ≠ 39) : QAt l (i + 1) (acc ++ [l[i]]) := by
  obtain ⟨h1, h2, h3⟩ := h
  refine ⟨by omega, by simp; omega, ?_⟩
  rw [h3, List.drop_eq_getElem_cons hi]
  rw [show Lx.quoteL (l[i] :: l.drop (i + 1)) = (Lx.quoteL (l.drop (i + 1))).map fun x => (l[i] :: x.1, x.2 + 1) from by
    cases l.drop (i + 1) <;> simp only [Lx.quoteL, if_neg hc]]
  cases Lx.quoteL (l.drop (i + 1)) with
  | none => simp
  | some x => simp; omega
theorem QAt.twice {l : List UInt8} {i : Nat} {acc : List UInt8} (h : QAt l i acc) (hi : i + 1 < l.length) (hc : l[i].toNat = 39) (hd : l[i + 1].toNat = 39) : QAt l (i + 1 + 1) (acc ++ [39]) := by
  obtain ⟨h1, h2, h3⟩ := h
  refine ⟨by omega, by simp; omega, ?_⟩
  rw [h3, List.drop_eq_getElem_cons (by omega : i < l.length), List.drop_eq_getElem_cons hi]
  simp only [Lx.quoteL, if_pos hc, if_pos hd]
  cases Lx.quoteL (l.drop (i + 1 + 1)) with
  | none => simp
  | some x => simp; omega
theorem QAt.shut {l : List UInt8} {i : Nat} {acc : List UInt8} (h : QAt l i acc) (hi : i < l.length) (hc : l[i].toNat = 39) (hd : ∀ h : i + 1 < l.length, l[i + 1].toNat ≠ 39) : Lx.textL (l.drop 1) = some (⟨3, acc, 0⟩, i + 1) := by
  obtain ⟨h1, h2, h3⟩ := h
  unfold Lx.textL
  rw [h3, List.drop_eq_getElem_cons hi]
  by_cases hn : i + 1 < l.length
  · rw [List.drop_eq_getElem_cons hn]
    simp only [Lx.quoteL, if_pos hc, if_neg (hd hn)]
    simp; omega
  · rw [List.drop_eq_nil_of_le (by omega)]
    simp only [Lx.quoteL, if_pos hc]
    simp; omega
theorem QAt.open_ {l : List UInt8} {i : Nat} {acc : List UInt8} (h : QAt l i acc) (hi : l.length ≤ i) : Lx.textL (l.drop 1) = none := by
  obtain ⟨h1, h2, h3⟩ := h
  unfold Lx.textL
  rw [h3, List.drop_eq_nil_of_le hi]
  rfl
set_option maxHeartbeats 1000000 in
set_option maxRecDepth 100000 in
theorem quoted_any (s : ByteArray) (w : World) (hs : s.size ≤ 4096) :
    Calls Try.prog 53 #[.string s] w fun e w' => e = .returned (tokRes (Lx.textL (s.data.toList.drop 1))) ∧ Below w.heap.size w w' := by
  generalize hr : Lx.textL (s.data.toList.drop 1) = r
  have Hr := hid hr; clear hr
  go_enter Try.func53, Try.ntmps53
  go_wp2_with fail
  go_loopw [6] (fun i wr => ∃ (k : Nat) (acc : List UInt8), i = .int .i64 k ∧ Hid (QAt s.data.toList k acc) ∧ k ≤ s.size + 1 ∧ Lib.IsBuilder 101 5 (w.heap.size + 1) (w.heap.size + 1) (Lib.byteCells acc) wr ∧ wr.heap[w.heap.size]? = some (.cells noCells 57 (0, 0)) ∧ Below w.heap.size w wr ∧ w.heap.size + 1 ≤ wr.heap.size) (fun i _ => s.size + 1 - (intOf i).toNat)
  case atStart =>
    refine ⟨1, [], rfl, QAt.start _, by omega, ?_, ?_, ((Below.refl _ _).alloc (Nat.le_refl _) _).alloc (by simp) _, by simp⟩
    · have := bld_fresh (w.alloc (.cells noCells 57)) (w.heap.size + 1) (by simp)
      rw [World.size_alloc] at this
      exact this
    · exact (Below.heap_alloc (w.alloc (.cells noCells 57)) _ w.heap.size (by rw [World.size_alloc]; omega)).trans (heap_new w _)
  case round =>
    obtain ⟨k, acc, rfl, hq, hks, hbld, hblk, hbel, hsz⟩ := hrel
    have hq1 := hq.out.1
    have hq2 := hq.out.2.1
    by_cases hlt : k < s.size
    · have hl : k < s.data.toList.length := by simpa using hlt
      by_cases hc : s[k].toNat = 39
      · by_cases hd : ∃ h : k + 1 < s.size, s[k + 1].toNat = 39
        · obtain ⟨hlt2, hd⟩ := hd
          have hq' := hid (QAt.twice hq.out (by simpa using hlt2) hc hd)
          have t1 : ((s[k].toNat : Int) != 39) = false := by simp [hc]
          have t2 : ((s[k + 1].toNat : Int) == 39) = true := by simp [hd]
          have Hc := hid hc; clear hc
          have Hd := hid hd; clear hd
          go_wp2_with (first | (go_at_call 64; refine (writeByte_any (w.heap.size + 1) (w.heap.size + 1) (Lib.byteCells acc) 39 _ hbld (by rw [byteCells_len]; omega) hsz).mono ?_; rintro e w' ⟨rfl, hbld', hbel'⟩))
          go_roundw
          case rel => exact ⟨k + 1 + 1, acc ++ [39], by go_num, hq', by omega, by rw [byteCells_snoc]; exact hbld', (hbel'.block _ (by omega)).trans hblk, hbel.trans (hbel'.mono (by omega)), Nat.le_trans hsz hbel'.size⟩
          case measure => simp [intOf]; omega
        · have hsh := QAt.shut hq.out hl hc (fun h h' => hd ⟨by simpa using h, h'⟩)
          have t1 : ((s[k].toNat : Int) != 39) = false := by simp [hc]
          have Hc := hid hc; clear hc
          rw [hsh] at Hr
          by_cases hlt2 : k + 1 < s.size
          · have t2 : ((s[k + 1].toNat : Int) == 39) = false := by
              rw [beq_eq_false_iff_ne]; intro h; exact hd ⟨hlt2, by omega⟩
            clear hd hsh
            go_wp2_with (first | (go_at_call 65; refine (Try.Builder_String_any (w.heap.size + 1) (w.heap.size + 1) acc _ hbld hsz).mono ?_; rintro e w' ⟨rfl, hbel'⟩; have hblk' := (hbel'.block _ (by omega)).trans hblk; obtain ⟨c0, c1, c2, c3, hf⟩ := blk4 hblk'))
            rw [← Hr.out]
            refine bodyPost_ret (v := tokRes (some (⟨3, acc, 0⟩, k + 1))) (by simp [results, Try.results53, go_sem, tokRes, tkCells, c0, c1, c2, c3]) rfl ⟨rfl, ?_⟩
            repeat (first | exact hbel.trans (hbel'.mono (by omega)) | refine below_at ?_ (Nat.le_refl _))
          · clear hd hsh
            go_wp2_with (first | (go_at_call 65; refine (Try.Builder_String_any (w.heap.size + 1) (w.heap.size + 1) acc _ hbld hsz).mono ?_; rintro e w' ⟨rfl, hbel'⟩; have hblk' := (hbel'.block _ (by omega)).trans hblk; obtain ⟨c0, c1, c2, c3, hf⟩ := blk4 hblk'))
            rw [← Hr.out]
            refine bodyPost_ret (v := tokRes (some (⟨3, acc, 0⟩, k + 1))) (by simp [results, Try.results53, go_sem, tokRes, tkCells, c0, c1, c2, c3]) rfl ⟨rfl, ?_⟩
            repeat (first | exact hbel.trans (hbel'.mono (by omega)) | refine below_at ?_ (Nat.le_refl _))
      · have hq' := hid (QAt.plain hq.out hl hc)
        have t1 : ((s[k].toNat : Int) != 39) = true := by rw [bne_iff_ne]; intro h; exact hc (by omega)
        have h255 : (s[k].toNat : Int) < 256 := by have := s[k].toNat_lt; omega
        clear hc
        go_wp2_with (first | (go_at_call 64; refine (writeByte_any (w.heap.size + 1) (w.heap.size + 1) (Lib.byteCells acc) _ _ hbld (by rw [byteCells_len]; omega) hsz).mono ?_; rintro e w' ⟨rfl, hbld', hbel'⟩))
        go_roundw
        case rel => exact ⟨k + 1, acc ++ [s[k]], by go_num, hq', by omega, by rw [byteCells_snoc]; exact hbld', (hbel'.block _ (by omega)).trans hblk, hbel.trans (hbel'.mono (by omega)), Nat.le_trans hsz hbel'.size⟩
        case measure => simp [intOf]; omega
    · have hop := QAt.open_ hq.out (by simpa using hlt : s.data.toList.length ≤ k)
      rw [hop] at Hr
      clear hop
      obtain ⟨c0, c1, c2, c3, hf⟩ := blk4 hblk
      go_wp2
      rw [← Hr.out]
      refine bodyPost_ret (v := tokRes none) (by simp [results, Try.results53, go_sem, tokRes, noCells, c0, c1, c2, c3]) rfl ⟨rfl, ?_⟩
      repeat (first | exact hbel | refine below_at ?_ (Nat.le_refl _))
end Go.Proofs.Ytaogpifcfmjcbaa
end
section
namespace Go.Proofs.Ytaogpifcfmjcbaa
open Go.RowKit
set_option linter.unusedVariables false
theorem sg2 (c d : UInt8) (l : List UInt8) (h : Lib.hasPrefix l [c, d] = true) (ht : Lx.twoSign c d = true) : Lx.signL l = some (⟨4, [c, d], 0⟩, 2) := by
  match l, h with
  | [], h => simp [Lib.hasPrefix] at h
  | [a], h => simp [Lib.hasPrefix] at h
  | a :: b :: r, h =>
    simp [Lib.hasPrefix] at h
    obtain ⟨rfl, rfl⟩ := h
    simp [Lx.signL, ht]
theorem two_pre (a b : UInt8) (r : List UInt8) (h1 : Lib.hasPrefix (a :: b :: r) [60, 62] = false) (h2 : Lib.hasPrefix (a :: b :: r) [60, 61] = false) (h3 : Lib.hasPrefix (a :: b :: r) [62, 61] = false) (h4 : Lib.hasPrefix (a :: b :: r) [124, 124] = false) : Lx.twoSign a b = false := by
  have e : ∀ (x : UInt8) (n : Nat) (_ : n < 256), (x.toNat == n) = (UInt8.ofNat n == x) := by
    intro x n hn
    rw [Bool.eq_iff_iff, beq_iff_eq, beq_iff_eq]
    constructor
    · intro h; rw [← h]; simp
    · intro h; rw [← h]; simp; omega
  simp only [Lib.hasPrefix, List.isPrefixOf, Bool.and_true] at h1 h2 h3 h4
  unfold Lx.twoSign
  rw [e a 60 (by omega), e b 62 (by omega), e b 61 (by omega), e a 62 (by omega), e a 124 (by omega), e b 124 (by omega)]
  show ((((60 : UInt8) == a) && ((62 : UInt8) == b)) || (((60 : UInt8) == a) && ((61 : UInt8) == b)) || (((62 : UInt8) == a) && ((61 : UInt8) == b)) || (((124 : UInt8) == a) && ((124 : UInt8) == b))) = false
  rw [h1, h2, h3, h4]; rfl
theorem idx_neg (l : List UInt8) (c : UInt8) : Lib.indexByte l c < 0 ↔ ¬ c ∈ l := by
  induction l with
  | nil => simp [Lib.indexByte]
  | cons b r ih =>
    simp only [Lib.indexByte]
    have hge : -1 ≤ Lib.indexByte r c := by
      clear ih
      induction r with
      | nil => simp [Lib.indexByte]
      | cons b r ih => simp only [Lib.indexByte]; split <;> (try split) <;> simp_all <;> omega
    by_cases hb : (b == c) = true
    · simp at hb; subst hb; simp
    · rw [if_neg hb]
      have hne : c ≠ b := by intro h; subst h; simp at hb
      split
      · rename_i h; simp at h; simp [hne]; rw [← ih]; omega
      · rename_i h; simp at h; simp [hne]; rw [← ih]; omega
theorem one_idx (c : UInt8) : Lx.oneSign c = !decide (Lib.indexByte [40, 41, 44, 46, 42, 43, 45, 47, 37, 61, 60, 62, 59] c < 0) := by
  rw [Bool.eq_iff_iff]
  simp only [Bool.not_eq_true', decide_eq_false_iff_not, idx_neg, Classical.not_not]
  have : ∀ (n : Nat) (_ : n < 256), c.toNat = n ↔ c = UInt8.ofNat n := by
    intro n hn
    constructor
    · intro h; rw [← h]; simp
    · intro h; rw [h]; simp; omega
  simp only [Lx.oneSign, List.contains_eq_mem, decide_eq_true_eq, List.mem_cons, List.not_mem_nil, or_false]
  rw [this 40 (by omega), this 41 (by omega), this 44 (by omega), this 46 (by omega), this 42 (by omega), this 43 (by omega), this 45 (by omega), this 47 (by omega), this 37 (by omega), this 61 (by omega), this 60 (by omega), this 62 (by omega), this 59 (by omega)]
  exact Iff.rfl
theorem sg1 (c : UInt8) (r : List UInt8) (h1 : Lib.hasPrefix (c :: r) [60, 62] = false) (h2 : Lib.hasPrefix (c :: r) [60, 61] = false) (h3 : Lib.hasPrefix (c :: r) [62, 61] = false) (h4 : Lib.hasPrefix (c :: r) [124, 124] = false) :
    Lx.signL (c :: r) = if Lib.indexByte [40, 41, 44, 46, 42, 43, 45, 47, 37, 61, 60, 62, 59] c < 0 then none else some (⟨4, [c], 0⟩, 1) := by
  have ho := one_idx c
  match r, h1, h2, h3, h4 with
  | [], _, _, _, _ =>
    simp only [Lx.signL, ho]
    by_cases h : Lib.indexByte [40, 41, 44, 46, 42, 43, 45, 47, 37, 61, 60, 62, 59] c < 0 <;> simp only [h, decide_true, decide_false, Bool.not_true, Bool.not_false, if_true, if_false, Bool.false_eq_true]
  | b :: r, h1, h2, h3, h4 =>
    simp only [Lx.signL, ho, two_pre c b r h1 h2 h3 h4]
    by_cases h : Lib.indexByte [40, 41, 44, 46, 42, 43, 45, 47, 37, 61, 60, 62, 59] c < 0 <;> simp only [h, decide_true, decide_false, Bool.not_true, Bool.not_false, if_true, if_false, Bool.false_eq_true]
set_option maxHeartbeats 1000000 in
set_option maxRecDepth 100000 in
theorem sign_0 (s : ByteArray) (w : World) (h0 : 0 < s.size) (h1 : Lib.hasPrefix s.data.toList [60, 62] = true) :
    Calls Try.prog 54 #[.string s] w fun e w' => e = .returned (tokRes (some (⟨4, [60, 62], 0⟩, 2))) ∧ Below w.heap.size w w' := by
  have i0 : ∀ w, (Instr.index 105 (.agg #[.string ⟨#[60, 62]⟩, .string ⟨#[60, 61]⟩, .string ⟨#[62, 61]⟩, .string ⟨#[124, 124]⟩]) (.int .i64 0)).run Try.prog w = .ok (.string ⟨#[60, 62]⟩) w := fun _ => by kernel_rfl
  have i1 : ∀ w, (Instr.index 105 (.agg #[.string ⟨#[60, 62]⟩, .string ⟨#[60, 61]⟩, .string ⟨#[62, 61]⟩, .string ⟨#[124, 124]⟩]) (.int .i64 1)).run Try.prog w = .ok (.string ⟨#[60, 61]⟩) w := fun _ => by kernel_rfl
  have i2 : ∀ w, (Instr.index 105 (.agg #[.string ⟨#[60, 62]⟩, .string ⟨#[60, 61]⟩, .string ⟨#[62, 61]⟩, .string ⟨#[124, 124]⟩]) (.int .i64 2)).run Try.prog w = .ok (.string ⟨#[62, 61]⟩) w := fun _ => by kernel_rfl
  have i3 : ∀ w, (Instr.index 105 (.agg #[.string ⟨#[60, 62]⟩, .string ⟨#[60, 61]⟩, .string ⟨#[62, 61]⟩, .string ⟨#[124, 124]⟩]) (.int .i64 3)).run Try.prog w = .ok (.string ⟨#[124, 124]⟩) w := fun _ => by kernel_rfl
  go_enter Try.func54, Try.ntmps54
  go_wp2_with fail
  refine wp_loop_rounds 5 ?_
  rw [rounds_succ]
  go_wp2_with (first | (go_at_call 46; refine (Try.strings_HasPrefix _ _ _).mono ?_; rintro e w' ⟨rfl, rfl⟩) | (go_at_call 66; refine (Try.strings_IndexByte _ _ _).mono ?_; rintro e w' ⟨rfl, rfl⟩))
  refine bodyPost_ret (v := tokRes (some (⟨4, [60, 62], 0⟩, 2))) (by simp [results, Try.results54, go_sem, tokRes, tkCells]) rfl ⟨rfl, ?_⟩
  exact (Below.refl _ _).alloc (Nat.le_refl _) _
set_option maxHeartbeats 1000000 in
set_option maxRecDepth 100000 in
theorem sign_1 (s : ByteArray) (w : World) (h0 : 0 < s.size) (h1 : Lib.hasPrefix s.data.toList [60, 62] = false) (h2 : Lib.hasPrefix s.data.toList [60, 61] = true) :
    Calls Try.prog 54 #[.string s] w fun e w' => e = .returned (tokRes (some (⟨4, [60, 61], 0⟩, 2))) ∧ Below w.heap.size w w' := by
  have i0 : ∀ w, (Instr.index 105 (.agg #[.string ⟨#[60, 62]⟩, .string ⟨#[60, 61]⟩, .string ⟨#[62, 61]⟩, .string ⟨#[124, 124]⟩]) (.int .i64 0)).run Try.prog w = .ok (.string ⟨#[60, 62]⟩) w := fun _ => by kernel_rfl
  have i1 : ∀ w, (Instr.index 105 (.agg #[.string ⟨#[60, 62]⟩, .string ⟨#[60, 61]⟩, .string ⟨#[62, 61]⟩, .string ⟨#[124, 124]⟩]) (.int .i64 1)).run Try.prog w = .ok (.string ⟨#[60, 61]⟩) w := fun _ => by kernel_rfl
  have i2 : ∀ w, (Instr.index 105 (.agg #[.string ⟨#[60, 62]⟩, .string ⟨#[60, 61]⟩, .string ⟨#[62, 61]⟩, .string ⟨#[124, 124]⟩]) (.int .i64 2)).run Try.prog w = .ok (.string ⟨#[62, 61]⟩) w := fun _ => by kernel_rfl
  have i3 : ∀ w, (Instr.index 105 (.agg #[.string ⟨#[60, 62]⟩, .string ⟨#[60, 61]⟩, .string ⟨#[62, 61]⟩, .string ⟨#[124, 124]⟩]) (.int .i64 3)).run Try.prog w = .ok (.string ⟨#[124, 124]⟩) w := fun _ => by kernel_rfl
  go_enter Try.func54, Try.ntmps54
  go_wp2_with fail
  refine wp_loop_rounds 5 ?_
  rw [rounds_succ]
  go_wp2_with (first | (go_at_call 46; refine (Try.strings_HasPrefix _ _ _).mono ?_; rintro e w' ⟨rfl, rfl⟩) | (go_at_call 66; refine (Try.strings_IndexByte _ _ _).mono ?_; rintro e w' ⟨rfl, rfl⟩))
  rw [rounds_succ]
  go_wp2_with (first | (go_at_call 46; refine (Try.strings_HasPrefix _ _ _).mono ?_; rintro e w' ⟨rfl, rfl⟩) | (go_at_call 66; refine (Try.strings_IndexByte _ _ _).mono ?_; rintro e w' ⟨rfl, rfl⟩))
  refine bodyPost_ret (v := tokRes (some (⟨4, [60, 61], 0⟩, 2))) (by simp [results, Try.results54, go_sem, tokRes, tkCells]) rfl ⟨rfl, ?_⟩
  exact (Below.refl _ _).alloc (Nat.le_refl _) _
set_option maxHeartbeats 1000000 in
set_option maxRecDepth 100000 in
theorem sign_2 (s : ByteArray) (w : World) (h0 : 0 < s.size) (h1 : Lib.hasPrefix s.data.toList [60, 62] = false) (h2 : Lib.hasPrefix s.data.toList [60, 61] = false) (h3 : Lib.hasPrefix s.data.toList [62, 61] = true) :
    Calls Try.prog 54 #[.string s] w fun e w' => e = .returned (tokRes (some (⟨4, [62, 61], 0⟩, 2))) ∧ Below w.heap.size w w' := by
  have i0 : ∀ w, (Instr.index 105 (.agg #[.string ⟨#[60, 62]⟩, .string ⟨#[60, 61]⟩, .string ⟨#[62, 61]⟩, .string ⟨#[124, 124]⟩]) (.int .i64 0)).run Try.prog w = .ok (.string ⟨#[60, 62]⟩) w := fun _ => by kernel_rfl
  have i1 : ∀ w, (Instr.index 105 (.agg #[.string ⟨#[60, 62]⟩, .string ⟨#[60, 61]⟩, .string ⟨#[62, 61]⟩, .string ⟨#[124, 124]⟩]) (.int .i64 1)).run Try.prog w = .ok (.string ⟨#[60, 61]⟩) w := fun _ => by kernel_rfl
  have i2 : ∀ w, (Instr.index 105 (.agg #[.string ⟨#[60, 62]⟩, .string ⟨#[60, 61]⟩, .string ⟨#[62, 61]⟩, .string ⟨#[124, 124]⟩]) (.int .i64 2)).run Try.prog w = .ok (.string ⟨#[62, 61]⟩) w := fun _ => by kernel_rfl
  have i3 : ∀ w, (Instr.index 105 (.agg #[.string ⟨#[60, 62]⟩, .string ⟨#[60, 61]⟩, .string ⟨#[62, 61]⟩, .string ⟨#[124, 124]⟩]) (.int .i64 3)).run Try.prog w = .ok (.string ⟨#[124, 124]⟩) w := fun _ => by kernel_rfl
  go_enter Try.func54, Try.ntmps54
  go_wp2_with fail
  refine wp_loop_rounds 5 ?_
  rw [rounds_succ]
  go_wp2_with (first | (go_at_call 46; refine (Try.strings_HasPrefix _ _ _).mono ?_; rintro e w' ⟨rfl, rfl⟩) | (go_at_call 66; refine (Try.strings_IndexByte _ _ _).mono ?_; rintro e w' ⟨rfl, rfl⟩))
  rw [rounds_succ]
  go_wp2_with (first | (go_at_call 46; refine (Try.strings_HasPrefix _ _ _).mono ?_; rintro e w' ⟨rfl, rfl⟩) | (go_at_call 66; refine (Try.strings_IndexByte _ _ _).mono ?_; rintro e w' ⟨rfl, rfl⟩))
  rw [rounds_succ]
  go_wp2_with (first | (go_at_call 46; refine (Try.strings_HasPrefix _ _ _).mono ?_; rintro e w' ⟨rfl, rfl⟩) | (go_at_call 66; refine (Try.strings_IndexByte _ _ _).mono ?_; rintro e w' ⟨rfl, rfl⟩))
  refine bodyPost_ret (v := tokRes (some (⟨4, [62, 61], 0⟩, 2))) (by simp [results, Try.results54, go_sem, tokRes, tkCells]) rfl ⟨rfl, ?_⟩
  exact (Below.refl _ _).alloc (Nat.le_refl _) _
set_option maxHeartbeats 1000000 in
set_option maxRecDepth 100000 in
theorem sign_3 (s : ByteArray) (w : World) (h0 : 0 < s.size) (h1 : Lib.hasPrefix s.data.toList [60, 62] = false) (h2 : Lib.hasPrefix s.data.toList [60, 61] = false) (h3 : Lib.hasPrefix s.data.toList [62, 61] = false) (h4 : Lib.hasPrefix s.data.toList [124, 124] = true) :
    Calls Try.prog 54 #[.string s] w fun e w' => e = .returned (tokRes (some (⟨4, [124, 124], 0⟩, 2))) ∧ Below w.heap.size w w' := by
  have i0 : ∀ w, (Instr.index 105 (.agg #[.string ⟨#[60, 62]⟩, .string ⟨#[60, 61]⟩, .string ⟨#[62, 61]⟩, .string ⟨#[124, 124]⟩]) (.int .i64 0)).run Try.prog w = .ok (.string ⟨#[60, 62]⟩) w := fun _ => by kernel_rfl
  have i1 : ∀ w, (Instr.index 105 (.agg #[.string ⟨#[60, 62]⟩, .string ⟨#[60, 61]⟩, .string ⟨#[62, 61]⟩, .string ⟨#[124, 124]⟩]) (.int .i64 1)).run Try.prog w = .ok (.string ⟨#[60, 61]⟩) w := fun _ => by kernel_rfl
  have i2 : ∀ w, (Instr.index 105 (.agg #[.string ⟨#[60, 62]⟩, .string ⟨#[60, 61]⟩, .string ⟨#[62, 61]⟩, .string ⟨#[124, 124]⟩]) (.int .i64 2)).run Try.prog w = .ok (.string ⟨#[62, 61]⟩) w := fun _ => by kernel_rfl
  have i3 : ∀ w, (Instr.index 105 (.agg #[.string ⟨#[60, 62]⟩, .string ⟨#[60, 61]⟩, .string ⟨#[62, 61]⟩, .string ⟨#[124, 124]⟩]) (.int .i64 3)).run Try.prog w = .ok (.string ⟨#[124, 124]⟩) w := fun _ => by kernel_rfl
  go_enter Try.func54, Try.ntmps54
  go_wp2_with fail
  refine wp_loop_rounds 5 ?_
  rw [rounds_succ]
  go_wp2_with (first | (go_at_call 46; refine (Try.strings_HasPrefix _ _ _).mono ?_; rintro e w' ⟨rfl, rfl⟩) | (go_at_call 66; refine (Try.strings_IndexByte _ _ _).mono ?_; rintro e w' ⟨rfl, rfl⟩))
  rw [rounds_succ]
  go_wp2_with (first | (go_at_call 46; refine (Try.strings_HasPrefix _ _ _).mono ?_; rintro e w' ⟨rfl, rfl⟩) | (go_at_call 66; refine (Try.strings_IndexByte _ _ _).mono ?_; rintro e w' ⟨rfl, rfl⟩))
  rw [rounds_succ]
  go_wp2_with (first | (go_at_call 46; refine (Try.strings_HasPrefix _ _ _).mono ?_; rintro e w' ⟨rfl, rfl⟩) | (go_at_call 66; refine (Try.strings_IndexByte _ _ _).mono ?_; rintro e w' ⟨rfl, rfl⟩))
  rw [rounds_succ]
  go_wp2_with (first | (go_at_call 46; refine (Try.strings_HasPrefix _ _ _).mono ?_; rintro e w' ⟨rfl, rfl⟩) | (go_at_call 66; refine (Try.strings_IndexByte _ _ _).mono ?_; rintro e w' ⟨rfl, rfl⟩))
  refine bodyPost_ret (v := tokRes (some (⟨4, [124, 124], 0⟩, 2))) (by simp [results, Try.results54, go_sem, tokRes, tkCells]) rfl ⟨rfl, ?_⟩
  exact (Below.refl _ _).alloc (Nat.le_refl _) _
set_option maxHeartbeats 1000000 in
set_option maxRecDepth 100000 in
theorem sign_no (s : ByteArray) (w : World) (h0 : 0 < s.size) (h1 : Lib.hasPrefix s.data.toList [60, 62] = false) (h2 : Lib.hasPrefix s.data.toList [60, 61] = false) (h3 : Lib.hasPrefix s.data.toList [62, 61] = false) (h4 : Lib.hasPrefix s.data.toList [124, 124] = false) (h5 : Lib.indexByte [40, 41, 44, 46, 42, 43, 45, 47, 37, 61, 60, 62, 59] s[0] < 0) :
    Calls Try.prog 54 #[.string s] w fun e w' => e = .returned (tokRes (none)) ∧ Below w.heap.size w w' := by
  have i0 : ∀ w, (Instr.index 105 (.agg #[.string ⟨#[60, 62]⟩, .string ⟨#[60, 61]⟩, .string ⟨#[62, 61]⟩, .string ⟨#[124, 124]⟩]) (.int .i64 0)).run Try.prog w = .ok (.string ⟨#[60, 62]⟩) w := fun _ => by kernel_rfl
  have i1 : ∀ w, (Instr.index 105 (.agg #[.string ⟨#[60, 62]⟩, .string ⟨#[60, 61]⟩, .string ⟨#[62, 61]⟩, .string ⟨#[124, 124]⟩]) (.int .i64 1)).run Try.prog w = .ok (.string ⟨#[60, 61]⟩) w := fun _ => by kernel_rfl
  have i2 : ∀ w, (Instr.index 105 (.agg #[.string ⟨#[60, 62]⟩, .string ⟨#[60, 61]⟩, .string ⟨#[62, 61]⟩, .string ⟨#[124, 124]⟩]) (.int .i64 2)).run Try.prog w = .ok (.string ⟨#[62, 61]⟩) w := fun _ => by kernel_rfl
  have i3 : ∀ w, (Instr.index 105 (.agg #[.string ⟨#[60, 62]⟩, .string ⟨#[60, 61]⟩, .string ⟨#[62, 61]⟩, .string ⟨#[124, 124]⟩]) (.int .i64 3)).run Try.prog w = .ok (.string ⟨#[124, 124]⟩) w := fun _ => by kernel_rfl
  have hb : (s[0].toNat : Int).toNat.toUInt8 = s[0] := by simp
  go_enter Try.func54, Try.ntmps54
  go_wp2_with fail
  refine wp_loop_rounds 5 ?_
  rw [rounds_succ]
  go_wp2_with (first | (go_at_call 46; refine (Try.strings_HasPrefix _ _ _).mono ?_; rintro e w' ⟨rfl, rfl⟩) | (go_at_call 66; refine (Try.strings_IndexByte _ _ _).mono ?_; rintro e w' ⟨rfl, rfl⟩))
  rw [rounds_succ]
  go_wp2_with (first | (go_at_call 46; refine (Try.strings_HasPrefix _ _ _).mono ?_; rintro e w' ⟨rfl, rfl⟩) | (go_at_call 66; refine (Try.strings_IndexByte _ _ _).mono ?_; rintro e w' ⟨rfl, rfl⟩))
  rw [rounds_succ]
  go_wp2_with (first | (go_at_call 46; refine (Try.strings_HasPrefix _ _ _).mono ?_; rintro e w' ⟨rfl, rfl⟩) | (go_at_call 66; refine (Try.strings_IndexByte _ _ _).mono ?_; rintro e w' ⟨rfl, rfl⟩))
  rw [rounds_succ]
  go_wp2_with (first | (go_at_call 46; refine (Try.strings_HasPrefix _ _ _).mono ?_; rintro e w' ⟨rfl, rfl⟩) | (go_at_call 66; refine (Try.strings_IndexByte _ _ _).mono ?_; rintro e w' ⟨rfl, rfl⟩))
  rw [rounds_succ]
  go_wp2_with (first | (go_at_call 46; refine (Try.strings_HasPrefix _ _ _).mono ?_; rintro e w' ⟨rfl, rfl⟩) | (go_at_call 66; refine (Try.strings_IndexByte _ _ _).mono ?_; rintro e w' ⟨rfl, rfl⟩))
  refine bodyPost_ret (v := tokRes none) (by simp [results, Try.results54, go_sem, tokRes, noCells]) rfl ⟨rfl, ?_⟩
  exact (Below.refl _ _).alloc (Nat.le_refl _) _
set_option maxHeartbeats 1000000 in
set_option maxRecDepth 100000 in
theorem sign_yes (s : ByteArray) (w : World) (h0 : 0 < s.size) (h1 : Lib.hasPrefix s.data.toList [60, 62] = false) (h2 : Lib.hasPrefix s.data.toList [60, 61] = false) (h3 : Lib.hasPrefix s.data.toList [62, 61] = false) (h4 : Lib.hasPrefix s.data.toList [124, 124] = false) (h5 : ¬ Lib.indexByte [40, 41, 44, 46, 42, 43, 45, 47, 37, 61, 60, 62, 59] s[0] < 0) :
    Calls Try.prog 54 #[.string s] w fun e w' => e = .returned (tokRes (some (⟨4, [s[0]], 0⟩, 1))) ∧ Below w.heap.size w w' := by
  have i0 : ∀ w, (Instr.index 105 (.agg #[.string ⟨#[60, 62]⟩, .string ⟨#[60, 61]⟩, .string ⟨#[62, 61]⟩, .string ⟨#[124, 124]⟩]) (.int .i64 0)).run Try.prog w = .ok (.string ⟨#[60, 62]⟩) w := fun _ => by kernel_rfl
  have i1 : ∀ w, (Instr.index 105 (.agg #[.string ⟨#[60, 62]⟩, .string ⟨#[60, 61]⟩, .string ⟨#[62, 61]⟩, .string ⟨#[124, 124]⟩]) (.int .i64 1)).run Try.prog w = .ok (.string ⟨#[60, 61]⟩) w := fun _ => by kernel_rfl
  have i2 : ∀ w, (Instr.index 105 (.agg #[.string ⟨#[60, 62]⟩, .string ⟨#[60, 61]⟩, .string ⟨#[62, 61]⟩, .string ⟨#[124, 124]⟩]) (.int .i64 2)).run Try.prog w = .ok (.string ⟨#[62, 61]⟩) w := fun _ => by kernel_rfl
  have i3 : ∀ w, (Instr.index 105 (.agg #[.string ⟨#[60, 62]⟩, .string ⟨#[60, 61]⟩, .string ⟨#[62, 61]⟩, .string ⟨#[124, 124]⟩]) (.int .i64 3)).run Try.prog w = .ok (.string ⟨#[124, 124]⟩) w := fun _ => by kernel_rfl
  have hb : (s[0].toNat : Int).toNat.toUInt8 = s[0] := by simp
  go_enter Try.func54, Try.ntmps54
  go_wp2_with fail
  refine wp_loop_rounds 5 ?_
  rw [rounds_succ]
  go_wp2_with (first | (go_at_call 46; refine (Try.strings_HasPrefix _ _ _).mono ?_; rintro e w' ⟨rfl, rfl⟩) | (go_at_call 66; refine (Try.strings_IndexByte _ _ _).mono ?_; rintro e w' ⟨rfl, rfl⟩))
  rw [rounds_succ]
  go_wp2_with (first | (go_at_call 46; refine (Try.strings_HasPrefix _ _ _).mono ?_; rintro e w' ⟨rfl, rfl⟩) | (go_at_call 66; refine (Try.strings_IndexByte _ _ _).mono ?_; rintro e w' ⟨rfl, rfl⟩))
  rw [rounds_succ]
  go_wp2_with (first | (go_at_call 46; refine (Try.strings_HasPrefix _ _ _).mono ?_; rintro e w' ⟨rfl, rfl⟩) | (go_at_call 66; refine (Try.strings_IndexByte _ _ _).mono ?_; rintro e w' ⟨rfl, rfl⟩))
  rw [rounds_succ]
  go_wp2_with (first | (go_at_call 46; refine (Try.strings_HasPrefix _ _ _).mono ?_; rintro e w' ⟨rfl, rfl⟩) | (go_at_call 66; refine (Try.strings_IndexByte _ _ _).mono ?_; rintro e w' ⟨rfl, rfl⟩))
  rw [rounds_succ]
  go_wp2_with (first | (go_at_call 46; refine (Try.strings_HasPrefix _ _ _).mono ?_; rintro e w' ⟨rfl, rfl⟩) | (go_at_call 66; refine (Try.strings_IndexByte _ _ _).mono ?_; rintro e w' ⟨rfl, rfl⟩))
  have he : s.extract 0 1 = ⟨[s[0]].toArray⟩ := by
    apply ByteArray.ext
    apply Array.ext'
    rw [Lib.extract_data]
    have hl : 0 < s.data.toList.length := by simpa using h0
    rw [List.drop_zero, List.take_succ_eq_append_getElem hl]
    rfl
  refine bodyPost_ret (v := tokRes (some (⟨4, [s[0]], 0⟩, 1))) (by simp [results, Try.results54, go_sem, tokRes, tkCells, he]) rfl ⟨rfl, ?_⟩
  exact (Below.refl _ _).alloc (Nat.le_refl _) _
theorem sign_any (s : ByteArray) (w : World) (h0 : 0 < s.size) :
    Calls Try.prog 54 #[.string s] w fun e w' => e = .returned (tokRes (Lx.signL s.data.toList)) ∧ Below w.heap.size w w' := by
  cases h1 : Lib.hasPrefix s.data.toList [60, 62] with
  | true => rw [sg2 _ _ _ h1 (by decide)]; exact sign_0 s w h0 h1
  | false =>
  cases h2 : Lib.hasPrefix s.data.toList [60, 61] with
  | true => rw [sg2 _ _ _ h2 (by decide)]; exact sign_1 s w h0 h1 h2
  | false =>
  cases h3 : Lib.hasPrefix s.data.toList [62, 61] with
  | true => rw [sg2 _ _ _ h3 (by decide)]; exact sign_2 s w h0 h1 h2 h3
  | false =>
  cases h4 : Lib.hasPrefix s.data.toList [124, 124] with
  | true => rw [sg2 _ _ _ h4 (by decide)]; exact sign_3 s w h0 h1 h2 h3 h4
  | false =>
    have hl : 0 < s.data.toList.length := by simpa using h0
    have hs : s.data.toList = s[0] :: s.data.toList.drop 1 := (List.drop_eq_getElem_cons hl)
    have h5 : Lx.signL s.data.toList = if Lib.indexByte [40, 41, 44, 46, 42, 43, 45, 47, 37, 61, 60, 62, 59] s[0] < 0 then none else some (⟨4, [s[0]], 0⟩, 1) := by
      rw [hs] at h1 h2 h3 h4 ⊢
      exact sg1 _ _ h1 h2 h3 h4
    rw [h5]
    split
    · exact sign_no s w h0 h1 h2 h3 h4 ‹_›
    · exact sign_yes s w h0 h1 h2 h3 h4 ‹_›
end Go.Proofs.Ytaogpifcfmjcbaa
end
section
namespace Go.Proofs.Ytaogpifcfmjcbaa
open Go
def Exit.jumps (J : Nat → Act → World → Prop) (Q : Exit → Act → World → Prop) : Exit → Act → World → Prop
  | .goto l, a, w => J l a w
  | e, a, w => Q e a w
section
variable {P : Program} {a : Act} {w : World} {Q : Exit → Act → World → Prop}
theorem scope_jumps {c : Code} (J : Nat → Act → World → Prop) (μ : Nat → Act → World → Nat)
    (first : c.wp P (Exit.jumps J Q) a w)
    (pass : ∀ l a w, J l a w → ∃ rest, findLabel c l = some rest ∧ rest.wp P (Exit.jumps (fun l' a' w' => J l' a' w' ∧ μ l' a' w' < μ l a w) Q) a w) : (Code.scope c).wp P Q a w := by
  intro b k cs
  have key : ∀ n l a w, μ l a w = n → J l a w → ∀ rest, findLabel c l = some rest → ∃ e a' w', Q e a' w' ∧ Arrives P (lone (b.at a (.code rest :: .inScope c :: k)) cs w) b k cs e a' w' := by
    intro n
    induction n using Nat.strongRecOn with
    | _ n ih =>
      intro l a w hn hJ rest hrest
      obtain ⟨rest', hf, hp⟩ := pass l a w hJ
      rw [hrest] at hf
      injection hf with hf
      subst hf
      obtain ⟨e, a₁, w₁, hq, harr⟩ := hp b (.inScope c :: k) cs
      cases e with
      | normal => exact ⟨.normal, a₁, w₁, hq, Steps.trans harr (.one step_inScope)⟩
      | exit id => exact ⟨.exit id, a₁, w₁, hq, fun k' hk => harr k' (by simp [exitTo, hk])⟩
      | goto l' =>
        obtain ⟨hJ', hlt⟩ := hq
        obtain ⟨r2, hf2, _⟩ := pass l' a₁ w₁ hJ'
        have hg : gotoIn l' (.inScope c :: k) = some (.code r2 :: .inScope c :: k) := by simp [gotoIn, hf2]
        obtain ⟨e₂, a₂, w₂, hq₂, harr₂⟩ := ih _ (by omega) l' a₁ w₁ rfl hJ' r2 hf2
        exact ⟨e₂, a₂, w₂, hq₂, .of_steps (harr _ hg) harr₂⟩
      | ret => exact ⟨_, a₁, w₁, hq, harr⟩
      | panic ch => exact ⟨_, a₁, w₁, hq, harr⟩
      | outgrown => exact ⟨_, a₁, w₁, hq, harr⟩
  obtain ⟨e, a₁, w₁, hq, harr⟩ := first b (.inScope c :: k) cs
  cases e with
  | normal => exact ⟨.normal, a₁, w₁, hq, .head step_scope (Steps.trans harr (.one step_inScope))⟩
  | exit id => exact ⟨.exit id, a₁, w₁, hq, fun k' hk => .head step_scope (harr k' (by simp [exitTo, hk]))⟩
  | goto l' =>
    have hJ' : J l' a₁ w₁ := hq
    obtain ⟨r2, hf2, _⟩ := pass l' a₁ w₁ hJ'
    have hg : gotoIn l' (.inScope c :: k) = some (.code r2 :: .inScope c :: k) := by simp [gotoIn, hf2]
    obtain ⟨e₂, a₂, w₂, hq₂, harr₂⟩ := key _ l' a₁ w₁ rfl hJ' r2 hf2
    exact ⟨e₂, a₂, w₂, hq₂, .of_steps (.head step_scope (harr _ hg)) harr₂⟩
  | ret => exact ⟨_, a₁, w₁, hq, .of_steps (.one step_scope) harr⟩
  | panic ch => exact ⟨_, a₁, w₁, hq, .of_steps (.one step_scope) harr⟩
  | outgrown => exact ⟨_, a₁, w₁, hq, .of_steps (.one step_scope) harr⟩
end
theorem frame_out (t : Array Value) (n : Nat) (h : t.size = n) : t = ((List.range n).map fun i => t.getD i undef).toArray := by
  apply Array.ext
  · simp [h]
  · intro i h1 h2
    simp [Array.getD, h1]
end Go.Proofs.Ytaogpifcfmjcbaa
end
section
namespace Go.Proofs.Ytaogpifcfmjcbaa
open Go.RowKit
set_option linter.unusedVariables false
def toksCells (l : List Lx.Tok) : List Value := l.flatMap fun t => (tkCells t.tk (t.pos : Int)).toList
theorem toksCells_snoc (l : List Lx.Tok) (t : Lx.Tok) : toksCells (l ++ [t]) = toksCells l ++ (tkCells t.tk (t.pos : Int)).toList := by simp [toksCells]
def LFrame (s : ByteArray) (g : Nat) (out : Value) (k : Nat) (f : Nat → Value) : Act := { tmps := #[.string s, f 1, f 2, f 3, f 4, out, .pointer (some ⟨g, 0, none⟩), f 7, .int .i64 (k : Int), f 9, f 10, f 11, f 12, f 13, f 14, f 15, f 16, f 17, f 18, f 19, f 20, f 21, f 22, f 23, f 24, f 25, f 26, f 27, f 28, f 29, f 30, f 31, f 32, f 33, f 34, f 35, f 36, f 37, f 38, f 39, f 40, f 41, f 42, f 43, f 44, f 45, f 46, f 47, f 48, f 49, f 50, f 51, f 52, f 53, f 54, f 55, f 56, f 57, f 58, f 59, f 60, f 61, f 62, f 63, f 64, f 65, f 66, f 67, f 68, f 69, f 70, f 71, f 72, f 73, f 74, f 75, f 76, f 77, f 78, f 79, f 80, f 81, f 82, f 83, f 84, f 85, f 86, f 87, f 88, f 89, f 90, f 91, f 92, f 93, f 94, f 95, f 96, f 97, f 98, f 99, f 100, f 101, f 102, f 103, f 104, f 105, f 106, f 107, f 108, f 109, f 110, f 111, f 112, f 113, f 114, f 115, f 116, f 117, f 118, f 119, f 120, f 121, f 122, f 123, f 124, f 125, f 126, f 127, f 128, f 129], defers := [] }
set_option maxRecDepth 100000 in
theorem LFrame_of {s : ByteArray} {g : Nat} {out : Value} {k : Nat} (a : Act) (hd : a.defers = []) (hs : a.tmps.size = 130) (h0 : a.tmps.getD 0 undef = .string s) (h5 : a.tmps.getD 5 undef = out)
    (h6 : a.tmps.getD 6 undef = .pointer (some ⟨g, 0, none⟩)) (h8 : a.tmps.getD 8 undef = .int .i64 (k : Int)) : a = LFrame s g out k (fun i => a.tmps.getD i undef) := by
  obtain ⟨t, d⟩ := a
  subst hd
  have h := frame_out t 130 hs
  unfold LFrame
  rw [← h0, ← h5, ← h6, ← h8]
  exact congrArg (fun t => Act.mk t []) h
structure WInv (w wr : World) (out : Value) (acc : List Lx.Tok) : Prop where
  own : wr.ownsRow (w.heap.size + 1) 57 4 out acc.length (toksCells acc)
  blk : ∃ a b c d, wr.heap[w.heap.size]? = some (.cells #[a, b, c, d] 57 (0, 0))
  bel : Below w.heap.size w wr
  sz : w.heap.size + 1 ≤ wr.heap.size
def Came (l : List UInt8) (k : Nat) (acc : List Lx.Tok) : Prop := ∃ f, Lx.lexN f l k acc = Lx.lexAll l ∧ l.length + 1 ≤ k + f ∧ acc.length ≤ k
def LJ (s : ByteArray) (w : World) (lb : Nat) (a : Act) (wr : World) : Prop :=
  ∃ f out k acc, a = LFrame s w.heap.size out k f ∧ WInv w wr out acc ∧ Came s.data.toList k acc ∧ k ≤ s.size ∧
    (lb = 1 ∨ (lb = 2 ∧ k < s.size ∧ Lx.blank1 (s.data.toList.drop k) = Lx.runL Lx.noLine (s.data.toList.drop k) ∧ 1 ≤ Lx.runL Lx.noLine (s.data.toList.drop k)) ∨ (lb = 0 ∧ k = s.size))
def Lmu (s : ByteArray) (lb : Nat) (a : Act) (_ : World) : Nat :=
  if lb = 1 then 2 * (s.size - (intOf (a.tmps.getD 8 undef)).toNat) + 2 else if lb = 2 then 2 * (s.size - (intOf (a.tmps.getD 8 undef)).toNat) + 1 else 0
def scopeOf : Code → Option Code
  | .scope c => some c
  | .seq a b => match scopeOf a with
    | some c => some c
    | none => scopeOf b
  | .block _ c => scopeOf c
  | .cond _ a b => match scopeOf a with
    | some c => some c
    | none => scopeOf b
  | _ => none
noncomputable def scopeC : Code := (Try.f24.body.bind scopeOf).getD .skip
noncomputable def restC (lb : Nat) : Code := (findLabel scopeC lb).getD .skip
def behindSkip : Code → Code
  | .seq .skip b => b
  | c => c
noncomputable def restB (lb : Nat) : Code := behindSkip (restC lb)
def WordsPost (l : List UInt8) (w : World) (e : Ending) (w' : World) : Prop :=
  Below w.heap.size w w' ∧ match Lx.lexAll l with
    | .good toks => ∃ g, w.heap.size ≤ g ∧ e = .returned (.tuple #[.slice (some ⟨g, 0, none⟩) toks.length toks.length, .int .i64 0, .int .i64 0]) ∧ ∀ j u, (toksCells toks)[j]? = some u → w'.cell? ⟨g, j, none⟩ = some u
    | .bad p => e = .returned (.tuple #[.slice none 0 0, .int .i64 180, .int .i64 (p : Int)])
noncomputable def LQ (s : ByteArray) (w : World) (lb k : Nat) : Exit → Act → World → Prop :=
  Exit.jumps (fun l' a' w' => LJ s w l' a' w' ∧ Lmu s l' a' w' < Lmu s lb (LFrame s w.heap.size undef k fun _ => undef) w') (bodyPost Try.prog Try.f24 (WordsPost s.data.toList w))
set_option maxRecDepth 100000 in
theorem find1 : findLabel scopeC 1 = some (restC 1) := by kernel_rfl
theorem rest1 : restC 1 = .seq .skip (restB 1) := by kernel_rfl
theorem find2 : findLabel scopeC 2 = some (restC 2) := by kernel_rfl
theorem find0 : findLabel scopeC 0 = some (restC 0) := by kernel_rfl
end Go.Proofs.Ytaogpifcfmjcbaa
end
section
namespace Go.Proofs.Ytaogpifcfmjcbaa
open Go.RowKit
set_option linter.unusedVariables false
theorem drop_at (s : ByteArray) (k : Nat) (h : k < s.size) : s.data.toList.drop k = s[k] :: s.data.toList.drop (k + 1) :=
  List.drop_eq_getElem_cons (by simpa using h : k < s.data.toList.length)
theorem Came.skip {l : List UInt8} {k : Nat} {acc : List Lx.Tok} (h : Came l k acc) (hk : k < l.length) (n : Nat) (hb : Lx.blank1 (l.drop k) = n) (hn : 1 ≤ n) : Came l (k + n) acc := by
  obtain ⟨f, h1, h2, h3⟩ := h
  match f, h1, h2 with
  | 0, _, h2 => omega
  | f + 1, h1, h2 =>
    refine ⟨f, ?_, by omega, by omega⟩
    rw [← h1]
    have hne : l.drop k ≠ [] := by simp; exact hk
    rw [Lx.lexN]
    simp [hne, hb, show n ≠ 0 by omega]
theorem Came.tok {l : List UInt8} {k : Nat} {acc : List Lx.Tok} (h : Came l k acc) (hk : k < l.length) (hb : Lx.blank1 (l.drop k) = 0) (t : Lx.Tk) (n : Nat) (ht : Lx.oneTok (l.drop k) = some (t, n)) (hn : 1 ≤ n) : Came l (k + n) (acc ++ [⟨t, k⟩]) := by
  obtain ⟨f, h1, h2, h3⟩ := h
  match f, h1, h2 with
  | 0, _, h2 => omega
  | f + 1, h1, h2 =>
    refine ⟨f, ?_, by omega, by simp; omega⟩
    rw [← h1]
    have hne : l.drop k ≠ [] := by simp; exact hk
    rw [Lx.lexN]
    simp [hne, hb, ht]
theorem Came.wrong {l : List UInt8} {k : Nat} {acc : List Lx.Tok} (h : Came l k acc) (hk : k < l.length) (hb : Lx.blank1 (l.drop k) = 0) (ht : Lx.oneTok (l.drop k) = none) : Lx.lexAll l = .bad k := by
  obtain ⟨f, h1, h2, h3⟩ := h
  match f, h1, h2 with
  | 0, _, h2 => omega
  | f + 1, h1, h2 =>
    rw [← h1]
    have hne : l.drop k ≠ [] := by simp; exact hk
    rw [Lx.lexN]
    simp [hne, hb, ht]
theorem Came.done {l : List UInt8} {acc : List Lx.Tok} (h : Came l l.length acc) : Lx.lexAll l = .good (acc ++ [⟨⟨5, [], 0⟩, l.length⟩]) := by
  obtain ⟨f, h1, h2, h3⟩ := h
  match f, h1, h2 with
  | 0, _, h2 => omega
  | f + 1, h1, h2 =>
    rw [← h1, Lx.lexN]
    simp
set_option maxRecDepth 100000
theorem Lmu1 {s : ByteArray} {a : Act} {w : World} {k : Nat} (h : a.tmps.getD 8 undef = .int .i64 (k : Int)) : Lmu s 1 a w = 2 * (s.size - k) + 2 := by
  unfold Lmu; rw [h]; rfl
theorem Lmu2 {s : ByteArray} {a : Act} {w : World} {k : Nat} (h : a.tmps.getD 8 undef = .int .i64 (k : Int)) : Lmu s 2 a w = 2 * (s.size - k) + 1 := by
  unfold Lmu; rw [h]; rfl
theorem Lmu0 {s : ByteArray} {a : Act} {w : World} : Lmu s 0 a w = 0 := rfl
section
variable {s : ByteArray} {w wr : World} {lb k k' : Nat} {out : Value} {acc : List Lx.Tok} {a : Act}
theorem goto1 (k' : Nat) (out : Value) (acc : List Lx.Tok) (hlb : lb = 1 ∨ lb = 2) (hk : k < k') (hk' : k' ≤ s.size) (hI : WInv w wr out acc) (hC : Came s.data.toList k' acc)
    (hd : a.defers = []) (hz : a.tmps.size = 130) (h0 : a.tmps.getD 0 undef = .string s) (h5 : a.tmps.getD 5 undef = out) (h6 : a.tmps.getD 6 undef = .pointer (some ⟨w.heap.size, 0, none⟩)) (h8 : a.tmps.getD 8 undef = .int .i64 (k' : Int)) : LQ s w lb k (.goto 1) a wr :=
  ⟨⟨_, out, k', acc, LFrame_of a hd hz h0 h5 h6 h8, hI, hC, hk', .inl rfl⟩, by
    rw [Lmu1 h8]
    rcases hlb with rfl | rfl
    · rw [Lmu1 (k := k) rfl]; omega
    · rw [Lmu2 (k := k) rfl]; omega⟩
theorem goto2 (hk' : k < s.size) (hb : Lx.blank1 (s.data.toList.drop k) = Lx.runL Lx.noLine (s.data.toList.drop k)) (hb1 : 1 ≤ Lx.runL Lx.noLine (s.data.toList.drop k)) (out : Value) (acc : List Lx.Tok) (hI : WInv w wr out acc) (hC : Came s.data.toList k acc)
    (hd : a.defers = []) (hz : a.tmps.size = 130) (h0 : a.tmps.getD 0 undef = .string s) (h5 : a.tmps.getD 5 undef = out) (h6 : a.tmps.getD 6 undef = .pointer (some ⟨w.heap.size, 0, none⟩)) (h8 : a.tmps.getD 8 undef = .int .i64 (k : Int)) : LQ s w 1 k (.goto 2) a wr :=
  ⟨⟨_, out, k, acc, LFrame_of a hd hz h0 h5 h6 h8, hI, hC, by omega, .inr (.inl ⟨rfl, hk', hb, hb1⟩)⟩, by
    rw [Lmu2 h8, Lmu1 (k := k) rfl]; omega⟩
theorem goto0 (out : Value) (acc : List Lx.Tok) (hI : WInv w wr out acc) (hC : Came s.data.toList s.size acc)
    (hd : a.defers = []) (hz : a.tmps.size = 130) (h0 : a.tmps.getD 0 undef = .string s) (h5 : a.tmps.getD 5 undef = out) (h6 : a.tmps.getD 6 undef = .pointer (some ⟨w.heap.size, 0, none⟩)) (h8 : a.tmps.getD 8 undef = .int .i64 (s.size : Int)) : LQ s w 1 s.size (.goto 0) a wr :=
  ⟨⟨_, out, s.size, acc, LFrame_of a hd hz h0 h5 h6 h8, hI, hC, Nat.le_refl _, .inr (.inr ⟨rfl, rfl⟩)⟩, by
    rw [Lmu0, Lmu1 (k := s.size) rfl]; omega⟩
end
set_option maxHeartbeats 1000000 in
set_option maxRecDepth 100000 in
theorem pass_end (s : ByteArray) (w wr : World) (hs : s.size ≤ 4096) (f : Nat → Value) (out : Value) (acc : List Lx.Tok) (hI : WInv w wr out acc) (hC : Came s.data.toList s.size acc) :
    Code.wp Try.prog (restB 1) (LQ s w 1 s.size) (LFrame s w.heap.size out s.size f) wr := by
  have hI' := hid hI; clear hI
  have hC' := hid hC; clear hC
  unfold LFrame
  conv => arg 2; whnf
  go_wp2
  go_step3
  go_wp2
  exact goto0 out acc hI'.out hC'.out rfl rfl rfl rfl rfl rfl
end Go.Proofs.Ytaogpifcfmjcbaa
end
section
namespace Go.Proofs.Ytaogpifcfmjcbaa
open Go.RowKit
set_option linter.unusedVariables false
theorem blank_white (s : ByteArray) (k : Nat) (hk : k < s.size) (hw : Lx.whiteB s[k] = true) : Lx.blank1 (s.data.toList.drop k) = 1 := by
  rw [drop_at s k hk]; simp [Lx.blank1, hw]
set_option maxHeartbeats 1000000 in
set_option maxRecDepth 100000 in
theorem pass_whitea (s : ByteArray) (w wr : World) (hs : s.size ≤ 4096) (f : Nat → Value) (out : Value) (acc : List Lx.Tok) (k : Nat) (hk : k < s.size) (hI' : Hid (WInv w wr out acc)) (hC' : Hid (Came s.data.toList (k + 1) acc)) (t32 : ((s[k].toNat : Int) == 32) = true) :
    Code.wp Try.prog (restB 1) (LQ s w 1 k) (LFrame s w.heap.size out k f) wr := by
  unfold LFrame
  conv => arg 2; whnf
  go_wp2
  go_step3
  go_wp2
  exact goto1 (k + 1) out acc (.inl rfl) (by omega) (by omega) hI'.out hC'.out rfl rfl rfl rfl rfl rfl
set_option maxHeartbeats 1000000 in
set_option maxRecDepth 100000 in
theorem pass_whiteb (s : ByteArray) (w wr : World) (hs : s.size ≤ 4096) (f : Nat → Value) (out : Value) (acc : List Lx.Tok) (k : Nat) (hk : k < s.size) (hI' : Hid (WInv w wr out acc)) (hC' : Hid (Came s.data.toList (k + 1) acc)) (t32 : ((s[k].toNat : Int) == 32) = false) (t9 : ((s[k].toNat : Int) == 9) = true) :
    Code.wp Try.prog (restB 1) (LQ s w 1 k) (LFrame s w.heap.size out k f) wr := by
  unfold LFrame
  conv => arg 2; whnf
  go_wp2
  go_step3
  go_wp2
  exact goto1 (k + 1) out acc (.inl rfl) (by omega) (by omega) hI'.out hC'.out rfl rfl rfl rfl rfl rfl
set_option maxHeartbeats 1000000 in
set_option maxRecDepth 100000 in
theorem pass_whitec (s : ByteArray) (w wr : World) (hs : s.size ≤ 4096) (f : Nat → Value) (out : Value) (acc : List Lx.Tok) (k : Nat) (hk : k < s.size) (hI' : Hid (WInv w wr out acc)) (hC' : Hid (Came s.data.toList (k + 1) acc)) (t32 : ((s[k].toNat : Int) == 32) = false) (t9 : ((s[k].toNat : Int) == 9) = false) (t10 : ((s[k].toNat : Int) == 10) = true) :
    Code.wp Try.prog (restB 1) (LQ s w 1 k) (LFrame s w.heap.size out k f) wr := by
  unfold LFrame
  conv => arg 2; whnf
  go_wp2
  go_step3
  go_wp2
  exact goto1 (k + 1) out acc (.inl rfl) (by omega) (by omega) hI'.out hC'.out rfl rfl rfl rfl rfl rfl
set_option maxHeartbeats 1000000 in
set_option maxRecDepth 100000 in
theorem pass_whited (s : ByteArray) (w wr : World) (hs : s.size ≤ 4096) (f : Nat → Value) (out : Value) (acc : List Lx.Tok) (k : Nat) (hk : k < s.size) (hI' : Hid (WInv w wr out acc)) (hC' : Hid (Came s.data.toList (k + 1) acc)) (t32 : ((s[k].toNat : Int) == 32) = false) (t9 : ((s[k].toNat : Int) == 9) = false) (t10 : ((s[k].toNat : Int) == 10) = false) (t13 : ((s[k].toNat : Int) == 13) = true) :
    Code.wp Try.prog (restB 1) (LQ s w 1 k) (LFrame s w.heap.size out k f) wr := by
  unfold LFrame
  conv => arg 2; whnf
  go_wp2
  go_step3
  go_wp2
  exact goto1 (k + 1) out acc (.inl rfl) (by omega) (by omega) hI'.out hC'.out rfl rfl rfl rfl rfl rfl
end Go.Proofs.Ytaogpifcfmjcbaa
end
section
namespace Go.Proofs.Ytaogpifcfmjcbaa
open Go.RowKit
set_option linter.unusedVariables false
theorem tok_info : (Try.prog.info? 57).map (fun i => (i.zero, i.size, i.bytes)) = some (some (.agg #[.int .i64 0, .string ⟨#[]⟩, .int .i64 0, .int .i64 0]), 4, 40) := by kernel_rfl
theorem only_of_below {a w : World} (h : Below a.heap.size a w) (row : Option Nat) : a.grownBy w row := ⟨h.os, h.tape, h.output, h.size, fun i hi _ => h.block i hi⟩
theorem WInv.below {w wr w' : World} {out : Value} {acc : List Lx.Tok} (h : WInv w wr out acc) (hb : Below wr.heap.size wr w') : WInv w w' out acc := by
  obtain ⟨h1, ⟨a, b, c, d, h2⟩, h3, h4⟩ := h
  refine ⟨h1.kept (row := none) (only_of_below hb _) ?_, ⟨a, b, c, d, (hb.block _ (by omega)).trans h2⟩, h3.trans (hb.mono (by omega)), Nat.le_trans h4 hb.size⟩
  rcases h1.2 with ⟨hv, _⟩ | ⟨g, cap, cur, hv, _⟩
  · left; rw [hv]; rfl
  · right; rw [hv]; simp [Value.ownBlock]
theorem WInv.set {w wr : World} {out : Value} {acc : List Lx.Tok} (h : WInv w wr out acc) (i : Nat) (u : Value) : WInv w (wr.setCell ⟨w.heap.size, i, none⟩ u) out acc := by
  obtain ⟨h1, ⟨a, b, c, d, h2⟩, h3, h4⟩ := h
  refine ⟨ownsRow_setCell_below h1 (a := ⟨w.heap.size, i, none⟩) (by show w.heap.size < w.heap.size + 1; omega) u, ?_, below_at h3 (Nat.le_refl _), by simpa [World.setCell] using h4⟩
  have : (wr.setCell ⟨w.heap.size, i, none⟩ u).heap[w.heap.size]? = some (.cells (#[a, b, c, d].setIfInBounds i u) 57 (0, 0)) := by
    simp [World.setCell, Array.getElem?_modify, h2]
  rw [this]
  match i with
  | 0 => exact ⟨u, b, c, d, rfl⟩
  | 1 => exact ⟨a, u, c, d, rfl⟩
  | 2 => exact ⟨a, b, u, d, rfl⟩
  | 3 => exact ⟨a, b, c, u, rfl⟩
  | i + 4 => exact ⟨a, b, c, d, by rw [Array.setIfInBounds_eq_of_size_le (by simp)]⟩
theorem WInv.more {w W w2 : World} {out out' : Value} {acc : List Lx.Tok} {t : Lx.Tok} {o : Obj} (h : WInv w W out acc) (hown : w2.ownsRow (w.heap.size + 1) 57 4 out' (acc.length + 1) (toksCells acc ++ (tkCells t.tk (t.pos : Int)).toList)) (hg : (W.alloc o).grownBy w2 out.ownBlock) :
    WInv w w2 out' (acc ++ [t]) := by
  obtain ⟨h1, ⟨a, b, c, d, h2⟩, h3, h4⟩ := h
  have hlt : w.heap.size < W.heap.size := by omega
  refine ⟨by rw [toksCells_snoc, List.length_append]; exact hown, ⟨a, b, c, d, ?_⟩, ?_, ?_⟩
  · rw [hg.block _ (by rw [World.size_alloc]; omega) (fun e => ?_), Below.heap_alloc W _ _ hlt]
    · exact h2
    · have := (h1.lt _ e.symm).1; omega
  · exact (h3.alloc (by omega) _).grown hg (by rw [World.size_alloc]; omega) (fun k hk => by have := (h1.lt k hk).1; omega)
  · have := hg.size; rw [World.size_alloc] at this; omega
theorem stored4 {w : World} {g : Nat} {a b c d : Value} {T : TypeId} (h : w.heap[g]? = some (.cells #[a, b, c, d] T (0, 0))) (x y z u v : Value) :
    (((((w.setCell ⟨g, 0, none⟩ x).setCell ⟨g, 1, none⟩ y).setCell ⟨g, 2, none⟩ z).setCell ⟨g, 3, none⟩ u).setCell ⟨g, 3, none⟩ v).heap[g]? = some (.cells #[x, y, z, v] T (0, 0)) := by
  simp [World.setCell, Array.getElem?_modify, h]
theorem cell_one (W : World) (cs : Array Value) (T : TypeId) (l : List Value) (h : cs.toList = l) : ∀ j u, l[j]? = some u → (W.alloc (.cells cs T)).cell? ((⟨W.heap.size, 0, none⟩ : Addr).add j) = some u := by
  intro j u hu
  rw [add0, Lib.cell_of_heap (heap_new W _), ← hu, ← h]
  simp
end Go.Proofs.Ytaogpifcfmjcbaa
end
section
namespace Go.Proofs.Ytaogpifcfmjcbaa
open Go.RowKit
set_option linter.unusedVariables false
set_option maxHeartbeats 2000000 in
set_option maxRecDepth 100000 in
theorem pass_sign_ok (s : ByteArray) (w wr : World) (hs : s.size ≤ 4096) (f : Nat → Value) (out : Value) (acc : List Lx.Tok) (k : Nat) (hk : k < s.size) (hI' : Hid (WInv w wr out acc))
    (t : Lx.Tk) (n : Nat) (hn : k + n ≤ s.size) (hn1 : 1 ≤ n) (hC' : Hid (Came s.data.toList (k + n) (acc ++ [⟨t, k⟩]))) (hacc : acc.length ≤ k)
    (t32 : ((s[k].toNat : Int) == 32) = false) (t9 : ((s[k].toNat : Int) == 9) = false) (t10 : ((s[k].toNat : Int) == 10) = false) (t13 : ((s[k].toNat : Int) == 13) = false)
    (hpre' : Hid (∀ W, Calls Try.prog 46 #[.string (s.extract k s.size), .string ⟨#[45, 45]⟩] W fun e w' => e = .returned (.bool false) ∧ W = w'))
    (hl : Lx.letterB s[k] = false) (hd : Lx.digitB s[k] = false) (t39 : ((s[k].toNat : Int) == 39) = false)
    (tk tn : Int) (tt : ByteArray) (ht : Hid (tkCells t k = #[.int .i64 tk, .string tt, .int .i64 tn, .int .i64 k]))
    (hcall' : Hid (∀ W, Calls Try.prog 54 #[.string (s.extract k s.size)] W fun e w' => e = .returned (.tuple #[.agg #[.int .i64 tk, .string tt, .int .i64 tn, .int .i64 0], .int .i64 n, .bool true]) ∧ Below W.heap.size W w')) :
    Code.wp Try.prog (restB 1) (LQ s w 1 k) (LFrame s w.heap.size out k f) wr := by
  obtain ⟨i0, hi, hz0, hz1, hz2⟩ := info_parts tok_info
  unfold LFrame
  conv => arg 2; whnf
  go_wp2_with fail
  refine (hpre'.out _).mono ?_; rintro e w' ⟨rfl, rfl⟩
  go_wp2_with fail
  refine (letter_any _ _).mono ?_; rintro e w' ⟨rfl, rfl⟩
  go_wp2_with fail
  refine (digit_any _ _).mono ?_; rintro e w' ⟨rfl, rfl⟩
  go_wp2_with fail
  refine (hcall'.out _).mono ?_; rintro e w' ⟨rfl, hb⟩
  have hI2 := hid (WInv.below hI'.out hb); obtain ⟨a0, a1, a2, a3, hblk⟩ := hI2.out.blk; obtain ⟨c0, c1, c2, c3, hf⟩ := blk4 hblk; have Hblk := hid hblk; clear hb hblk hpre' hcall'
  go_upto_region 22 with (fail)
  obtain ⟨W, hW⟩ : ∃ W, W = ((((w'.setCell ⟨w.heap.size, 0, none⟩ (.int .i64 tk)).setCell ⟨w.heap.size, 1, none⟩ (.string tt)).setCell ⟨w.heap.size, 2, none⟩ (.int .i64 tn)).setCell ⟨w.heap.size, 3, none⟩ (.int .i64 0)).setCell ⟨w.heap.size, 3, none⟩ (.int .i64 (k : Int)) := ⟨_, rfl⟩
  have hIW : WInv w W out acc := by rw [hW]; exact ((((hI2.out.set 0 _).set 1 _).set 2 _).set 3 _).set 3 _
  have hWb : W.heap[w.heap.size]? = some (.cells #[.int .i64 tk, .string tt, .int .i64 tn, .int .i64 (k : Int)] 57 (0, 0)) := by rw [hW]; exact stored4 Hblk.out _ _ _ _ _
  obtain ⟨e0, e1, e2, e3, _⟩ := blk4 hWb
  clear hWb
  rw [← hW]
  clear hW c0 c1 c2 c3 hf hI2
  have hsz := hIW.sz
  have hIW' := hid hIW; clear hIW
  go_wp2_with (at_builtin; refine wpList_append_own _ rfl _ _ 58 rfl (w.heap.size + 1) 57 i0 (.agg #[.int .i64 0, .string ⟨#[]⟩, .int .i64 0, .int .i64 0]) 4 40 Try.underlying58 hi hz0 hz1 hz2 rfl (by decide) _ _ _ rfl (hIW'.out.own.alloc _) ⟨W.heap.size, 0, none⟩ 1 1 [.int .i64 tk, .string tt, .int .i64 tn, .int .i64 (k : Int)] rfl rfl ?c1 ?c2 ?c3 ?c4 ?c5 ?_)
  case c1 => exact cell_one W _ 57 _ rfl
  case c2 => intro u hu; simp at hu; rcases hu with rfl | rfl | rfl | rfl <;> rfl
  case c3 => unfold maxLen; omega
  case c4 => omega
  case c5 => simp; omega
  intro v' w2 hown hg _
  have hI3 : WInv w w2 v' (acc ++ [⟨t, k⟩]) := hIW'.out.more (by rw [ht.out]; exact hown) hg
  have hI3' := hid hI3; clear hI3 hown hg
  go_wp2
  go_step3
  go_wp2
  exact goto1 (k + n) v' _ (.inl rfl) (by omega) (by omega) hI3'.out hC'.out rfl rfl rfl rfl rfl rfl
set_option maxHeartbeats 2000000 in
set_option maxRecDepth 100000 in
theorem pass_sign_bad (s : ByteArray) (w wr : World) (hs : s.size ≤ 4096) (f : Nat → Value) (out : Value) (acc : List Lx.Tok) (k : Nat) (hk : k < s.size) (hI' : Hid (WInv w wr out acc))
    (hbad : Hid (Lx.lexAll s.data.toList = .bad k))
    (t32 : ((s[k].toNat : Int) == 32) = false) (t9 : ((s[k].toNat : Int) == 9) = false) (t10 : ((s[k].toNat : Int) == 10) = false) (t13 : ((s[k].toNat : Int) == 13) = false)
    (hpre' : Hid (∀ W, Calls Try.prog 46 #[.string (s.extract k s.size), .string ⟨#[45, 45]⟩] W fun e w' => e = .returned (.bool false) ∧ W = w'))
    (hl : Lx.letterB s[k] = false) (hd : Lx.digitB s[k] = false) (t39 : ((s[k].toNat : Int) == 39) = false)
    (hcall' : Hid (∀ W, Calls Try.prog 54 #[.string (s.extract k s.size)] W fun e w' => e = .returned (.tuple #[.agg #[.int .i64 0, .string ⟨#[]⟩, .int .i64 0, .int .i64 0], .int .i64 0, .bool false]) ∧ Below W.heap.size W w')) :
    Code.wp Try.prog (restB 1) (LQ s w 1 k) (LFrame s w.heap.size out k f) wr := by
  unfold LFrame
  conv => arg 2; whnf
  go_wp2_with fail
  refine (hpre'.out _).mono ?_; rintro e w' ⟨rfl, rfl⟩
  go_wp2_with fail
  refine (letter_any _ _).mono ?_; rintro e w' ⟨rfl, rfl⟩
  go_wp2_with fail
  refine (digit_any _ _).mono ?_; rintro e w' ⟨rfl, rfl⟩
  go_wp2_with fail
  refine (hcall'.out _).mono ?_; rintro e w' ⟨rfl, hb⟩
  have hI2 := hid (WInv.below hI'.out hb); obtain ⟨a0, a1, a2, a3, hblk⟩ := hI2.out.blk; obtain ⟨c0, c1, c2, c3, hf⟩ := blk4 hblk; have Hblk := hid hblk; clear hb hblk hpre' hcall'
  go_wp2
  show bodyPost Try.prog Try.f24 (WordsPost s.data.toList w) .ret _ _
  go_ret3
  refine ⟨?_, by rw [hbad.out]; rfl⟩
  exact ((((hI2.out.set 0 _).set 1 _).set 2 _).set 3 _).bel
end Go.Proofs.Ytaogpifcfmjcbaa
end
section
namespace Go.Proofs.Ytaogpifcfmjcbaa
open Go.RowKit
set_option linter.unusedVariables false
set_option maxHeartbeats 2000000 in
set_option maxRecDepth 100000 in
theorem pass_text_ok (s : ByteArray) (w wr : World) (hs : s.size ≤ 4096) (f : Nat → Value) (out : Value) (acc : List Lx.Tok) (k : Nat) (hk : k < s.size) (hI' : Hid (WInv w wr out acc))
    (t : Lx.Tk) (n : Nat) (hn : k + n ≤ s.size) (hn1 : 1 ≤ n) (hC' : Hid (Came s.data.toList (k + n) (acc ++ [⟨t, k⟩]))) (hacc : acc.length ≤ k)
    (t32 : ((s[k].toNat : Int) == 32) = false) (t9 : ((s[k].toNat : Int) == 9) = false) (t10 : ((s[k].toNat : Int) == 10) = false) (t13 : ((s[k].toNat : Int) == 13) = false)
    (hpre' : Hid (∀ W, Calls Try.prog 46 #[.string (s.extract k s.size), .string ⟨#[45, 45]⟩] W fun e w' => e = .returned (.bool false) ∧ W = w'))
    (hl : Lx.letterB s[k] = false) (hd : Lx.digitB s[k] = false) (t39 : ((s[k].toNat : Int) == 39) = true)
    (tk tn : Int) (tt : ByteArray) (ht : Hid (tkCells t k = #[.int .i64 tk, .string tt, .int .i64 tn, .int .i64 k]))
    (hcall' : Hid (∀ W, Calls Try.prog 53 #[.string (s.extract k s.size)] W fun e w' => e = .returned (.tuple #[.agg #[.int .i64 tk, .string tt, .int .i64 tn, .int .i64 0], .int .i64 n, .bool true]) ∧ Below W.heap.size W w')) :
    Code.wp Try.prog (restB 1) (LQ s w 1 k) (LFrame s w.heap.size out k f) wr := by
  obtain ⟨i0, hi, hz0, hz1, hz2⟩ := info_parts tok_info
  unfold LFrame
  conv => arg 2; whnf
  go_wp2_with fail
  refine (hpre'.out _).mono ?_; rintro e w' ⟨rfl, rfl⟩
  go_wp2_with fail
  refine (letter_any _ _).mono ?_; rintro e w' ⟨rfl, rfl⟩
  go_wp2_with fail
  refine (digit_any _ _).mono ?_; rintro e w' ⟨rfl, rfl⟩
  go_wp2_with fail
  refine (hcall'.out _).mono ?_; rintro e w' ⟨rfl, hb⟩
  have hI2 := hid (WInv.below hI'.out hb); obtain ⟨a0, a1, a2, a3, hblk⟩ := hI2.out.blk; obtain ⟨c0, c1, c2, c3, hf⟩ := blk4 hblk; have Hblk := hid hblk; clear hb hblk hpre' hcall'
  go_upto_region 22 with (fail)
  obtain ⟨W, hW⟩ : ∃ W, W = ((((w'.setCell ⟨w.heap.size, 0, none⟩ (.int .i64 tk)).setCell ⟨w.heap.size, 1, none⟩ (.string tt)).setCell ⟨w.heap.size, 2, none⟩ (.int .i64 tn)).setCell ⟨w.heap.size, 3, none⟩ (.int .i64 0)).setCell ⟨w.heap.size, 3, none⟩ (.int .i64 (k : Int)) := ⟨_, rfl⟩
  have hIW : WInv w W out acc := by rw [hW]; exact ((((hI2.out.set 0 _).set 1 _).set 2 _).set 3 _).set 3 _
  have hWb : W.heap[w.heap.size]? = some (.cells #[.int .i64 tk, .string tt, .int .i64 tn, .int .i64 (k : Int)] 57 (0, 0)) := by rw [hW]; exact stored4 Hblk.out _ _ _ _ _
  obtain ⟨e0, e1, e2, e3, _⟩ := blk4 hWb
  clear hWb
  rw [← hW]
  clear hW c0 c1 c2 c3 hf hI2
  have hsz := hIW.sz
  have hIW' := hid hIW; clear hIW
  go_wp2_with (at_builtin; refine wpList_append_own _ rfl _ _ 58 rfl (w.heap.size + 1) 57 i0 (.agg #[.int .i64 0, .string ⟨#[]⟩, .int .i64 0, .int .i64 0]) 4 40 Try.underlying58 hi hz0 hz1 hz2 rfl (by decide) _ _ _ rfl (hIW'.out.own.alloc _) ⟨W.heap.size, 0, none⟩ 1 1 [.int .i64 tk, .string tt, .int .i64 tn, .int .i64 (k : Int)] rfl rfl ?c1 ?c2 ?c3 ?c4 ?c5 ?_)
  case c1 => exact cell_one W _ 57 _ rfl
  case c2 => intro u hu; simp at hu; rcases hu with rfl | rfl | rfl | rfl <;> rfl
  case c3 => unfold maxLen; omega
  case c4 => omega
  case c5 => simp; omega
  intro v' w2 hown hg _
  have hI3 : WInv w w2 v' (acc ++ [⟨t, k⟩]) := hIW'.out.more (by rw [ht.out]; exact hown) hg
  have hI3' := hid hI3; clear hI3 hown hg
  go_wp2
  go_step3
  go_wp2
  exact goto1 (k + n) v' _ (.inl rfl) (by omega) (by omega) hI3'.out hC'.out rfl rfl rfl rfl rfl rfl
set_option maxHeartbeats 2000000 in
set_option maxRecDepth 100000 in
theorem pass_text_bad (s : ByteArray) (w wr : World) (hs : s.size ≤ 4096) (f : Nat → Value) (out : Value) (acc : List Lx.Tok) (k : Nat) (hk : k < s.size) (hI' : Hid (WInv w wr out acc))
    (hbad : Hid (Lx.lexAll s.data.toList = .bad k))
    (t32 : ((s[k].toNat : Int) == 32) = false) (t9 : ((s[k].toNat : Int) == 9) = false) (t10 : ((s[k].toNat : Int) == 10) = false) (t13 : ((s[k].toNat : Int) == 13) = false)
    (hpre' : Hid (∀ W, Calls Try.prog 46 #[.string (s.extract k s.size), .string ⟨#[45, 45]⟩] W fun e w' => e = .returned (.bool false) ∧ W = w'))
    (hl : Lx.letterB s[k] = false) (hd : Lx.digitB s[k] = false) (t39 : ((s[k].toNat : Int) == 39) = true)
    (hcall' : Hid (∀ W, Calls Try.prog 53 #[.string (s.extract k s.size)] W fun e w' => e = .returned (.tuple #[.agg #[.int .i64 0, .string ⟨#[]⟩, .int .i64 0, .int .i64 0], .int .i64 0, .bool false]) ∧ Below W.heap.size W w')) :
    Code.wp Try.prog (restB 1) (LQ s w 1 k) (LFrame s w.heap.size out k f) wr := by
  unfold LFrame
  conv => arg 2; whnf
  go_wp2_with fail
  refine (hpre'.out _).mono ?_; rintro e w' ⟨rfl, rfl⟩
  go_wp2_with fail
  refine (letter_any _ _).mono ?_; rintro e w' ⟨rfl, rfl⟩
  go_wp2_with fail
  refine (digit_any _ _).mono ?_; rintro e w' ⟨rfl, rfl⟩
  go_wp2_with fail
  refine (hcall'.out _).mono ?_; rintro e w' ⟨rfl, hb⟩
  have hI2 := hid (WInv.below hI'.out hb); obtain ⟨a0, a1, a2, a3, hblk⟩ := hI2.out.blk; obtain ⟨c0, c1, c2, c3, hf⟩ := blk4 hblk; have Hblk := hid hblk; clear hb hblk hpre' hcall'
  go_wp2
  show bodyPost Try.prog Try.f24 (WordsPost s.data.toList w) .ret _ _
  go_ret3
  refine ⟨?_, by rw [hbad.out]; rfl⟩
  exact ((((hI2.out.set 0 _).set 1 _).set 2 _).set 3 _).bel
end Go.Proofs.Ytaogpifcfmjcbaa
end
section
namespace Go.Proofs.Ytaogpifcfmjcbaa
open Go.RowKit
set_option linter.unusedVariables false
set_option maxHeartbeats 2000000 in
set_option maxRecDepth 100000 in
theorem pass_number_ok (s : ByteArray) (w wr : World) (hs : s.size ≤ 4096) (f : Nat → Value) (out : Value) (acc : List Lx.Tok) (k : Nat) (hk : k < s.size) (hI' : Hid (WInv w wr out acc))
    (t : Lx.Tk) (n : Nat) (hn : k + n ≤ s.size) (hn1 : 1 ≤ n) (hC' : Hid (Came s.data.toList (k + n) (acc ++ [⟨t, k⟩]))) (hacc : acc.length ≤ k)
    (t32 : ((s[k].toNat : Int) == 32) = false) (t9 : ((s[k].toNat : Int) == 9) = false) (t10 : ((s[k].toNat : Int) == 10) = false) (t13 : ((s[k].toNat : Int) == 13) = false)
    (hpre' : Hid (∀ W, Calls Try.prog 46 #[.string (s.extract k s.size), .string ⟨#[45, 45]⟩] W fun e w' => e = .returned (.bool false) ∧ W = w'))
    (hl : Lx.letterB s[k] = false) (hd : Lx.digitB s[k] = true)
    (tk tn : Int) (tt : ByteArray) (ht : Hid (tkCells t k = #[.int .i64 tk, .string tt, .int .i64 tn, .int .i64 k]))
    (hcall' : Hid (∀ W, Calls Try.prog 52 #[.string (s.extract k s.size)] W fun e w' => e = .returned (.tuple #[.agg #[.int .i64 tk, .string tt, .int .i64 tn, .int .i64 0], .int .i64 n, .bool true]) ∧ Below W.heap.size W w')) :
    Code.wp Try.prog (restB 1) (LQ s w 1 k) (LFrame s w.heap.size out k f) wr := by
  obtain ⟨i0, hi, hz0, hz1, hz2⟩ := info_parts tok_info
  unfold LFrame
  conv => arg 2; whnf
  go_wp2_with fail
  refine (hpre'.out _).mono ?_; rintro e w' ⟨rfl, rfl⟩
  go_wp2_with fail
  refine (letter_any _ _).mono ?_; rintro e w' ⟨rfl, rfl⟩
  go_wp2_with fail
  refine (digit_any _ _).mono ?_; rintro e w' ⟨rfl, rfl⟩
  go_wp2_with fail
  refine (hcall'.out _).mono ?_; rintro e w' ⟨rfl, hb⟩
  have hI2 := hid (WInv.below hI'.out hb); obtain ⟨a0, a1, a2, a3, hblk⟩ := hI2.out.blk; obtain ⟨c0, c1, c2, c3, hf⟩ := blk4 hblk; have Hblk := hid hblk; clear hb hblk hpre' hcall'
  go_upto_region 22 with (fail)
  obtain ⟨W, hW⟩ : ∃ W, W = ((((w'.setCell ⟨w.heap.size, 0, none⟩ (.int .i64 tk)).setCell ⟨w.heap.size, 1, none⟩ (.string tt)).setCell ⟨w.heap.size, 2, none⟩ (.int .i64 tn)).setCell ⟨w.heap.size, 3, none⟩ (.int .i64 0)).setCell ⟨w.heap.size, 3, none⟩ (.int .i64 (k : Int)) := ⟨_, rfl⟩
  have hIW : WInv w W out acc := by rw [hW]; exact ((((hI2.out.set 0 _).set 1 _).set 2 _).set 3 _).set 3 _
  have hWb : W.heap[w.heap.size]? = some (.cells #[.int .i64 tk, .string tt, .int .i64 tn, .int .i64 (k : Int)] 57 (0, 0)) := by rw [hW]; exact stored4 Hblk.out _ _ _ _ _
  obtain ⟨e0, e1, e2, e3, _⟩ := blk4 hWb
  clear hWb
  rw [← hW]
  clear hW c0 c1 c2 c3 hf hI2
  have hsz := hIW.sz
  have hIW' := hid hIW; clear hIW
  go_wp2_with (at_builtin; refine wpList_append_own _ rfl _ _ 58 rfl (w.heap.size + 1) 57 i0 (.agg #[.int .i64 0, .string ⟨#[]⟩, .int .i64 0, .int .i64 0]) 4 40 Try.underlying58 hi hz0 hz1 hz2 rfl (by decide) _ _ _ rfl (hIW'.out.own.alloc _) ⟨W.heap.size, 0, none⟩ 1 1 [.int .i64 tk, .string tt, .int .i64 tn, .int .i64 (k : Int)] rfl rfl ?c1 ?c2 ?c3 ?c4 ?c5 ?_)
  case c1 => exact cell_one W _ 57 _ rfl
  case c2 => intro u hu; simp at hu; rcases hu with rfl | rfl | rfl | rfl <;> rfl
  case c3 => unfold maxLen; omega
  case c4 => omega
  case c5 => simp; omega
  intro v' w2 hown hg _
  have hI3 : WInv w w2 v' (acc ++ [⟨t, k⟩]) := hIW'.out.more (by rw [ht.out]; exact hown) hg
  have hI3' := hid hI3; clear hI3 hown hg
  go_wp2
  go_step3
  go_wp2
  exact goto1 (k + n) v' _ (.inl rfl) (by omega) (by omega) hI3'.out hC'.out rfl rfl rfl rfl rfl rfl
set_option maxHeartbeats 2000000 in
set_option maxRecDepth 100000 in
theorem pass_number_bad (s : ByteArray) (w wr : World) (hs : s.size ≤ 4096) (f : Nat → Value) (out : Value) (acc : List Lx.Tok) (k : Nat) (hk : k < s.size) (hI' : Hid (WInv w wr out acc))
    (hbad : Hid (Lx.lexAll s.data.toList = .bad k))
    (t32 : ((s[k].toNat : Int) == 32) = false) (t9 : ((s[k].toNat : Int) == 9) = false) (t10 : ((s[k].toNat : Int) == 10) = false) (t13 : ((s[k].toNat : Int) == 13) = false)
    (hpre' : Hid (∀ W, Calls Try.prog 46 #[.string (s.extract k s.size), .string ⟨#[45, 45]⟩] W fun e w' => e = .returned (.bool false) ∧ W = w'))
    (hl : Lx.letterB s[k] = false) (hd : Lx.digitB s[k] = true)
    (hcall' : Hid (∀ W, Calls Try.prog 52 #[.string (s.extract k s.size)] W fun e w' => e = .returned (.tuple #[.agg #[.int .i64 0, .string ⟨#[]⟩, .int .i64 0, .int .i64 0], .int .i64 0, .bool false]) ∧ Below W.heap.size W w')) :
    Code.wp Try.prog (restB 1) (LQ s w 1 k) (LFrame s w.heap.size out k f) wr := by
  unfold LFrame
  conv => arg 2; whnf
  go_wp2_with fail
  refine (hpre'.out _).mono ?_; rintro e w' ⟨rfl, rfl⟩
  go_wp2_with fail
  refine (letter_any _ _).mono ?_; rintro e w' ⟨rfl, rfl⟩
  go_wp2_with fail
  refine (digit_any _ _).mono ?_; rintro e w' ⟨rfl, rfl⟩
  go_wp2_with fail
  refine (hcall'.out _).mono ?_; rintro e w' ⟨rfl, hb⟩
  have hI2 := hid (WInv.below hI'.out hb); obtain ⟨a0, a1, a2, a3, hblk⟩ := hI2.out.blk; obtain ⟨c0, c1, c2, c3, hf⟩ := blk4 hblk; have Hblk := hid hblk; clear hb hblk hpre' hcall'
  go_wp2
  show bodyPost Try.prog Try.f24 (WordsPost s.data.toList w) .ret _ _
  go_ret3
  refine ⟨?_, by rw [hbad.out]; rfl⟩
  exact ((((hI2.out.set 0 _).set 1 _).set 2 _).set 3 _).bel
end Go.Proofs.Ytaogpifcfmjcbaa
end
section
namespace Go.Proofs.Ytaogpifcfmjcbaa
open Go.RowKit
set_option linter.unusedVariables false
set_option maxHeartbeats 2000000 in
set_option maxRecDepth 100000 in
theorem pass_word_ok (s : ByteArray) (w wr : World) (hs : s.size ≤ 4096) (f : Nat → Value) (out : Value) (acc : List Lx.Tok) (k : Nat) (hk : k < s.size) (hI' : Hid (WInv w wr out acc))
    (t : Lx.Tk) (hacc : acc.length ≤ k)
    (t32 : ((s[k].toNat : Int) == 32) = false) (t9 : ((s[k].toNat : Int) == 9) = false) (t10 : ((s[k].toNat : Int) == 10) = false) (t13 : ((s[k].toNat : Int) == 13) = false)
    (hpre' : Hid (∀ W, Calls Try.prog 46 #[.string (s.extract k s.size), .string ⟨#[45, 45]⟩] W fun e w' => e = .returned (.bool false) ∧ W = w'))
    (hl : Lx.letterB s[k] = true) (n : Nat) (hn : k + n ≤ s.size) (tt : ByteArray) (hn1 : 1 ≤ n) (hn32 : decide ((n : Int) ≤ 32) = true) (hC' : Hid (Came s.data.toList (k + n) (acc ++ [⟨t, k⟩]))) (ht : Hid (tkCells t k = #[.int .i64 1, .string tt, .int .i64 0, .int .i64 k]))
    (hrun' : Hid (∀ W, Calls Try.prog 48 #[.string (s.extract k s.size), .func (.func 49) #[] #[]] W fun e w' => e = .returned (.int .i64 (n : Int)) ∧ W = w'))
    (hsm' : Hid (∀ W, Calls Try.prog 50 #[.string (s.extract k (k + n))] W fun e w' => e = .returned (.string tt) ∧ Below W.heap.size W w')) :
    Code.wp Try.prog (restB 1) (LQ s w 1 k) (LFrame s w.heap.size out k f) wr := by
  obtain ⟨i0, hi, hz0, hz1, hz2⟩ := info_parts tok_info
  unfold LFrame
  conv => arg 2; whnf
  go_wp2_with fail
  refine (hpre'.out _).mono ?_; rintro e w' ⟨rfl, rfl⟩
  go_wp2_with fail
  refine (letter_any _ _).mono ?_; rintro e w' ⟨rfl, rfl⟩
  go_wp2_with fail
  refine (hrun'.out _).mono ?_; rintro e w' ⟨rfl, rfl⟩
  go_wp2_with fail
  refine (hsm'.out _).mono ?_; rintro e w' ⟨rfl, hb⟩
  have hI2 := hid (WInv.below hI'.out hb); obtain ⟨a0, a1, a2, a3, hblk⟩ := hI2.out.blk; obtain ⟨c0, c1, c2, c3, hf⟩ := blk4 hblk; have Hblk := hid hblk; clear hb hblk hpre' hrun' hsm'
  go_upto_region 22 with (fail)
  obtain ⟨W, hW⟩ : ∃ W, W = ((((w'.setCell ⟨w.heap.size, 0, none⟩ (.int .i64 1)).setCell ⟨w.heap.size, 1, none⟩ (.string tt)).setCell ⟨w.heap.size, 2, none⟩ (.int .i64 0)).setCell ⟨w.heap.size, 3, none⟩ (.int .i64 0)).setCell ⟨w.heap.size, 3, none⟩ (.int .i64 (k : Int)) := ⟨_, rfl⟩
  have hIW : WInv w W out acc := by rw [hW]; exact ((((hI2.out.set 0 _).set 1 _).set 2 _).set 3 _).set 3 _
  have hWb : W.heap[w.heap.size]? = some (.cells #[.int .i64 1, .string tt, .int .i64 0, .int .i64 (k : Int)] 57 (0, 0)) := by rw [hW]; exact stored4 Hblk.out _ _ _ _ _
  obtain ⟨e0, e1, e2, e3, _⟩ := blk4 hWb
  clear hWb
  rw [← hW]
  clear hW c0 c1 c2 c3 hf hI2
  have hsz := hIW.sz
  have hIW' := hid hIW; clear hIW
  go_wp2_with (at_builtin; refine wpList_append_own _ rfl _ _ 58 rfl (w.heap.size + 1) 57 i0 (.agg #[.int .i64 0, .string ⟨#[]⟩, .int .i64 0, .int .i64 0]) 4 40 Try.underlying58 hi hz0 hz1 hz2 rfl (by decide) _ _ _ rfl (hIW'.out.own.alloc _) ⟨W.heap.size, 0, none⟩ 1 1 [.int .i64 1, .string tt, .int .i64 0, .int .i64 (k : Int)] rfl rfl ?c1 ?c2 ?c3 ?c4 ?c5 ?_)
  case c1 => exact cell_one W _ 57 _ rfl
  case c2 => intro u hu; simp at hu; rcases hu with rfl | rfl | rfl | rfl <;> rfl
  case c3 => unfold maxLen; omega
  case c4 => omega
  case c5 => simp; omega
  intro v' w2 hown hg _
  have hI3 : WInv w w2 v' (acc ++ [⟨t, k⟩]) := hIW'.out.more (by rw [ht.out]; exact hown) hg
  have hI3' := hid hI3; clear hI3 hown hg
  go_wp2
  go_step3
  go_wp2
  exact goto1 (k + n) v' _ (.inl rfl) (by omega) (by omega) hI3'.out hC'.out rfl rfl rfl rfl rfl rfl
set_option maxHeartbeats 2000000 in
set_option maxRecDepth 100000 in
theorem pass_word_bad (s : ByteArray) (w wr : World) (hs : s.size ≤ 4096) (f : Nat → Value) (out : Value) (acc : List Lx.Tok) (k : Nat) (hk : k < s.size) (hI' : Hid (WInv w wr out acc))
    (hbad : Hid (Lx.lexAll s.data.toList = .bad k))
    (t32 : ((s[k].toNat : Int) == 32) = false) (t9 : ((s[k].toNat : Int) == 9) = false) (t10 : ((s[k].toNat : Int) == 10) = false) (t13 : ((s[k].toNat : Int) == 13) = false)
    (hpre' : Hid (∀ W, Calls Try.prog 46 #[.string (s.extract k s.size), .string ⟨#[45, 45]⟩] W fun e w' => e = .returned (.bool false) ∧ W = w'))
    (hl : Lx.letterB s[k] = true) (n : Nat) (hn : k + n ≤ s.size) (tt : ByteArray) (hn32 : decide ((n : Int) ≤ 32) = false)
    (hrun' : Hid (∀ W, Calls Try.prog 48 #[.string (s.extract k s.size), .func (.func 49) #[] #[]] W fun e w' => e = .returned (.int .i64 (n : Int)) ∧ W = w'))
    (hsm' : Hid (∀ W, Calls Try.prog 50 #[.string (s.extract k (k + n))] W fun e w' => e = .returned (.string tt) ∧ Below W.heap.size W w')) :
    Code.wp Try.prog (restB 1) (LQ s w 1 k) (LFrame s w.heap.size out k f) wr := by
  unfold LFrame
  conv => arg 2; whnf
  go_wp2_with fail
  refine (hpre'.out _).mono ?_; rintro e w' ⟨rfl, rfl⟩
  go_wp2_with fail
  refine (letter_any _ _).mono ?_; rintro e w' ⟨rfl, rfl⟩
  go_wp2_with fail
  refine (hrun'.out _).mono ?_; rintro e w' ⟨rfl, rfl⟩
  go_wp2_with fail
  refine (hsm'.out _).mono ?_; rintro e w' ⟨rfl, hb⟩
  have hI2 := hid (WInv.below hI'.out hb); obtain ⟨a0, a1, a2, a3, hblk⟩ := hI2.out.blk; obtain ⟨c0, c1, c2, c3, hf⟩ := blk4 hblk; have Hblk := hid hblk; clear hb hblk hpre' hrun' hsm'
  go_wp2
  show bodyPost Try.prog Try.f24 (WordsPost s.data.toList w) .ret _ _
  go_ret3
  refine ⟨?_, by rw [hbad.out]; rfl⟩
  exact ((((hI2.out.set 0 _).set 1 _).set 2 _).set 3 _).bel
end Go.Proofs.Ytaogpifcfmjcbaa
end
section
namespace Go.Proofs.Ytaogpifcfmjcbaa
open Go.RowKit
set_option linter.unusedVariables false
set_option maxHeartbeats 2000000 in
set_option maxRecDepth 100000 in
theorem pass_remark (s : ByteArray) (w wr : World) (hs : s.size ≤ 4096) (f : Nat → Value) (out : Value) (acc : List Lx.Tok) (k : Nat) (hk : k < s.size) (hI' : Hid (WInv w wr out acc)) (hC' : Hid (Came s.data.toList k acc))
    (t32 : ((s[k].toNat : Int) == 32) = false) (t9 : ((s[k].toNat : Int) == 9) = false) (t10 : ((s[k].toNat : Int) == 10) = false) (t13 : ((s[k].toNat : Int) == 13) = false)
    (hpre' : Hid (∀ W, Calls Try.prog 46 #[.string (s.extract k s.size), .string ⟨#[45, 45]⟩] W fun e w' => e = .returned (.bool true) ∧ W = w'))
    (hb1 : Hid (Lx.blank1 (s.data.toList.drop k) = Lx.runL Lx.noLine (s.data.toList.drop k))) (hb2 : Hid (1 ≤ Lx.runL Lx.noLine (s.data.toList.drop k))) :
    Code.wp Try.prog (restB 1) (LQ s w 1 k) (LFrame s w.heap.size out k f) wr := by
  unfold LFrame
  conv => arg 2; whnf
  go_wp2_with fail
  refine (hpre'.out _).mono ?_; rintro e w' ⟨rfl, rfl⟩
  go_wp2
  go_step3
  go_wp2
  exact goto2 hk hb1.out hb2.out out acc hI'.out hC'.out rfl rfl rfl rfl rfl rfl
set_option maxHeartbeats 2000000 in
set_option maxRecDepth 100000 in
theorem pass2 (s : ByteArray) (w wr : World) (hs : s.size ≤ 4096) (f : Nat → Value) (out : Value) (acc : List Lx.Tok) (k n : Nat) (hk : k < s.size) (hn : k + n ≤ s.size) (hn1 : 1 ≤ n) (hI' : Hid (WInv w wr out acc)) (hC' : Hid (Came s.data.toList (k + n) acc))
    (hrun' : Hid (∀ W, Calls Try.prog 48 #[.string (s.extract k s.size), .func (.func 55) #[] #[]] W fun e w' => e = .returned (.int .i64 (n : Int)) ∧ W = w')) :
    Code.wp Try.prog (restC 2) (LQ s w 2 k) (LFrame s w.heap.size out k f) wr := by
  unfold LFrame
  conv => arg 2; whnf
  go_wp2_with fail
  refine (hrun'.out _).mono ?_; rintro e w' ⟨rfl, rfl⟩
  go_wp2
  go_step3
  go_wp2
  exact goto1 (k + n) out acc (.inr rfl) (by omega) (by omega) hI'.out hC'.out rfl rfl rfl rfl rfl rfl
set_option maxHeartbeats 2000000 in
set_option maxRecDepth 100000 in
theorem pass0 (s : ByteArray) (w wr : World) (hs : s.size ≤ 4096) (f : Nat → Value) (out : Value) (acc : List Lx.Tok) (hacc : acc.length ≤ s.size) (hI' : Hid (WInv w wr out acc)) (hgood : Hid (Lx.lexAll s.data.toList = .good (acc ++ [⟨⟨5, [], 0⟩, s.size⟩]))) :
    Code.wp Try.prog (restC 0) (LQ s w 0 s.size) (LFrame s w.heap.size out s.size f) wr := by
  obtain ⟨i0, hi, hz0, hz1, hz2⟩ := info_parts tok_info
  have hsz := hI'.out.sz
  unfold LFrame
  conv => arg 2; whnf
  go_wp2_with (at_builtin; refine wpList_append_own _ rfl _ _ 58 rfl (w.heap.size + 1) 57 i0 (.agg #[.int .i64 0, .string ⟨#[]⟩, .int .i64 0, .int .i64 0]) 4 40 Try.underlying58 hi hz0 hz1 hz2 rfl (by decide) _ _ _ rfl (hI'.out.own.alloc _) ⟨wr.heap.size, 0, none⟩ 1 1 [.int .i64 5, .string ⟨#[]⟩, .int .i64 0, .int .i64 (s.size : Int)] rfl rfl ?c1 ?c2 ?c3 ?c4 ?c5 ?_)
  case c1 => exact cell_one wr _ 57 _ rfl
  case c2 => intro u hu; simp at hu; rcases hu with rfl | rfl | rfl | rfl <;> rfl
  case c3 => unfold maxLen; omega
  case c4 => omega
  case c5 => simp; omega
  intro v' w2 hown hg _
  have hI3 : WInv w w2 v' (acc ++ [⟨⟨5, [], 0⟩, s.size⟩]) := hI'.out.more hown hg
  obtain ⟨g, cap, cur, rfl, hgb, hgh, hnc, hcap, hcs, htk⟩ : ∃ g cap cur, v' = .slice (some ⟨g, 0, none⟩) (acc.length + 1) cap ∧ w.heap.size + 1 ≤ g ∧ w2.heap[g]? = some (.cells cur 57 (0, 0)) ∧ acc.length + 1 ≤ cap ∧ cap ≤ maxLen ∧ cur.size = cap * 4 ∧ cur.toList.take ((acc.length + 1) * 4) = toksCells acc ++ [.int .i64 5, .string ⟨#[]⟩, .int .i64 0, .int .i64 (s.size : Int)] := by
    rcases hown.2 with ⟨_, h0⟩ | ⟨g, cap, cur, h⟩
    · omega
    · exact ⟨g, cap, cur, h⟩
  have Hown := hid hown
  have Hg := hid hg
  have Htk := hid htk
  have HI3 := hid hI3
  have Hgh := hid hgh
  clear hown hg htk hI3 hgh
  unfold maxLen at hcap
  go_wp2
  show bodyPost Try.prog Try.f24 (WordsPost s.data.toList w) .ret _ _
  go_ret3
  refine ⟨HI3.out.bel, ?_⟩
  rw [hgood.out]
  refine ⟨g, by omega, ?_, ?_⟩
  · simp
  · intro j u hu
    rw [toksCells_snoc] at hu
    have := (World.ownsRow.cells HI3.out.own (g := g) rfl) j u (by rw [toksCells_snoc]; exact hu)
    rw [add0] at this
    exact this
end Go.Proofs.Ytaogpifcfmjcbaa
end
section
namespace Go.Proofs.Ytaogpifcfmjcbaa
open Go.RowKit
set_option linter.unusedVariables false
theorem quoteL_size : ∀ (r : List UInt8) (x : List UInt8 × Nat), Lx.quoteL r = some x → 1 ≤ x.2 ∧ x.2 ≤ r.length
  | [], x, h => by simp [Lx.quoteL] at h
  | [c], x, h => by
    simp only [Lx.quoteL] at h
    split at h
    · injection h with h; subst h; simp
    · simp at h
  | c :: d :: r, x, h => by
    have i1 := quoteL_size r
    have i2 := quoteL_size (d :: r)
    unfold Lx.quoteL at h
    split at h
    · dsimp only at h
      split at h
      · obtain ⟨y, hy, rfl⟩ := Option.map_eq_some_iff.1 h
        have := i1 y hy; simp; omega
      · injection h with h; subst h; simp
    · obtain ⟨y, hy, rfl⟩ := Option.map_eq_some_iff.1 h
      have := i2 y hy; simp at this ⊢; omega
theorem runL_pos (p : UInt8 → Bool) (c : UInt8) (r : List UInt8) (h : p c = true) : 1 ≤ Lx.runL p (c :: r) := by simp [Lx.runL, h]
theorem signL_size (r : List UInt8) (t : Lx.Tk) (n : Nat) (h : Lx.signL r = some (t, n)) : 1 ≤ n ∧ n ≤ r.length := by
  match r, h with
  | [], h => simp [Lx.signL] at h
  | [c], h => simp [Lx.signL] at h; obtain ⟨_, _, rfl⟩ := h; simp
  | c :: d :: r, h =>
    simp only [Lx.signL] at h
    split at h
    · injection h with h; injection h with _ h; subst h; simp
    · split at h
      · injection h with h; injection h with _ h; subst h; simp
      · cases h
theorem prefix_remark (l : List UInt8) : Lib.hasPrefix l [45, 45] = Lx.remarkB l := by
  match l with
  | [] => rfl
  | [c] => simp [Lib.hasPrefix, Lx.remarkB, List.isPrefixOf]
  | c :: d :: r =>
    have e : ∀ x : UInt8, (x.toNat == 45) = ((45 : UInt8) == x) := by
      intro x
      rw [Bool.eq_iff_iff, beq_iff_eq, beq_iff_eq]
      constructor
      · intro h; have : x = UInt8.ofNat 45 := by rw [← h]; simp
        rw [this]; rfl
      · intro h; rw [← h]; rfl
    simp only [Lib.hasPrefix, List.isPrefixOf, Lx.remarkB, e, Bool.and_true]
theorem ibeq (a : Nat) (b : Nat) : ((a : Int) == (b : Int)) = (a == b) := by
  rw [Bool.eq_iff_iff]; simp; omega
section
variable (s : ByteArray) (w wr : World) (f : Nat → Value) (out : Value) (acc : List Lx.Tok) (k : Nat)
theorem ext_list (hk : k ≤ s.size) : (s.extract k s.size).data.toList = s.data.toList.drop k := Lib.extract_to_end s k
theorem ext_size (hk : k ≤ s.size) : (s.extract k s.size).size = s.size - k := by
  rw [Lib.size_eq, Lib.extract_to_end]; simp
theorem pass_white (hs : s.size ≤ 4096) (hk : k < s.size) (hI : WInv w wr out acc) (hC : Came s.data.toList k acc) (hw : Lx.whiteB s[k] = true) :
    Code.wp Try.prog (restB 1) (LQ s w 1 k) (LFrame s w.heap.size out k f) wr := by
  have hC' : Came s.data.toList (k + 1) acc := hC.skip (by simpa using hk) 1 (blank_white s k hk hw) (Nat.le_refl 1)
  cases h32 : (s[k].toNat == 32) with
  | true => exact pass_whitea s w wr hs f out acc k hk hI hC' (by rw [← h32]; exact ibeq _ 32)
  | false =>
  cases h9 : (s[k].toNat == 9) with
  | true => exact pass_whiteb s w wr hs f out acc k hk hI hC' (by rw [← h32]; exact ibeq _ 32) (by rw [← h9]; exact ibeq _ 9)
  | false =>
  cases h10 : (s[k].toNat == 10) with
  | true => exact pass_whitec s w wr hs f out acc k hk hI hC' (by rw [← h32]; exact ibeq _ 32) (by rw [← h9]; exact ibeq _ 9) (by rw [← h10]; exact ibeq _ 10)
  | false =>
  have h13 : (s[k].toNat == 13) = true := by simpa [Lx.whiteB, h32, h9, h10] using hw
  exact pass_whited s w wr hs f out acc k hk hI hC' (by rw [← h32]; exact ibeq _ 32) (by rw [← h9]; exact ibeq _ 9) (by rw [← h10]; exact ibeq _ 10) (by rw [← h13]; exact ibeq _ 13)
theorem pass_tok (hs : s.size ≤ 4096) (hk : k < s.size) (hI : WInv w wr out acc) (hC : Came s.data.toList k acc) (hw : Lx.whiteB s[k] = false) (hr : Lx.remarkB (s.data.toList.drop k) = false) :
    Code.wp Try.prog (restB 1) (LQ s w 1 k) (LFrame s w.heap.size out k f) wr := by
  have hl : k < s.data.toList.length := by simpa using hk
  have hdrop := drop_at s k hk
  have hlen : (s.data.toList.drop k).length = s.size - k := by simp
  have hacc : acc.length ≤ k := by obtain ⟨_, _, _, h⟩ := hC; exact h
  have hb0 : Lx.blank1 (s.data.toList.drop k) = 0 := by rw [hdrop] at hr ⊢; simp [Lx.blank1, hw, hr]
  simp only [Lx.whiteB, Bool.or_eq_false_iff] at hw
  obtain ⟨⟨⟨h32, h9⟩, h10⟩, h13⟩ := hw
  have t32 : ((s[k].toNat : Int) == 32) = false := by rw [← h32]; exact ibeq _ 32
  have t9 : ((s[k].toNat : Int) == 9) = false := by rw [← h9]; exact ibeq _ 9
  have t10 : ((s[k].toNat : Int) == 10) = false := by rw [← h10]; exact ibeq _ 10
  have t13 : ((s[k].toNat : Int) == 13) = false := by rw [← h13]; exact ibeq _ 13
  have hpre : ∀ W, Calls Try.prog 46 #[.string (s.extract k s.size), .string ⟨#[45, 45]⟩] W fun e w' => e = .returned (.bool false) ∧ W = w' := fun W =>
    (Try.strings_HasPrefix (s.extract k s.size) ⟨#[45, 45]⟩ W).mono fun e w' ⟨he, hw'⟩ => ⟨by
      rw [he, ext_list s k (by omega)]
      have := prefix_remark (s.data.toList.drop k)
      rw [hr] at this
      exact ret_bool this, hw'.symm⟩
  have hxs := ext_size s k (by omega)
  have hxl := ext_list s k (by omega)
  have hot : Lx.oneTok (s.data.toList.drop k) = if Lx.letterB s[k] then Lx.wordL (s.data.toList.drop k) else if Lx.digitB s[k] then Lx.numberL (s.data.toList.drop k) else if s[k].toNat = 39 then Lx.textL (s.data.toList.drop (k + 1)) else Lx.signL (s.data.toList.drop k) := by
    rw [hdrop]; rfl
  cases hlt : Lx.letterB s[k] with
  | true =>
    rw [hlt, if_pos rfl] at hot
    obtain ⟨n, hn⟩ : ∃ n, n = Lx.runL Lx.innerB (s.data.toList.drop k) := ⟨_, rfl⟩
    have hn1 : 1 ≤ n := by rw [hn, hdrop]; exact runL_pos _ _ _ (by simp [Lx.innerB, hlt])
    have hn2 : n ≤ s.size - k := by rw [hn, ← hlen]; exact runL_le _ _
    have hrun : ∀ W, Calls Try.prog 48 #[.string (s.extract k s.size), .func (.func 49) #[] #[]] W fun e w' => e = .returned (.int .i64 (n : Int)) ∧ W = w' := fun W => by
      rw [hn, ← hxl]
      exact run_inner (s.extract k s.size) W (by rw [hxs]; unfold maxLen; omega)
    have hsx : (s.extract k (k + n)).data.toList = (s.data.toList.drop k).take n := by rw [Lib.extract_data]; congr 1; omega
    have hsm : ∀ W, Calls Try.prog 50 #[.string (s.extract k (k + n))] W fun e w' => e = .returned (.string ⟨(((s.data.toList.drop k).take n).map Lx.low).toArray⟩) ∧ Below W.heap.size W w' := fun W => by
      rw [← hsx]
      exact small_any _ W (by rw [Lib.size_eq, hsx]; simp only [List.length_take]; unfold maxLen; omega)
    unfold Lx.wordL at hot
    rw [← hn] at hot
    by_cases h32' : n ≤ 32
    · simp only [if_pos h32'] at hot
      exact pass_word_ok s w wr hs f out acc k hk hI ⟨1, ((s.data.toList.drop k).take n).map Lx.low, 0⟩ hacc t32 t9 t10 t13 hpre hlt n (by omega) _ hn1 (by simp; omega)
        (hC.tok hl hb0 _ n hot hn1) rfl hrun hsm
    · simp only [if_neg h32'] at hot
      exact pass_word_bad s w wr hs f out acc k hk hI (hC.wrong hl hb0 hot) t32 t9 t10 t13 hpre hlt n (by omega) _ (by simp; omega) hrun hsm
  | false =>
    rw [hlt] at hot
    simp only [Bool.false_eq_true, if_false] at hot
    cases hdg : Lx.digitB s[k] with
    | true =>
      rw [hdg, if_pos rfl] at hot
      have hcall := fun W => number_any (s.extract k s.size) W (by rw [hxs]; unfold maxLen; omega)
      rw [hxl, ← hot] at hcall
      cases ho : Lx.oneTok (s.data.toList.drop k) with
      | none =>
        rw [ho] at hcall
        exact pass_number_bad s w wr hs f out acc k hk hI (hC.wrong hl hb0 ho) t32 t9 t10 t13 hpre hlt hdg hcall
      | some x =>
        obtain ⟨t, n⟩ := x
        rw [ho] at hcall
        have hnn : n = Lx.runL Lx.digitB (s.data.toList.drop k) := by
          rw [hot] at ho; simp only [Lx.numberL] at ho; split at ho
          · injection ho with ho; injection ho with _ ho; exact ho.symm
          · cases ho
        have hn1 : 1 ≤ n := by rw [hnn, hdrop]; exact runL_pos _ _ _ hdg
        have hn2 : n ≤ s.size - k := by rw [hnn, ← hlen]; exact runL_le _ _
        exact pass_number_ok s w wr hs f out acc k hk hI t n (by omega) hn1 (hC.tok hl hb0 t n ho hn1) hacc t32 t9 t10 t13 hpre hlt hdg _ _ _ rfl hcall
    | false =>
      rw [hdg] at hot
      simp only [Bool.false_eq_true, if_false] at hot
      by_cases h39 : s[k].toNat = 39
      · rw [if_pos h39] at hot
        have t39 : ((s[k].toNat : Int) == 39) = true := by simp [h39]
        have hcall := fun W => quoted_any (s.extract k s.size) W (by rw [hxs]; omega)
        rw [hxl, List.drop_drop, ← hot] at hcall
        cases ho : Lx.oneTok (s.data.toList.drop k) with
        | none =>
          rw [ho] at hcall
          exact pass_text_bad s w wr hs f out acc k hk hI (hC.wrong hl hb0 ho) t32 t9 t10 t13 hpre hlt hdg t39 hcall
        | some x =>
          obtain ⟨t, n⟩ := x
          rw [ho] at hcall
          have hnn : 1 ≤ n ∧ n ≤ s.size - k := by
            rw [hot] at ho
            obtain ⟨y, hy, he⟩ := Option.map_eq_some_iff.1 ho
            injection he with _ he
            have := quoteL_size _ y hy
            simp at this; omega
          exact pass_text_ok s w wr hs f out acc k hk hI t n (by omega) hnn.1 (hC.tok hl hb0 t n ho hnn.1) hacc t32 t9 t10 t13 hpre hlt hdg t39 _ _ _ rfl hcall
      · rw [if_neg h39] at hot
        have t39 : ((s[k].toNat : Int) == 39) = false := by rw [beq_eq_false_iff_ne]; omega
        have hcall := fun W => sign_any (s.extract k s.size) W (by rw [hxs]; omega)
        rw [hxl, ← hot] at hcall
        cases ho : Lx.oneTok (s.data.toList.drop k) with
        | none =>
          rw [ho] at hcall
          exact pass_sign_bad s w wr hs f out acc k hk hI (hC.wrong hl hb0 ho) t32 t9 t10 t13 hpre hlt hdg t39 hcall
        | some x =>
          obtain ⟨t, n⟩ := x
          rw [ho] at hcall
          have hnn := signL_size _ t n (by rw [← hot]; exact ho)
          rw [hlen] at hnn
          exact pass_sign_ok s w wr hs f out acc k hk hI t n (by omega) hnn.1 (hC.tok hl hb0 t n ho hnn.1) hacc t32 t9 t10 t13 hpre hlt hdg t39 _ _ _ rfl hcall
theorem pass_rem (hs : s.size ≤ 4096) (hk : k < s.size) (hI : WInv w wr out acc) (hC : Came s.data.toList k acc) (hw : Lx.whiteB s[k] = false) (hr : Lx.remarkB (s.data.toList.drop k) = true) :
    Code.wp Try.prog (restB 1) (LQ s w 1 k) (LFrame s w.heap.size out k f) wr := by
  have hdrop := drop_at s k hk
  have hb0 : Lx.blank1 (s.data.toList.drop k) = Lx.runL Lx.noLine (s.data.toList.drop k) := by rw [hdrop] at hr ⊢; simp [Lx.blank1, hw, hr]
  have hc45 : s[k].toNat = 45 := by
    rw [hdrop] at hr
    cases hd : s.data.toList.drop (k + 1) with
    | nil => rw [hd] at hr; cases hr
    | cons d r => rw [hd] at hr; simp [Lx.remarkB] at hr; exact hr.1
  have hpos : 1 ≤ Lx.runL Lx.noLine (s.data.toList.drop k) := by rw [hdrop]; exact runL_pos _ _ _ (by simp [Lx.noLine, hc45])
  simp only [Lx.whiteB, Bool.or_eq_false_iff] at hw
  obtain ⟨⟨⟨h32, h9⟩, h10⟩, h13⟩ := hw
  have hpre : ∀ W, Calls Try.prog 46 #[.string (s.extract k s.size), .string ⟨#[45, 45]⟩] W fun e w' => e = .returned (.bool true) ∧ W = w' := fun W =>
    (Try.strings_HasPrefix (s.extract k s.size) ⟨#[45, 45]⟩ W).mono fun e w' ⟨he, hw'⟩ => ⟨by
      rw [he, ext_list s k (by omega)]
      have := prefix_remark (s.data.toList.drop k)
      rw [hr] at this
      exact ret_bool this, hw'.symm⟩
  exact pass_remark s w wr hs f out acc k hk hI hC (by rw [← h32]; exact ibeq _ 32) (by rw [← h9]; exact ibeq _ 9) (by rw [← h10]; exact ibeq _ 10) (by rw [← h13]; exact ibeq _ 13) hpre hb0 hpos
theorem pass1 (hs : s.size ≤ 4096) (hk : k ≤ s.size) (hI : WInv w wr out acc) (hC : Came s.data.toList k acc) :
    Code.wp Try.prog (restB 1) (LQ s w 1 k) (LFrame s w.heap.size out k f) wr := by
  by_cases h : k = s.size
  · subst h; exact pass_end s w wr hs f out acc hI hC
  · have hk' : k < s.size := by omega
    cases hw : Lx.whiteB s[k] with
    | true => exact pass_white s w wr f out acc k hs hk' hI hC hw
    | false =>
      cases hr : Lx.remarkB (s.data.toList.drop k) with
      | true => exact pass_rem s w wr f out acc k hs hk' hI hC hw hr
      | false => exact pass_tok s w wr f out acc k hs hk' hI hC hw hr
end
end Go.Proofs.Ytaogpifcfmjcbaa
end
section
namespace Go.Proofs.Ytaogpifcfmjcbaa
open Go.RowKit
set_option linter.unusedVariables false
set_option maxRecDepth 100000 in
theorem LQ_of {s : ByteArray} {w : World} {lb k : Nat} {a : Act} {wr : World} (ha : a.tmps.getD 8 undef = .int .i64 (k : Int)) : ∀ e a' w', LQ s w lb k e a' w' →
    Exit.jumps (fun l' a' w' => LJ s w l' a' w' ∧ Lmu s l' a' w' < Lmu s lb a wr) (bodyPost Try.prog Try.f24 (WordsPost s.data.toList w)) e a' w' := by
  intro e a' w' h
  cases e with
  | goto l =>
    obtain ⟨h1, h2⟩ := h
    refine ⟨h1, Nat.lt_of_lt_of_le h2 ?_⟩
    unfold Lmu
    rw [ha]
    exact Nat.le_refl _
  | _ => exact h
theorem pass1_at (s : ByteArray) (w wr : World) (out : Value) (acc : List Lx.Tok) (k : Nat) (hs : s.size ≤ 4096) (hk : k ≤ s.size) (hI : WInv w wr out acc) (hC : Came s.data.toList k acc) (a : Act)
    (hd : a.defers = []) (hz : a.tmps.size = 130) (h0 : a.tmps.getD 0 undef = .string s) (h5 : a.tmps.getD 5 undef = out) (h6 : a.tmps.getD 6 undef = .pointer (some ⟨w.heap.size, 0, none⟩)) (h8 : a.tmps.getD 8 undef = .int .i64 (k : Int)) :
    Code.wp Try.prog (restB 1) (LQ s w 1 k) a wr := by
  rw [LFrame_of a hd hz h0 h5 h6 h8]
  exact pass1 s w wr _ out acc k hs hk hI hC
theorem LQ_first {s : ByteArray} {w : World} : ∀ e a' w', LQ s w 1 0 e a' w' → Exit.jumps (LJ s w) (bodyPost Try.prog Try.f24 (WordsPost s.data.toList w)) e a' w' := by
  intro e a' w' h
  cases e with
  | goto l => exact h.1
  | _ => exact h
theorem came0 (l : List UInt8) : Came l 0 [] := ⟨l.length + 1, rfl, by omega, by simp⟩
theorem winv0 (w : World) : WInv w (w.alloc (.cells #[.int .i64 0, .string ⟨#[]⟩, .int .i64 0, .int .i64 0] 57)) (.slice none 0 0) [] :=
  ⟨⟨rfl, .inl ⟨rfl, rfl⟩⟩, ⟨_, _, _, _, heap_new w _⟩, (Below.refl _ _).alloc (Nat.le_refl _) _, by simp⟩
set_option maxHeartbeats 1000000 in
set_option maxRecDepth 100000 in
theorem words_any (s : ByteArray) (w : World) (hs : s.size ≤ 4096) :
    Calls Try.prog 24 #[.string s] w (WordsPost s.data.toList w) := by
  have hd : decide ((4096 : Int) < (s.size : Int)) = false := by simp; omega
  go_enter Try.func24, Try.ntmps24
  go_wp2
  refine scope_jumps (LJ s w) (Lmu s) ?_ ?_
  · go_wp2
    go_step3
    go_step
    go_step
    exact Code.wp_mono LQ_first (pass1_at s w _ (.slice none 0 0) [] 0 hs (Nat.zero_le _) (winv0 w) (came0 _) _ rfl rfl rfl rfl rfl rfl)
  · intro l a wr hJ
    obtain ⟨f, out, k, acc, rfl, hI, hC, hk, h⟩ := hJ
    rcases h with rfl | ⟨rfl, hk', hb, hb1⟩ | ⟨rfl, rfl⟩
    · exact ⟨restC 1, find1, by rw [rest1]; exact wp_seq_k (fun _ hK => wp_skip (hK _ _ (Code.wp_mono (LQ_of rfl) (pass1 s w wr f out acc k hs hk hI hC))))⟩
    · have hl : k < s.data.toList.length := by simpa using hk'
      have hle : Lx.runL Lx.noLine (s.data.toList.drop k) ≤ s.size - k := by
        have := runL_le Lx.noLine (s.data.toList.drop k)
        simp at this; omega
      have hrun : ∀ W, Calls Try.prog 48 #[.string (s.extract k s.size), .func (.func 55) #[] #[]] W fun e w' => e = .returned (.int .i64 (Lx.runL Lx.noLine (s.data.toList.drop k) : Nat)) ∧ W = w' := fun W => by
        rw [← ext_list s k hk]
        exact run_noLine (s.extract k s.size) W (by rw [ext_size s k hk]; unfold maxLen; omega)
      exact ⟨restC 2, find2, Code.wp_mono (LQ_of rfl) (pass2 s w wr hs f out acc k _ hk' (by omega) hb1 hI (hC.skip hl _ hb hb1) hrun)⟩
    · have hacc : acc.length ≤ s.size := by obtain ⟨_, _, _, h⟩ := hC; exact h
      have hlen : s.data.toList.length = s.size := by simp
      have hg := Came.done (l := s.data.toList) (acc := acc) (by rw [hlen]; exact hC)
      rw [hlen] at hg
      exact ⟨restC 0, find0, Code.wp_mono (LQ_of rfl) (pass0 s w wr hs f out acc hacc hI hg)⟩
set_option maxHeartbeats 1000000 in
set_option maxRecDepth 100000 in
theorem words_long (s : ByteArray) (w : World) (hs : 4096 < s.size) (hm : s.size ≤ maxLen) :
    Calls Try.prog 24 #[.string s] w fun e w' => e = .returned (.tuple #[.slice none 0 0, .int .i64 2, .int .i64 0]) ∧ Below w.heap.size w w' := by
  have hd : decide ((4096 : Int) < (s.size : Int)) = true := by simp; omega
  go_enter Try.func24, Try.ntmps24
  go_wp2
  go_step3
  go_wp2
  rw [Exit.noGoto_ret]
  go_ret3
  exact ⟨rfl, (Below.refl _ _).alloc (Nat.le_refl _) _⟩
end Go.Proofs.Ytaogpifcfmjcbaa
end
section
namespace Go.Proofs.Ytaogpifcfmjcbaa
open Lx
def wordsB : Bytes := [32, 97, 108, 108, 32, 97, 110, 100, 32, 97, 115, 32, 97, 115, 99, 32, 98, 101, 103, 105, 110, 32, 98, 101, 116, 119, 101, 101, 110, 32, 98, 111, 111, 108, 32, 98, 121, 32, 99, 111, 97, 108, 101, 115, 99, 101, 32, 99, 111, 108, 117, 109, 110, 32, 99, 111, 109, 109, 105, 116, 32, 99, 111, 117, 110, 116, 32, 99, 114, 101, 97, 116, 101, 32, 100, 101, 108, 101, 116, 101, 32, 100, 101, 115, 99, 32, 100, 105, 115, 116, 105, 110, 99, 116, 32, 100, 114, 111, 112, 32, 101, 110, 100, 32, 101, 120, 105, 115, 116, 115, 32, 101, 120, 112, 108, 97, 105, 110, 32, 102, 97, 108, 115, 101, 32, 102, 114, 111, 109, 32, 103, 114, 111, 117, 112, 32, 104, 97, 118, 105, 110, 103, 32, 105, 110, 32, 105, 110, 100, 101, 120, 32, 105, 110, 110, 101, 114, 32, 105, 110, 115, 101, 114, 116, 32, 105, 110, 116, 32, 105, 110, 116, 111, 32, 105, 115, 32, 106, 111, 105, 110, 32, 107, 101, 121, 32, 108, 101, 110, 103, 116, 104, 32, 108, 105, 109, 105, 116, 32, 109, 97, 120, 32, 109, 105, 110, 32, 110, 111, 116, 32, 110, 117, 108, 108, 32, 111, 102, 102, 115, 101, 116, 32, 111, 110, 32, 111, 114, 32, 111, 114, 100, 101, 114, 32, 112, 114, 105, 109, 97, 114, 121, 32, 114, 101, 108, 101, 97, 115, 101, 32, 114, 111, 108, 108, 98, 97, 99, 107, 32, 115, 97, 118, 101, 112, 111, 105, 110, 116, 32, 115, 101, 108, 101, 99, 116, 32, 115, 101, 116, 32, 115, 117, 109, 32, 116, 97, 98, 108, 101, 32, 116, 101, 120, 116, 32, 116, 111, 32, 116, 114, 117, 101, 32, 117, 110, 105, 113, 117, 101, 32, 117, 112, 100, 97, 116, 101, 32, 118, 97, 108, 117, 101, 115, 32, 119, 104, 101, 114, 101, 32]
def keptL : List Bytes := [[97, 108, 108], [97, 110, 100], [97, 115], [97, 115, 99], [98, 101, 103, 105, 110], [98, 101, 116, 119, 101, 101, 110], [98, 111, 111, 108], [98, 121], [99, 111, 97, 108, 101, 115, 99, 101], [99, 111, 108, 117, 109, 110], [99, 111, 109, 109, 105, 116], [99, 111, 117, 110, 116], [99, 114, 101, 97, 116, 101], [100, 101, 108, 101, 116, 101], [100, 101, 115, 99], [100, 105, 115, 116, 105, 110, 99, 116], [100, 114, 111, 112], [101, 110, 100], [101, 120, 105, 115, 116, 115], [101, 120, 112, 108, 97, 105, 110], [102, 97, 108, 115, 101], [102, 114, 111, 109], [103, 114, 111, 117, 112], [104, 97, 118, 105, 110, 103], [105, 110], [105, 110, 100, 101, 120], [105, 110, 110, 101, 114], [105, 110, 115, 101, 114, 116], [105, 110, 116], [105, 110, 116, 111], [105, 115], [106, 111, 105, 110], [107, 101, 121], [108, 101, 110, 103, 116, 104], [108, 105, 109, 105, 116], [109, 97, 120], [109, 105, 110], [110, 111, 116], [110, 117, 108, 108], [111, 102, 102, 115, 101, 116], [111, 110], [111, 114], [111, 114, 100, 101, 114], [112, 114, 105, 109, 97, 114, 121], [114, 101, 108, 101, 97, 115, 101], [114, 111, 108, 108, 98, 97, 99, 107], [115, 97, 118, 101, 112, 111, 105, 110, 116], [115, 101, 108, 101, 99, 116], [115, 101, 116], [115, 117, 109], [116, 97, 98, 108, 101], [116, 101, 120, 116], [116, 111], [116, 114, 117, 101], [117, 110, 105, 113, 117, 101], [117, 112, 100, 97, 116, 101], [118, 97, 108, 117, 101, 115], [119, 104, 101, 114, 101]]
theorem kept_all : keptL.all (fun x => Lib.contains wordsB (32 :: (x ++ [32])) && !(x.contains 32) && !x.isEmpty) = true := by decide +kernel
theorem piece_all : (List.range 331).all (fun i => !((wordsB.drop i).head? == some 32) || (let x := (wordsB.drop (i + 1)).takeWhile (fun c => c != 32); x.isEmpty || keptL.contains x)) = true := by decide +kernel
theorem take_piece (s r : Bytes) (h : s.contains 32 = false) : (s ++ 32 :: r).takeWhile (fun c => c != 32) = s := by
  induction s with
  | nil => simp
  | cons c s ih =>
    simp only [List.contains_cons, Bool.or_eq_false_iff] at h
    have hc : (c != 32) = true := by
      have := h.1
      rw [bne_iff_ne]
      intro e; subst e; simp at this
    rw [List.cons_append, List.takeWhile_cons, if_pos hc, ih h.2]
theorem kept_eq (s : Bytes) (h0 : s ≠ []) (h32 : s.contains 32 = false) : Lib.contains wordsB (32 :: (s ++ [32])) = keptL.contains s := by
  rw [Bool.eq_iff_iff]
  constructor
  · intro h
    unfold Lib.contains at h
    rw [decide_eq_true_eq] at h
    rcases Lib.index_spec wordsB (32 :: (s ++ [32])) with ⟨h1, _⟩ | ⟨i, h1, h2, h3, _⟩
    · omega
    · unfold Lib.occAt at h3
      rw [List.isPrefixOf_iff_prefix] at h3
      obtain ⟨t, ht⟩ := h3
      have hlen : wordsB.length = 331 := by decide +kernel
      have hi : i < 331 := by
        have := congrArg List.length ht
        simp at this; omega
      have hp := List.all_eq_true.1 piece_all i (List.mem_range.2 hi)
      have hd1 : wordsB.drop (i + 1) = s ++ 32 :: t := by
        rw [← List.drop_drop, ← ht]; simp
      rw [hd1, take_piece s t h32, ← ht] at hp
      have he : s.isEmpty = false := by cases s with | nil => exact absurd rfl h0 | cons _ _ => rfl
      simp only [he, List.cons_append, List.head?_cons, beq_self_eq_true, Bool.not_true, Bool.false_or] at hp
      exact hp
  · intro h
    have hm : s ∈ keptL := by simpa using h
    have := List.all_eq_true.1 kept_all s hm
    simp only [Bool.and_eq_true] at this
    exact this.1.1
theorem kept_facts (s : Bytes) (h : keptL.contains s = true) : s ≠ [] ∧ s.contains 32 = false := by
  have hm : s ∈ keptL := by simpa using h
  have := List.all_eq_true.1 kept_all s hm
  simp only [Bool.and_eq_true, Bool.not_eq_true'] at this
  refine ⟨?_, this.1.2⟩
  intro e; subst e; simp at this
def keptB (s : Bytes) : Bool := keptL.contains s
theorem indexByte_contains (s : Bytes) (c : UInt8) : decide (0 ≤ Lib.indexByte s c) = s.contains c := (Lib.contains_iff_indexByte s c).symm
theorem kept_false (s : Bytes) (h : s = [] ∨ s.contains 32 = true) : keptB s = false := by
  rw [← Bool.not_eq_true]
  intro e
  obtain ⟨h1, h2⟩ := kept_facts s e
  rcases h with h | h
  · exact h1 h
  · rw [h] at h2; cases h2
end Go.Proofs.Ytaogpifcfmjcbaa
end
section
namespace Go.Proofs.Ytaogpifcfmjcbaa
open Go.RowKit
set_option linter.unusedVariables false
def bs (l : List UInt8) : ByteArray := ⟨l.toArray⟩
theorem ibeq' (a : Nat) (b : Nat) : ((a : Int) == (b : Int)) = (a == b) := by
  rw [Bool.eq_iff_iff]; simp; omega
theorem cell_lt {w : World} {g j : Nat} {u : Value} (h : w.cell? ⟨g, j, none⟩ = some u) : g < w.heap.size := by
  rcases Nat.lt_or_ge g w.heap.size with h' | h'
  · exact h'
  · simp [World.cell?, Array.getElem?_eq_none h'] at h
theorem keep_cell {w w' : World} {g j : Nat} {u : Value} (h : w.cell? ⟨g, j, none⟩ = some u) (hb : Below w.heap.size w w') : w'.cell? ⟨g, j, none⟩ = some u :=
  (hb.cell (p := ⟨g, j, none⟩) (cell_lt h)).trans h
set_option maxHeartbeats 1000000 in
set_option maxRecDepth 100000 in
theorem reserved_full (s : ByteArray) (m : Int) (w : World) (h0 : s.data.toList ≠ []) (hs : s.size ≤ 140737488355328) (hm : w.cell? ⟨0, 0, none⟩ = some (.int .i64 m)) :
    Calls Try.prog 67 #[.string s] w fun e w' => e = .returned (.bool (keptB s.data.toList)) ∧ w' = w := by
  have hne2 : ¬ s.toList = [] := by rw [ByteArray.toList_eq]; exact h0
  have hne : s.toList.isEmpty = false := by cases h : s.toList with | nil => exact absurd h hne2 | cons _ _ => rfl
  have hk := fun h32 => kept_eq s.data.toList h0 h32
  have hc1 := Try.strings_Contains_one s 32
  rw [indexByte_contains] at hc1
  have hsub : (⟨#[32]⟩ ++ s ++ ⟨#[32]⟩ : ByteArray).data.toList = 32 :: (s.data.toList ++ [32]) := by simp
  go_enter Try.func67, Try.ntmps67
  go_wp2_with fail
  refine (hc1 _).mono ?_
  rintro e w1 ⟨rfl, rfl⟩
  cases h32 : s.data.toList.contains 32 with
  | true =>
    have hkf := hid (kept_false s.data.toList (.inr h32))
    go_wp2
    go_ret
    exact ⟨by rw [hkf.out]; rfl, rfl⟩
  | false =>
    have hkt := hid (hk h32)
    clear hk hc1
    go_wp2_with fail
    refine (Try.strings_Contains _ _ m _ (by decide +kernel) hm).mono ?_
    rintro e w2 ⟨rfl, rfl⟩
    rw [hsub]
    have hkw : ∀ b, Lib.contains wordsB b = Lib.contains wordsB b := fun _ => rfl
    go_wp2
    go_ret
    exact ⟨congrArg (fun x => Ending.returned (.bool x)) hkt.out, rfl⟩
open Lx in
def okB (c : UInt8) : Bool := digitB c || (letterB c && !upperB c)
open Lx in
theorem ok_char (c : UInt8) : okB c = (innerB c && low c == c) := by
  have : ∀ n : Fin 256, okB (UInt8.ofNat n.val) = (innerB (UInt8.ofNat n.val) && low (UInt8.ofNat n.val) == UInt8.ofNat n.val) := by decide +kernel
  have h := this ⟨c.toNat, c.toNat_lt⟩
  simpa using h
open Lx in
theorem runL_full (p : UInt8 → Bool) (l : List UInt8) : (runL p l == l.length) = l.all p := by
  induction l with
  | nil => rfl
  | cons c r ih =>
    simp only [runL, List.all_cons, List.length_cons]
    cases p c with
    | true => simp only [if_true, Bool.true_and, ← ih]; rw [Bool.eq_iff_iff]; simp
    | false => simp
open Lx in
theorem low_full (l : List UInt8) : (l.map low == l) = l.all (fun c => low c == c) := by
  induction l with
  | nil => rfl
  | cons c r ih => simp only [List.map_cons, List.all_cons, ← ih]; rfl
open Lx in
theorem ok_full (l : List UInt8) : l.all okB = (runL innerB l == l.length && l.map low == l) := by
  rw [runL_full, low_full]
  induction l with
  | nil => rfl
  | cons c r ih =>
    simp only [List.all_cons, ih, ok_char]
    cases innerB c <;> cases (low c == c) <;> simp
open Lx in
def nameB (l : List UInt8) : Bool := match l with
  | [] => false
  | c :: r => decide ((c :: r).length ≤ 32) && !digitB c && (c :: r).all okB && !keptB (c :: r)
set_option maxHeartbeats 1000000 in
set_option maxRecDepth 100000 in
theorem name_empty (w : World) :
    Calls Try.prog 57 #[.string ⟨#[]⟩] w fun e w' => e = .returned (.bool false) ∧ w' = w := by
  go_enter Try.func57, Try.ntmps57
  go_wp2
  go_ret
  exact ⟨rfl, rfl⟩
set_option maxHeartbeats 1000000 in
set_option maxRecDepth 100000 in
theorem name_full (s : ByteArray) (m : Int) (w : World) (c : UInt8) (r : List UInt8) (hc : s.data.toList = c :: r) (hs : s.size ≤ 140737488355328) (hm : w.cell? ⟨0, 0, none⟩ = some (.int .i64 m)) :
    Calls Try.prog 57 #[.string s] w fun e w' => e = .returned (.bool (nameB s.data.toList)) ∧ Below w.heap.size w w' := by
  have hne2 : ¬ s.toList = [] := by rw [ByteArray.toList_eq, hc]; simp
  have hne : s.toList.isEmpty = false := by cases h : s.toList with | nil => exact absurd h hne2 | cons _ _ => rfl
  have hpos : 0 < s.size := by
    have := congrArg List.length hc
    simp at this; omega
  have hget : s[0] = c := by
    have : s.data.toList[0]? = some c := by rw [hc]; rfl
    simp at this
    exact (Array.getElem?_eq_some_iff.1 this).2
  have hnB : nameB s.data.toList = (decide (s.size ≤ 32) && !Lx.digitB c && (Lx.runL Lx.innerB s.data.toList == s.size && s.data.toList.map Lx.low == s.data.toList) && !keptB s.data.toList) := by
    have e : s.size = s.data.toList.length := by simp
    rw [e, ← ok_full, hc]; rfl
  have hsm : s.size ≤ maxLen := by unfold maxLen; omega
  have HnB := hid hnB
  clear hnB
  have hne0 : Hid (s.data.toList ≠ []) := by refine hid ?_; rw [hc]; simp
  clear hc
  cases h32 : decide (s.size ≤ 32) with
  | false =>
    have t32 : decide ((s.size : Int) ≤ 32) = false := by simp at h32 ⊢; omega
    have hv : Hid (nameB s.data.toList = false) := by refine hid ?_; rw [HnB.out, h32]; rfl
    go_enter Try.func57, Try.ntmps57
    go_wp2
    go_ret
    exact ⟨by rw [hv.out]; rfl, Below.refl _ _⟩
  | true =>
    have t32 : decide ((s.size : Int) ≤ 32) = true := by simp at h32 ⊢; omega
    go_enter Try.func57, Try.ntmps57
    go_wp2_with fail
    refine (digit_any c _).mono ?_
    rintro e w' ⟨rfl, rfl⟩
    cases hd : Lx.digitB c with
    | true =>
      have hv : Hid (nameB s.data.toList = false) := by refine hid ?_; rw [HnB.out, hd]; simp
      go_wp2
      go_ret
      exact ⟨by rw [hv.out]; rfl, Below.refl _ _⟩
    | false =>
      go_wp2_with fail
      refine (run_inner s _ hsm).mono ?_
      rintro e w' ⟨rfl, rfl⟩
      cases hr : (Lx.runL Lx.innerB s.data.toList == s.size) with
      | false =>
        have tr : ((Lx.runL Lx.innerB s.data.toList : Int) == (s.size : Int)) = false := by rw [← hr]; exact ibeq' _ _
        have hv : Hid (nameB s.data.toList = false) := by refine hid ?_; rw [HnB.out, hr]; simp
        go_wp2
        go_ret
        exact ⟨by rw [hv.out]; rfl, Below.refl _ _⟩
      | true =>
        have tr : ((Lx.runL Lx.innerB s.data.toList : Int) == (s.size : Int)) = true := by rw [← hr]; exact ibeq' _ _
        have hv : Hid (nameB s.data.toList = ((s.data.toList.map Lx.low == s.data.toList) && !keptB s.data.toList)) := by refine hid ?_; rw [HnB.out, hr, h32, hd]; rfl
        clear HnB
        generalize Lx.runL Lx.innerB s.data.toList = rn at *
        clear hr
        go_wp2_with fail
        refine (small_any s _ hsm).mono ?_
        rintro e w2 ⟨rfl, hb2⟩
        have hll : (⟨(s.data.toList.map Lx.low).toArray⟩ : ByteArray).toList = s.data.toList.map Lx.low := ByteArray.toList_mk _
        have hsl : s.toList = s.data.toList := ByteArray.toList_eq s
        have heq : ((⟨(s.data.toList.map Lx.low).toArray⟩ : ByteArray).toList == s.toList) = (s.data.toList.map Lx.low == s.data.toList) := by rw [hll, hsl]
        clear hll hsl
        generalize (⟨(s.data.toList.map Lx.low).toArray⟩ : ByteArray) = lo at *
        cases hl : (s.data.toList.map Lx.low == s.data.toList) with
        | false =>
          rw [hl] at heq hv
          go_wp2
          go_ret
          exact ⟨by rw [hv.out]; rfl, hb2⟩
        | true =>
          rw [hl] at heq hv
          have hm2 := keep_cell hm hb2
          go_wp2_with fail
          refine (reserved_full s m _ hne0.out hs hm2).mono ?_
          rintro e w3 ⟨rfl, rfl⟩
          have hv2 : nameB s.data.toList = !keptB s.data.toList := hv.out
          clear hv
          generalize keptB s.data.toList = kb at *
          have Hv2 := hid hv2
          clear hv2
          cases kb with
          | true =>
            go_wp2
            go_ret
            exact ⟨by rw [Hv2.out]; rfl, hb2⟩
          | false =>
            go_wp2
            go_ret
            exact ⟨by rw [Hv2.out]; rfl, hb2⟩
theorem empty_of (s : ByteArray) (h : s.data.toList = []) : s = ⟨#[]⟩ := by
  apply ByteArray.ext
  apply Array.ext'
  simpa using h
theorem name_any (s : ByteArray) (m : Int) (w : World) (hs : s.size ≤ 140737488355328) (hm : w.cell? ⟨0, 0, none⟩ = some (.int .i64 m)) :
    Calls Try.prog 57 #[.string s] w fun e w' => e = .returned (.bool (nameB s.data.toList)) ∧ Below w.heap.size w w' := by
  cases h : s.data.toList with
  | nil =>
    have e := empty_of s h
    subst e
    exact (name_empty w).mono fun e w' ⟨h1, h2⟩ => ⟨h1, by rw [h2]; exact Below.refl _ _⟩
  | cons c r => rw [← h]; exact name_full s m w c r h hs hm
end Go.Proofs.Ytaogpifcfmjcbaa
end
section
namespace Go.Proofs.Ytaogpifcfmjcbaa
set_option linter.unusedVariables false
structure Hd where
  op : Int
  v : V := nul
  tab : ByteArray := ⟨#[]⟩
  name : ByteArray := ⟨#[]⟩
  t : Int := 0
  c : Int := 0
  nt : Bool := false
  st : Bool := false
inductive Ex where
  | mk (h : Hd) (ks : List Ex)
def Ex.hd : Ex → Hd
  | .mk h _ => h
def Ex.ks : Ex → List Ex
  | .mk _ ks => ks
inductive Ps where
  | ok (l : List Lx.Tok) (d : Nat)
  | bad (e : Int) (at_ : Nat)
def Ps.good : Ps → Bool
  | .ok _ _ => true
  | .bad _ _ => false
def Ps.size : Ps → Nat
  | .ok l _ => l.length
  | .bad _ _ => 0
def txt (l : List UInt8) : ByteArray := ⟨l.toArray⟩
def Ps.is (k : Nat) (c : ByteArray) : Ps → Bool
  | .ok (t :: _) _ => t.tk.kind == k && t.tk.text == c.data.toList
  | _ => false
def Ps.fail (e : Int) : Ps → Ps
  | .ok (t :: _) _ => .bad e t.pos
  | .ok [] _ => .bad e 0
  | s => s
def Ps.step : Ps → Ps
  | .ok (t :: r) d => if t.tk.kind = 5 then .ok (t :: r) d else .ok r d
  | s => s
def Ps.may (k : Nat) (c : ByteArray) (s : Ps) : Bool × Ps := if s.is k c then (true, s.step) else (false, s)
abbrev Ps.word (c : ByteArray) (s : Ps) : Bool × Ps := s.may 1 c
def Ps.need (k : Nat) (c : ByteArray) (s : Ps) : Ps := if s.is k c then s.step else s.fail 180
def Ps.down : Ps → Ps
  | .ok l d => if d = 24 then Ps.fail 181 (.ok l d) else .ok l (d + 1)
  | s => s
def Ps.up : Ps → Ps
  | .ok l d => .ok l (d - 1)
  | s => s
def Ps.headK : Ps → Nat
  | .ok (t :: _) _ => t.tk.kind
  | _ => 0
def Ps.headT : Ps → List UInt8
  | .ok (t :: _) _ => t.tk.text
  | _ => []
def Ps.headN : Ps → Nat
  | .ok (t :: _) _ => t.tk.num
  | _ => 0
def Ps.tail : Ps → Ps
  | .ok (_ :: r) d => .ok r d
  | s => s
def Ps.isName (s : Ps) : Bool := s.headK == 1 && nameB s.headT
def Ps.name (s : Ps) : ByteArray × Ps := if s.isName then (txt s.headT, s.step) else (⟨#[]⟩, s.fail 180)
def Ps.num (s : Ps) : Int × Ps := if s.headK == 2 then ((s.headN : Int), s.step) else (0, s.fail 180)
abbrev Pa (α : Type) := Ps → α × Ps
def tre (op : Int) (ks : List Ex) : Ex := .mk { op := op } ks
def noEx : Ex := .mk { op := 0 } []
def lefts (ops : List (ByteArray × Int)) (k : Nat) (p : Pa Ex) : Nat → Ex → Pa Ex
  | 0, e, s => (e, s)
  | n + 1, e, s => match ops.find? (fun o => s.is k o.1) with
    | some o => let q := p s.step; lefts ops k p n (tre o.2 [e, q.1]) q.2
    | none => (e, s)
def left (ops : List (ByteArray × Int)) (k : Nat) (p : Pa Ex) : Pa Ex := fun s => let q := p s; lefts ops k p q.2.size q.1 q.2
def ahead (k : Nat) (c : ByteArray) (op : Int) (p : Pa Ex) : Nat → Pa Ex
  | 0, s => p s
  | n + 1, s => if s.is k c then (if s.down.good then let q := ahead k c op p n s.down.step; (tre op [q.1], q.2.up) else (noEx, s.down)) else p s
def seps {α : Type} (p : Pa α) : Nat → List α → Pa (List α)
  | 0, l, s => (l, s)
  | n + 1, l, s => let q := p s; if q.2.is 4 ⟨#[44]⟩ then seps p n (l ++ [q.1]) q.2.step else (l ++ [q.1], q.2)
def sep {α : Type} (p : Pa α) : Pa (List α) := fun s => seps p (s.size + 1) [] s
def sums (p : Pa Ex) : Pa Ex := left [(⟨#[43]⟩, 18), (⟨#[45]⟩, 19), (⟨#[124, 124]⟩, 23)] 4 p
def prods (p : Pa Ex) : Pa Ex := left [(⟨#[42]⟩, 20), (⟨#[47]⟩, 21), (⟨#[37]⟩, 22)] 4 p
def minuses (p : Pa Ex) : Pa Ex := fun s => ahead 4 ⟨#[45]⟩ 24 p s.size s
def nots (p : Pa Ex) : Pa Ex := fun s => ahead 1 ⟨#[110, 111, 116]⟩ 8 p s.size s
def ands (p : Pa Ex) : Pa Ex := left [(⟨#[97, 110, 100]⟩, 7)] 1 p
def ors (p : Pa Ex) : Pa Ex := left [(⟨#[111, 114]⟩, 6)] 1 p
def listS (E : Pa Ex) : Pa (List Ex) := fun s =>
  if s.is 4 ⟨#[40]⟩ then (if s.down.good then let q := sep E s.down.step; (q.1, (q.2.need 4 ⟨#[41]⟩).up) else ([], s.down)) else ([], s.fail 180)
def cmpOps : List (ByteArray × Int) := [(⟨#[61]⟩, 9), (⟨#[60, 62]⟩, 10), (⟨#[60]⟩, 11), (⟨#[60, 61]⟩, 12), (⟨#[62]⟩, 13), (⟨#[62, 61]⟩, 14)]
def betweens (p : Pa Ex) (n : Bool) (a : Ex) (s : Ps) : Ex × Ps :=
  let b := p s
  let c := p (b.2.need 1 ⟨#[97, 110, 100]⟩)
  (.mk { op := 17, nt := n } [a, b.1, c.1], c.2)
def compareT (p : Pa Ex) (E : Pa Ex) (a : Ex) (s : Ps) : Ex × Ps :=
  match cmpOps.find? (fun o => s.is 4 o.1) with
  | some o => let b := p s.step; (tre o.2 [a, b.1], b.2)
  | none =>
    if s.is 1 ⟨#[105, 115]⟩ then
      let n := s.step.word ⟨#[110, 111, 116]⟩
      (.mk { op := 15, nt := n.1 } [a], n.2.need 1 ⟨#[110, 117, 108, 108]⟩)
    else
      let n := s.word ⟨#[110, 111, 116]⟩
      if n.2.is 1 ⟨#[105, 110]⟩ then let l := listS E n.2.step; (.mk { op := 16, nt := n.1 } (a :: l.1), l.2)
      else if n.2.is 1 ⟨#[98, 101, 116, 119, 101, 101, 110]⟩ then betweens p n.1 a n.2.step
      else if n.1 then (a, n.2.fail 180) else (a, n.2)
def compares (p : Pa Ex) (E : Pa Ex) : Pa Ex := fun s => let a := p s; compareT p E a.1 a.2
def folds (l : List UInt8) : Bool := l == (⟨#[99, 111, 117, 110, 116]⟩ : ByteArray).data.toList || l == (⟨#[115, 117, 109]⟩ : ByteArray).data.toList || l == (⟨#[109, 105, 110]⟩ : ByteArray).data.toList || l == (⟨#[109, 97, 120]⟩ : ByteArray).data.toList
def built (l : List UInt8) : Bool := folds l || l == (⟨#[108, 101, 110, 103, 116, 104]⟩ : ByteArray).data.toList || l == (⟨#[99, 111, 97, 108, 101, 115, 99, 101]⟩ : ByteArray).data.toList
def callS (E : Pa Ex) (name : List UInt8) (s : Ps) : Ex × Ps :=
  if s.down.good then
    let s1 := s.down.step.need 4 ⟨#[40]⟩
    if name == (⟨#[99, 111, 117, 110, 116]⟩ : ByteArray).data.toList && s1.is 4 ⟨#[42]⟩ then (.mk { op := 4, name := txt name, st := true } [], (s1.step.need 4 ⟨#[41]⟩).up)
    else if folds name then let q := E s1; (.mk { op := 4, name := txt name } [q.1], (q.2.need 4 ⟨#[41]⟩).up)
    else let q := sep E s1; (.mk { op := 5, name := txt name } q.1, (q.2.need 4 ⟨#[41]⟩).up)
  else (noEx, s.down)
def nameS (s : Ps) : Ex × Ps :=
  let n := s.name
  if n.2.is 4 ⟨#[46]⟩ then let m := n.2.step.name; (.mk { op := 2, tab := n.1, name := m.1 } [], m.2) else (.mk { op := 2, name := n.1 } [], n.2)
def litE (v : V) : Ex := .mk { op := 1, v := v } []
def single (E : Pa Ex) (s : Ps) : Ex × Ps :=
  if s.headK == 2 then (litE (numV s.headN), s.step)
  else if s.headK == 3 then (litE (textV (txt s.headT)), s.step)
  else if s.is 1 ⟨#[116, 114, 117, 101]⟩ then (litE (boolV true), s.step)
  else if s.is 1 ⟨#[102, 97, 108, 115, 101]⟩ then (litE (boolV false), s.step)
  else if s.is 1 ⟨#[110, 117, 108, 108]⟩ then (litE nul, s.step)
  else if s.is 4 ⟨#[40]⟩ then (if s.down.good then let q := E s.down.step; (q.1, (q.2.need 4 ⟨#[41]⟩).up) else (noEx, s.down))
  else if s.headK == 1 && (built s.headT || nameB s.headT && s.tail.is 4 ⟨#[40]⟩) then callS E s.headT s
  else nameS s
def lvl (E : Pa Ex) : Pa Ex := ors (ands (nots (compares (sums (prods (minuses (single E)))) E)))
def expr : Nat → Pa Ex
  | 0 => lvl (fun s => (noEx, s))
  | n + 1 => lvl (expr n)
def exprS : Pa Ex := fun s => expr s.size s
end Go.Proofs.Ytaogpifcfmjcbaa
end
section
namespace Go.Proofs.Ytaogpifcfmjcbaa
set_option linter.unusedVariables false
theorem size_step (s : Ps) : s.step.size ≤ s.size := by
  match s with
  | .ok (t :: r) d => simp only [Ps.step]; split <;> simp [Ps.size]
  | .ok [] d => exact Nat.le_refl _
  | .bad e a => exact Nat.le_refl _
theorem is_step {s : Ps} {k : Nat} {c : ByteArray} (h : s.is k c = true) (hk : k ≠ 5) : s.step.size + 1 = s.size ∧ s.step.good = true ∧ s.good = true := by
  match s, h with
  | .ok (t :: r) d, h =>
    simp [Ps.is] at h
    have h5 : t.tk.kind ≠ 5 := by rw [h.1]; exact hk
    simp [Ps.step, h5, Ps.size, Ps.good]
theorem head_step {s : Ps} {k : Nat} (h : s.headK = k) (hk : k ≠ 5) (h0 : k ≠ 0) : s.step.size + 1 = s.size ∧ s.step.good = true ∧ s.good = true := by
  match s, h with
  | .ok (t :: r) d, h =>
    have h5 : t.tk.kind ≠ 5 := by have : t.tk.kind = k := h; omega
    simp [Ps.step, h5, Ps.size, Ps.good]
  | .ok [] d, h => exact absurd h.symm h0
  | .bad e a, h => exact absurd h.symm h0
theorem size_fail (e : Int) (s : Ps) : (s.fail e).size ≤ s.size := by
  match s with
  | .ok (t :: r) d => simp [Ps.fail, Ps.size]
  | .ok [] d => simp [Ps.fail, Ps.size]
  | .bad e a => exact Nat.le_refl _
theorem size_may (k : Nat) (c : ByteArray) (s : Ps) : (s.may k c).2.size ≤ s.size := by
  unfold Ps.may
  split
  · exact size_step s
  · exact Nat.le_refl _
theorem size_need (k : Nat) (c : ByteArray) (s : Ps) : (s.need k c).size ≤ s.size := by
  unfold Ps.need
  split
  · exact size_step s
  · exact size_fail _ s
theorem size_down (s : Ps) : s.down.size ≤ s.size := by
  match s with
  | .ok l d => simp only [Ps.down]; split; exact size_fail _ _; exact Nat.le_refl _
  | .bad e a => exact Nat.le_refl _
theorem down_good {s : Ps} (h : s.down.good = true) : s.down.size = s.size ∧ s.good = true ∧ s.down.headK = s.headK ∧ ∀ k c, s.down.is k c = s.is k c := by
  match s, h with
  | .ok l d, h =>
    simp only [Ps.down] at h ⊢
    split at h
    · cases l <;> cases h
    · rename_i hd
      rw [if_neg hd]
      refine ⟨rfl, rfl, ?_, fun k c => ?_⟩ <;> cases l <;> rfl
theorem size_up (s : Ps) : s.up.size = s.size := by cases s <;> rfl
theorem size_name (s : Ps) : s.name.2.size ≤ s.size := by
  unfold Ps.name
  split
  · exact size_step s
  · exact size_fail _ s
def NI {α : Type} (p : Pa α) : Prop := ∀ s, (p s).2.size ≤ s.size
theorem ni_lefts {ops : List (ByteArray × Int)} {k : Nat} {p : Pa Ex} (h : NI p) : ∀ n e s, (lefts ops k p n e s).2.size ≤ s.size
  | 0, e, s => Nat.le_refl _
  | n + 1, e, s => by
    unfold lefts
    split
    · exact Nat.le_trans (ni_lefts h n _ _) (Nat.le_trans (h _) (size_step s))
    · exact Nat.le_refl _
theorem ni_left {ops : List (ByteArray × Int)} {k : Nat} {p : Pa Ex} (h : NI p) : NI (left ops k p) := fun s => Nat.le_trans (ni_lefts h _ _ _) (h s)
theorem ni_ahead {k : Nat} {c : ByteArray} {op : Int} {p : Pa Ex} (h : NI p) : ∀ n s, (ahead k c op p n s).2.size ≤ s.size
  | 0, s => h s
  | n + 1, s => by
    unfold ahead
    split
    · split
      · simp only [size_up]
        exact Nat.le_trans (ni_ahead h n _) (Nat.le_trans (size_step _) (size_down s))
      · exact size_down s
    · exact h s
theorem ni_seps {α : Type} {p : Pa α} (h : NI p) : ∀ n l s, (seps p n l s).2.size ≤ s.size
  | 0, l, s => Nat.le_refl _
  | n + 1, l, s => by
    simp only [seps]
    split
    · exact Nat.le_trans (ni_seps h n _ _) (Nat.le_trans (size_step _) (h s))
    · exact h s
theorem ni_sep {α : Type} {p : Pa α} (h : NI p) : NI (sep p) := fun s => ni_seps h _ _ s
theorem ni_list {E : Pa Ex} (h : NI E) : NI (listS E) := fun s => by
  unfold listS
  split
  · split
    · simp only [size_up]
      exact Nat.le_trans (size_need _ _ _) (Nat.le_trans (ni_sep h _) (Nat.le_trans (size_step _) (size_down s)))
    · exact size_down s
  · exact size_fail _ s
theorem ni_compareT {p E : Pa Ex} (hp : NI p) (hE : NI E) (a : Ex) (s : Ps) : (compareT p E a s).2.size ≤ s.size := by
  unfold compareT
  split
  · exact Nat.le_trans (hp _) (size_step s)
  · split
    · exact Nat.le_trans (size_need _ _ _) (Nat.le_trans (size_may _ _ _) (size_step s))
    · simp only
      split
      · exact Nat.le_trans (ni_list hE _) (Nat.le_trans (size_step _) (size_may _ _ s))
      · split
        · simp only [betweens]
          exact Nat.le_trans (hp _) (Nat.le_trans (size_need _ _ _) (Nat.le_trans (hp _) (Nat.le_trans (size_step _) (size_may _ _ s))))
        · split
          · exact Nat.le_trans (size_fail _ _) (size_may _ _ s)
          · exact size_may _ _ s
theorem ni_compares {p E : Pa Ex} (hp : NI p) (hE : NI E) : NI (compares p E) := fun s => Nat.le_trans (ni_compareT hp hE _ _) (hp s)
theorem ni_call {E : Pa Ex} (hE : NI E) (nm : List UInt8) (s : Ps) : (callS E nm s).2.size ≤ s.size := by
  unfold callS
  split
  · simp only
    have h0 := Nat.le_trans (size_need 4 ⟨#[40]⟩ s.down.step) (Nat.le_trans (size_step _) (size_down s))
    split
    · simp only [size_up]
      exact Nat.le_trans (size_need _ _ _) (Nat.le_trans (size_step _) h0)
    · split
      · simp only [size_up]
        exact Nat.le_trans (size_need _ _ _) (Nat.le_trans (hE _) h0)
      · simp only [size_up]
        exact Nat.le_trans (size_need _ _ _) (Nat.le_trans (ni_sep hE _) h0)
  · exact size_down s
theorem ni_nameS : NI nameS := fun s => by
  unfold nameS
  simp only
  split
  · exact Nat.le_trans (size_name _) (Nat.le_trans (size_step _) (size_name s))
  · exact size_name s
theorem ni_single {E : Pa Ex} (hE : NI E) : NI (single E) := fun s => by
  unfold single
  split
  · exact size_step s
  split
  · exact size_step s
  split
  · exact size_step s
  split
  · exact size_step s
  split
  · exact size_step s
  split
  · split
    · simp only [size_up]
      exact Nat.le_trans (size_need _ _ _) (Nat.le_trans (hE _) (Nat.le_trans (size_step _) (size_down s)))
    · exact size_down s
  split
  · exact ni_call hE _ s
  · exact ni_nameS s
theorem ni_lvl {E : Pa Ex} (hE : NI E) : NI (lvl E) :=
  ni_left (ni_left (fun s => ni_ahead (ni_compares (ni_left (ni_left (fun s => ni_ahead (ni_single hE) _ s))) hE) _ s))
theorem ni_expr : ∀ n, NI (expr n)
  | 0 => ni_lvl (fun s => Nat.le_refl _)
  | n + 1 => ni_lvl (ni_expr n)
theorem ni_exprS : NI exprS := fun s => ni_expr _ s
end Go.Proofs.Ytaogpifcfmjcbaa
end
section
namespace Go.Proofs.Ytaogpifcfmjcbaa
set_option linter.unusedVariables false
structure ColS where
  name : ByteArray
  ty : Int
  nn : Bool
  uq : Bool
structure ItemS where
  star : Bool := false
  e : Ex
  as_ : ByteArray := ⟨#[]⟩
  name : ByteArray := ⟨#[]⟩
structure RefS where
  tab : ByteArray
  al : ByteArray
  on_ : Ex
structure OrdS where
  e : Ex
  desc : Bool
structure Stm where
  kind : Int := 0
  table : ByteArray := ⟨#[]⟩
  name : ByteArray := ⟨#[]⟩
  column : ByteArray := ⟨#[]⟩
  unique : Bool := false
  cols : List ColS := []
  columns : List ByteArray := []
  rows : List (List Ex) := []
  sets : List Ex := []
  explain : Bool := false
  distinct : Bool := false
  items : List ItemS := []
  refs : List RefS := []
  wher : Ex := noEx
  having : Ex := noEx
  group : List Ex := []
  order : List OrdS := []
  limit : Int := 0
  offset : Int := 0
def tyS (s : Ps) : Int × Ps :=
  if s.is 1 ⟨#[105, 110, 116]⟩ then (1, s.step) else if s.is 1 ⟨#[116, 101, 120, 116]⟩ then (2, s.step) else if s.is 1 ⟨#[98, 111, 111, 108]⟩ then (3, s.step) else (0, s.fail 180)
def nnS (s : Ps) : Bool × Ps := if s.is 1 ⟨#[110, 111, 116]⟩ then (true, s.step.need 1 ⟨#[110, 117, 108, 108]⟩) else (false, s)
def keyS (s : Ps) : Bool × Ps := if s.is 1 ⟨#[112, 114, 105, 109, 97, 114, 121]⟩ then (true, s.step.need 1 ⟨#[107, 101, 121]⟩) else (false, s)
def colS : Pa ColS := fun s =>
  let n := s.name
  let t := tyS n.2
  let nn := nnS t.2
  let u := nn.2.word ⟨#[117, 110, 105, 113, 117, 101]⟩
  let k := keyS u.2
  ({ name := n.1, ty := t.1, nn := nn.1 || k.1, uq := u.1 || k.1 }, k.2)
def tableS (s : Ps) : Stm × Ps :=
  let n := s.name
  let q := sep colS (n.2.need 4 ⟨#[40]⟩)
  ({ kind := 1, table := n.1, cols := q.1 }, q.2.need 4 ⟨#[41]⟩)
def clauseS (c : ByteArray) : Pa Ex := fun s => if s.is 1 c then exprS s.step else (noEx, s)
def rowS : Pa (List Ex) := fun s => let q := sep exprS (s.need 4 ⟨#[40]⟩); (q.1, q.2.need 4 ⟨#[41]⟩)
def namesS (s : Ps) : List ByteArray × Ps := if s.is 4 ⟨#[40]⟩ then (let q := sep Ps.name s.step; (q.1, q.2.need 4 ⟨#[41]⟩)) else ([], s)
def insertS (s : Ps) : Stm × Ps :=
  let n := (s.need 1 ⟨#[105, 110, 116, 111]⟩).name
  let c := namesS n.2
  let r := sep rowS (c.2.need 1 ⟨#[118, 97, 108, 117, 101, 115]⟩)
  ({ kind := 5, table := n.1, columns := c.1, rows := r.1 }, r.2)
def setS : Pa (ByteArray × Ex) := fun s => let n := s.name; let e := exprS (n.2.need 4 ⟨#[61]⟩); ((n.1, e.1), e.2)
def updateS (s : Ps) : Stm × Ps :=
  let n := s.name
  let q := sep setS (n.2.need 1 ⟨#[115, 101, 116]⟩)
  let w := clauseS ⟨#[119, 104, 101, 114, 101]⟩ q.2
  ({ kind := 6, table := n.1, columns := q.1.map Prod.fst, sets := q.1.map Prod.snd, wher := w.1 }, w.2)
def refS : Pa RefS := fun s =>
  let n := s.name
  if n.2.is 1 ⟨#[97, 115]⟩ then (let a := n.2.step.name; (⟨n.1, a.1, noEx⟩, a.2))
  else if n.2.isName then (let a := n.2.name; (⟨n.1, a.1, noEx⟩, a.2))
  else (⟨n.1, n.1, noEx⟩, n.2)
def itemS : Pa ItemS := fun s =>
  let e := exprS s
  if e.2.is 1 ⟨#[97, 115]⟩ then (let a := e.2.step.name; ({ e := e.1, as_ := a.1 }, a.2)) else ({ e := e.1 }, e.2)
def itemsS : Pa (List ItemS) := fun s => if s.is 4 ⟨#[42]⟩ then ([{ star := true, e := noEx }], s.step) else sep itemS s
def joinS : Pa RefS := fun s =>
  let r := refS ((s.word ⟨#[105, 110, 110, 101, 114]⟩).2.need 1 ⟨#[106, 111, 105, 110]⟩)
  let e := exprS (r.2.need 1 ⟨#[111, 110]⟩)
  ({ r.1 with on_ := e.1 }, e.2)
def joins : Nat → List RefS → Pa (List RefS)
  | 0, l, s => (l, s)
  | n + 1, l, s => if s.is 1 ⟨#[105, 110, 110, 101, 114]⟩ || s.is 1 ⟨#[106, 111, 105, 110]⟩ then (let q := joinS s; joins n (l ++ [q.1]) q.2) else (l, s)
def fromS : Pa (List RefS) := fun s => let r := refS s; joins r.2.size [r.1] r.2
def groupS : Pa (List Ex) := fun s => if s.is 1 ⟨#[103, 114, 111, 117, 112]⟩ then sep exprS (s.step.need 1 ⟨#[98, 121]⟩) else ([], s)
def ordS : Pa OrdS := fun s =>
  let e := exprS s
  if e.2.is 1 ⟨#[97, 115, 99]⟩ then (⟨e.1, false⟩, e.2.step) else (let d := e.2.word ⟨#[100, 101, 115, 99]⟩; (⟨e.1, d.1⟩, d.2))
def orderS : Pa (List OrdS) := fun s => if s.is 1 ⟨#[111, 114, 100, 101, 114]⟩ then sep ordS (s.step.need 1 ⟨#[98, 121]⟩) else ([], s)
def offS : Pa Int := fun s => if s.is 1 ⟨#[111, 102, 102, 115, 101, 116]⟩ then s.step.num else (0, s)
def limitS : Pa (Int × Int) := fun s => if s.is 1 ⟨#[108, 105, 109, 105, 116]⟩ then (let n := s.step.num; let m := offS n.2; ((n.1, m.1), m.2)) else ((-1, 0), s)
def queryS (s : Ps) : Stm × Ps :=
  let x := s.word ⟨#[101, 120, 112, 108, 97, 105, 110]⟩
  let d := (x.2.need 1 ⟨#[115, 101, 108, 101, 99, 116]⟩).word ⟨#[100, 105, 115, 116, 105, 110, 99, 116]⟩
  let i := itemsS d.2
  let f := fromS (i.2.need 1 ⟨#[102, 114, 111, 109]⟩)
  let w := clauseS ⟨#[119, 104, 101, 114, 101]⟩ f.2
  let g := groupS w.2
  let h := clauseS ⟨#[104, 97, 118, 105, 110, 103]⟩ g.2
  let o := orderS h.2
  let l := limitS o.2
  ({ kind := 8, explain := x.1, distinct := d.1, items := i.1, refs := f.1, wher := w.1, group := g.1, having := h.1, order := o.1, limit := l.1.1, offset := l.1.2 }, l.2)
def indexS (s : Ps) : Stm × Ps :=
  let u := s.word ⟨#[117, 110, 105, 113, 117, 101]⟩
  let n := (u.2.need 1 ⟨#[105, 110, 100, 101, 120]⟩).name
  let t := (n.2.need 1 ⟨#[111, 110]⟩).name
  let c := (t.2.need 4 ⟨#[40]⟩).name
  ({ kind := 3, unique := u.1, name := n.1, table := t.1, column := c.1 }, c.2.need 4 ⟨#[41]⟩)
def deleteS (s : Ps) : Stm × Ps :=
  let n := (s.need 1 ⟨#[102, 114, 111, 109]⟩).name
  let w := clauseS ⟨#[119, 104, 101, 114, 101]⟩ n.2
  ({ kind := 7, table := n.1, wher := w.1 }, w.2)
def nameK (k : Int) (s : Ps) : Stm × Ps := let n := s.name; ({ kind := k, name := n.1 }, n.2)
def dropS (s : Ps) : Stm × Ps :=
  if s.is 1 ⟨#[116, 97, 98, 108, 101]⟩ then (let n := s.step.name; ({ kind := 2, table := n.1 }, n.2)) else nameK 4 (s.need 1 ⟨#[105, 110, 100, 101, 120]⟩)
def backS (s : Ps) : Stm × Ps := if s.is 1 ⟨#[116, 111]⟩ then nameK 13 s.step else ({ kind := 11 }, s)
def createS (s : Ps) : Stm × Ps := if s.is 1 ⟨#[116, 97, 98, 108, 101]⟩ then tableS s.step else indexS s
def stmS (s : Ps) : Stm × Ps :=
  if s.is 1 ⟨#[99, 114, 101, 97, 116, 101]⟩ then createS s.step
  else if s.is 1 ⟨#[100, 114, 111, 112]⟩ then dropS s.step
  else if s.is 1 ⟨#[114, 111, 108, 108, 98, 97, 99, 107]⟩ then backS s.step
  else if s.is 1 ⟨#[105, 110, 115, 101, 114, 116]⟩ then insertS s.step
  else if s.is 1 ⟨#[117, 112, 100, 97, 116, 101]⟩ then updateS s.step
  else if s.is 1 ⟨#[100, 101, 108, 101, 116, 101]⟩ then deleteS s.step
  else if s.is 1 ⟨#[101, 120, 112, 108, 97, 105, 110]⟩ then queryS s
  else if s.is 1 ⟨#[115, 101, 108, 101, 99, 116]⟩ then queryS s
  else if s.is 1 ⟨#[98, 101, 103, 105, 110]⟩ then ({ kind := 9 }, s.step)
  else if s.is 1 ⟨#[99, 111, 109, 109, 105, 116]⟩ then ({ kind := 10 }, s.step)
  else if s.is 1 ⟨#[115, 97, 118, 101, 112, 111, 105, 110, 116]⟩ then nameK 12 s.step
  else if s.is 1 ⟨#[114, 101, 108, 101, 97, 115, 101]⟩ then nameK 14 s.step
  else ({}, s.fail 180)
theorem ni_tyS (s : Ps) : (tyS s).2.size ≤ s.size := by
  unfold tyS
  repeat' split
  · exact size_step s
  · exact size_step s
  · exact size_step s
  · exact size_fail _ s
theorem ni_nnS (s : Ps) : (nnS s).2.size ≤ s.size := by
  unfold nnS
  split
  · exact Nat.le_trans (size_need _ _ _) (size_step s)
  · exact Nat.le_refl _
theorem ni_keyS (s : Ps) : (keyS s).2.size ≤ s.size := by
  unfold keyS
  split
  · exact Nat.le_trans (size_need _ _ _) (size_step s)
  · exact Nat.le_refl _
theorem ni_colS : NI colS := fun s =>
  Nat.le_trans (ni_keyS _) (Nat.le_trans (size_may _ _ _) (Nat.le_trans (ni_nnS _) (Nat.le_trans (ni_tyS _) (size_name s))))
theorem ni_name : NI Ps.name := size_name
theorem ni_clauseS (c : ByteArray) : NI (clauseS c) := fun s => by
  unfold clauseS
  split
  · exact Nat.le_trans (ni_exprS _) (size_step s)
  · exact Nat.le_refl _
theorem ni_rowS : NI rowS := fun s => Nat.le_trans (size_need _ _ _) (Nat.le_trans (ni_sep ni_exprS _) (size_need _ _ _))
theorem ni_setS : NI setS := fun s => Nat.le_trans (ni_exprS _) (Nat.le_trans (size_need _ _ _) (size_name s))
theorem ni_refS : NI refS := fun s => by
  unfold refS
  simp only
  split
  · exact Nat.le_trans (size_name _) (Nat.le_trans (size_step _) (size_name s))
  · split
    · exact Nat.le_trans (size_name _) (size_name s)
    · exact size_name s
theorem ni_itemS : NI itemS := fun s => by
  unfold itemS
  simp only
  split
  · exact Nat.le_trans (size_name _) (Nat.le_trans (size_step _) (ni_exprS s))
  · exact ni_exprS s
theorem ni_itemsS : NI itemsS := fun s => by
  unfold itemsS
  split
  · exact size_step s
  · exact ni_sep ni_itemS s
theorem ni_joinS : NI joinS := fun s => Nat.le_trans (ni_exprS _) (Nat.le_trans (size_need _ _ _) (Nat.le_trans (ni_refS _) (Nat.le_trans (size_need _ _ _) (size_may _ _ _))))
theorem ni_joins : ∀ n l s, (joins n l s).2.size ≤ s.size
  | 0, l, s => Nat.le_refl _
  | n + 1, l, s => by
    unfold joins
    split
    · exact Nat.le_trans (ni_joins n _ _) (ni_joinS s)
    · exact Nat.le_refl _
theorem ni_groupS : NI groupS := fun s => by
  unfold groupS
  split
  · exact Nat.le_trans (ni_sep ni_exprS _) (Nat.le_trans (size_need _ _ _) (size_step s))
  · exact Nat.le_refl _
theorem ni_ordS : NI ordS := fun s => by
  unfold ordS
  simp only
  split
  · exact Nat.le_trans (size_step _) (ni_exprS s)
  · exact Nat.le_trans (size_may _ _ _) (ni_exprS s)
theorem join_less {s : Ps} (h : (s.is 1 ⟨#[105, 110, 110, 101, 114]⟩ || s.is 1 ⟨#[106, 111, 105, 110]⟩) = true) : (joinS s).2.size < s.size := by
  have h0 : (joinS s).2.size ≤ ((s.word ⟨#[105, 110, 110, 101, 114]⟩).2.need 1 ⟨#[106, 111, 105, 110]⟩).size := Nat.le_trans (ni_exprS _) (Nat.le_trans (size_need _ _ _) (ni_refS _))
  refine Nat.lt_of_le_of_lt h0 ?_
  cases hi : s.is 1 ⟨#[105, 110, 110, 101, 114]⟩ with
  | true =>
    have := (is_step hi (by decide)).1
    have e : (s.word ⟨#[105, 110, 110, 101, 114]⟩).2 = s.step := by simp [Ps.word, Ps.may, hi]
    rw [e]
    have := size_need 1 ⟨#[106, 111, 105, 110]⟩ s.step
    omega
  | false =>
    rw [hi] at h
    have hj : s.is 1 ⟨#[106, 111, 105, 110]⟩ = true := by simpa using h
    have := (is_step hj (by decide)).1
    have e : (s.word ⟨#[105, 110, 110, 101, 114]⟩).2 = s := by simp [Ps.word, Ps.may, hi]
    have e2 : s.need 1 ⟨#[106, 111, 105, 110]⟩ = s.step := by simp [Ps.need, hj]
    rw [e, e2]
    omega
end Go.Proofs.Ytaogpifcfmjcbaa
end
section
namespace Go.Rg
open Go Go.RowKit
set_option linter.unusedSimpArgs false
abbrev Up (w w' : World) : Prop := Below w.heap.size w w'
theorem Up.trans {a b c : World} (h : Up a b) (k : Up b c) : Up a c := Below.trans h (Below.mono k h.size)
section
variable {P : Program} {ops : Array Oper} {md : Region.Mode} {W : World} {Q : Exit → Act → World → Prop} {tl : Nat}
def Brings (P : Program) (w0 : World) (v : Value) : Result Next → Prop
  | .ok (.value u) w => u = v ∧ Up w0 w
  | .ok .skip w => undef = v ∧ Up w0 w
  | .ok (.enter f args) w => Calls P f args w fun e w' => e = .returned v ∧ Up w0 w'
  | _ => False
theorem brings_value {u v : Value} {w0 w : World} : Brings P w0 v (.ok (.value u) w) = (u = v ∧ Up w0 w) := rfl
theorem brings_skip {v : Value} {w0 w : World} : Brings P w0 v (.ok .skip w) = (undef = v ∧ Up w0 w) := rfl
theorem brings_enter {f : FuncId} {args : Array Value} {v : Value} {w0 w : World} : Brings P w0 v (.ok (.enter f args) w) = Calls P f args w fun e w' => e = .returned v ∧ Up w0 w' := rfl
def DetAt (P : Program) (ops : Array Oper) (W : World) (o : Oper) (v : Value) (a : Act) : Prop :=
  (Region.wanted o (yielded ops a.tmps) = true ∧ ∀ w, Up W w → Brings P w v ((execOp a.eval o).run P w)) ∨
  (Region.wanted o (yielded ops a.tmps) = false ∧ v = undef)
def LayAt (P : Program) (ops : Array Oper) (o : Oper) (ob : Obj) (a : Act) : Prop :=
  Region.wanted o (yielded ops a.tmps) = true ∧ ∀ w, (execOp a.eval o).run P w = .ok (.value (.pointer (some ⟨w.heap.size, 0, none⟩))) (w.alloc ob)
theorem DetAt.of_same {o : Oper} {v : Value} {a a' : Act} (hy : DetAt P ops W o v a) (he : execOp a'.eval o = execOp a.eval o)
    (hw : Region.wanted o (yielded ops a'.tmps) = Region.wanted o (yielded ops a.tmps)) : DetAt P ops W o v a' := by
  unfold DetAt at *
  rw [he, hw]
  exact hy
theorem LayAt.of_same {o : Oper} {ob : Obj} {a a' : Act} (hy : LayAt P ops o ob a) (he : execOp a'.eval o = execOp a.eval o)
    (hw : Region.wanted o (yielded ops a'.tmps) = Region.wanted o (yielded ops a.tmps)) : LayAt P ops o ob a' := by
  unfold LayAt at *
  rw [he, hw]
  exact hy
theorem DetAt.wpOp {i : Nat} {o : Oper} {v : Value} {a : Act} {w : World} {Q : Exit → Act → World → Prop} (hi : ops[i]? = some o) (hy : DetAt P ops W o v a) (hS : Up W w)
    {K : Act → World → Prop} (h : ∀ w', Up w w' → K (a.put o.dst v) w') : wpOp P ops Q i K a w := by
  unfold Go.wpOp
  simp only [hi]
  rcases hy with ⟨hw, hv⟩ | ⟨hw, rfl⟩
  · simp only [hw, if_true]
    refine .inl ?_
    unfold Oper.wp
    have h1 := hv w hS
    generalize (execOp a.eval o).run P w = r at *
    cases r with
    | ok n w' =>
      cases n <;> simp only [Brings] at h1 <;> simp only [Oper.upon]
      case value u => obtain ⟨rfl, h2⟩ := h1; exact h _ h2
      case skip => obtain ⟨rfl, h2⟩ := h1; exact h _ h2
      case enter f args => exact h1.mono fun e w'' ⟨he, h2⟩ => by subst he; exact h _ h2
    | halt x w' => simp only [Brings] at h1
  · simp only [hw, Bool.false_eq_true, if_false]; exact h _ (Below.refl _ _)
theorem LayAt.wpOp {i : Nat} {o : Oper} {ob : Obj} {a : Act} {w : World} {Q : Exit → Act → World → Prop} (hi : ops[i]? = some o) (hy : LayAt P ops o ob a)
    {K : Act → World → Prop} (h : K (a.put o.dst (.pointer (some ⟨w.heap.size, 0, none⟩))) (w.alloc ob)) : wpOp P ops Q i K a w := by
  unfold Go.wpOp
  simp only [hi]
  obtain ⟨hw, hv⟩ := hy
  simp only [hw, if_true]
  refine .inl ?_
  unfold Oper.wp
  rw [hv w]
  exact h
def Lain (w : World) : List (Nat × Obj) → Prop
  | [] => True
  | p :: r => w.heap[p.1]? = some p.2 ∧ Lain w r
theorem Lain.up {w w' : World} (h : Up w w') : ∀ {l : List (Nat × Obj)}, Lain w l → Lain w' l
  | [], _ => trivial
  | p :: r, hl => by
    refine ⟨?_, Lain.up h hl.2⟩
    have hlt : p.1 < w.heap.size := (Array.getElem?_eq_some_iff.1 hl.1).1
    have h1 := h.block p.1 hlt
    rw [h1]; exact hl.1
theorem heap_new (w : World) (o : Obj) : (w.alloc o).heap[w.heap.size]? = some o := by
  show (w.heap.push o)[w.heap.size]? = some o
  simp
theorem blk_cells {w : World} {g : Nat} {cs : Array Value} {T : TypeId} (h : w.heap[g]? = some (.cells cs T)) : ∀ i, w.cell? ⟨g, i, none⟩ = cs[i]? := fun i => by simp [World.cell?, h]
theorem blk_free {w : World} {g : Nat} {cs : Array Value} {T : TypeId} (h : w.heap[g]? = some (.cells cs T)) : ∀ i, w.frozen? ⟨g, i, none⟩ = false := fun i => by simp [World.frozen?, h]
def more (U : Nat → Prop) (g : Nat) : Nat → Prop := fun k => k = g ∨ U k
abbrev Fin := (Nat → Prop) → (World → Prop) → Array Bool → Act → Prop
def sinkF (md : Region.Mode) (ops : Array Oper) (n : Nat) (F : List Nat) : Bool :=
  (List.range n).all fun i => F.contains i || (List.range (n + 1)).any fun j => decide (i < j) && !F.contains j && Region.waitsFor md ops j i
theorem tail_waitsF {n : Nat} {F : List Nat} {listed : Array Bool} (hs : sinkF md ops n F = true) (hc : Region.chainB md ops n = true) (hn : n < ops.size) (inv : HeadInv md ops n listed) :
    ∀ (d i : Nat), n - i = d → i < n → i ∉ F → listed.getD i true = false → ∀ t, n ≤ t → t ∉ Region.ready md ops listed := by
  intro d
  induction d using Nat.strongRecOn with
  | _ d ih =>
    intro i hd hi hiF hun t ht hr
    obtain ⟨_, ot, hot, hall⟩ := mem_ready.1 hr
    have htlt : t < ops.size := (Array.getElem?_eq_some_iff.1 hot).1
    by_cases htn : t = n
    · subst htn
      have h1 := List.all_eq_true.1 hs i (List.mem_range.2 hi)
      rw [Bool.or_eq_true] at h1
      rcases h1 with h1 | h1
      · exact hiF (by simpa using h1)
      obtain ⟨j, hj, hj2⟩ := List.any_eq_true.1 h1
      simp only [Bool.and_eq_true, decide_eq_true_eq, Bool.not_eq_true'] at hj2
      obtain ⟨oj, hoj, e, he, hb, hon⟩ := Region.waitsFor_spec hj2.2
      have hjF : j ∉ F := by have := hj2.1.2; simpa using this
      have hjle : j ≤ t := by have := List.mem_range.1 hj; omega
      by_cases hjt : j = t
      · subst hjt
        have : oj = ot := Option.some.inj (hoj.symm.trans hot)
        subst this
        have h2 := hall e he hb
        rw [hon, getD_both hun] at h2
        cases h2
      · cases hl : listed.getD j false with
        | true =>
          have h2 := inv.closed j oj hoj hl e he hb
          rw [hon, getD_both hun] at h2
          cases h2
        | false =>
          have hjs : j < listed.size := by rw [inv.size]; omega
          exact ih (t - j) (by omega) j rfl (by omega) hjF (getD_in hjs hl) t (Nat.le_refl _) hr
    · have h1 := List.all_eq_true.1 hc t (List.mem_range.2 htlt)
      simp only [Bool.or_eq_true, decide_eq_true_eq] at h1
      rcases h1 with h1 | h1
      · omega
      · obtain ⟨o', ho', e, he, hb, hon⟩ := Region.waitsFor_spec h1
        have : o' = ot := Option.some.inj (ho'.symm.trans hot)
        subst this
        have h2 := hall e he hb
        rw [hon, getD_both (inv.tail (t - 1) (by omega) (by omega))] at h2
        cases h2
theorem DetAt.put {oi oj : Oper} {v u : Value} {a : Act} (hap : oi.apart ops oj = true) (hsi : ∀ cs b, oi.op ≠ .select cs b)
    (hy : DetAt P ops W oi v a) : DetAt P ops W oi v (a.put oj.dst u) := by
  obtain ⟨h1, h2, h3⟩ := Oper.apart_spec hap
  exact hy.of_same (execOp_put oi hsi a oj.dst u h3) (wanted_put oi a oj.dst u h3)
theorem LayAt.put {oi oj : Oper} {ob : Obj} {u : Value} {a : Act} (hap : oi.apart ops oj = true) (hsi : ∀ cs b, oi.op ≠ .select cs b)
    (hy : LayAt P ops oi ob a) : LayAt P ops oi ob (a.put oj.dst u) := by
  obtain ⟨h1, h2, h3⟩ := Oper.apart_spec hap
  exact hy.of_same (execOp_put oi hsi a oj.dst u h3) (wanted_put oi a oj.dst u h3)
end
end Go.Rg
end
section
namespace Go.Rg
open Go Go.RowKit
set_option linter.unusedSimpArgs false
section
variable {P : Program} {ops : Array Oper} {md : Region.Mode} {W : World} {Q : Exit → Act → World → Prop}
def backB (md : Region.Mode) (o : Oper) (k : Nat) : Bool := o.after.all fun e => !Region.binds md e || decide (e.on < k)
def sightB (md : Region.Mode) (ops : Array Oper) (o : Oper) (k : Nat) : List Oper → Bool
  | [] => true
  | oj :: r => (oj.after.any (fun e => Region.binds md e && e.on == k) || o.apart ops oj) && sightB md ops o k r
def textL (md : Region.Mode) (ops : Array Oper) : Nat → List Oper → Nat → Bool
  | 0, _, _ => true
  | _ + 1, [], _ => false
  | n + 1, o :: r, k => backB md o k && sightB md ops o k r && textL md ops n r (k + 1)
structure FirstK (ops : Array Oper) (listed : Array Bool) (k : Nat) : Prop where
  size : listed.size = ops.size
  at_ : ∀ j, j < ops.size → listed.getD j true = decide (j < k)
theorem FirstK.set {listed : Array Bool} {k : Nat} (h : FirstK ops listed k) (hk : k < ops.size) : FirstK ops (listed.setIfInBounds k true) (k + 1) := by
  refine ⟨by simp [h.size], fun j hj => ?_⟩
  by_cases e : k = j
  · subst e
    have hl : k < listed.size := by rw [h.size]; exact hk
    simp [hl]
  · rw [getD_set_ne true e, h.at_ j hj]
    by_cases h1 : j < k
    · simp [h1]; omega
    · simp [h1]; omega
end
end Go.Rg
end
section
namespace Go.Rg
open Go Go.RowKit
set_option linter.unusedSimpArgs false
def blk : Value → Option Nat
  | .pointer (some a) => some a.block
  | .slice (some a) _ _ => some a.block
  | _ => none
def BringsG (P : Program) (w0 : World) (G : Value → World → Prop) (fr : Bool) : Result Next → Prop
  | .ok (.value u) w => G u w ∧ Up w0 w ∧ (fr = true → ∀ g, blk u = some g → w0.heap.size ≤ g ∧ g < w.heap.size)
  | .ok (.enter f args) w => Calls P f args w fun e w' => ∃ u, e = .returned u ∧ G u w' ∧ Up w0 w' ∧ (fr = true → ∀ g, blk u = some g → w0.heap.size ≤ g ∧ g < w'.heap.size)
  | _ => False
theorem bringsG_value {P : Program} {G : Value → World → Prop} {fr : Bool} {u : Value} {w0 w : World} : BringsG P w0 G fr (.ok (.value u) w) = (G u w ∧ Up w0 w ∧ (fr = true → ∀ g, blk u = some g → w0.heap.size ≤ g ∧ g < w.heap.size)) := rfl
theorem bringsG_enter {P : Program} {G : Value → World → Prop} {fr : Bool} {f : FuncId} {args : Array Value} {w0 w : World} : BringsG P w0 G fr (.ok (.enter f args) w) = Calls P f args w fun e w' => ∃ u, e = .returned u ∧ G u w' ∧ Up w0 w' ∧ (fr = true → ∀ g, blk u = some g → w0.heap.size ≤ g ∧ g < w'.heap.size) := rfl
def Dat (Ds : List (Nat × List Nat)) (i : Nat) : List Nat := match Ds with
  | [] => []
  | p :: r => if p.1 = i then p.2 else Dat r i
def upd (v : Nat → Value) (k : Nat) (u : Value) : Nat → Value := fun j => if j = k then u else v j
def valOf (K : List (Option Value)) (v : Nat → Value) (i : Nat) : Value := ((K[i]?).getD none).getD (v i)
def putL (S : Nat → Bool) (f : Nat → Value) : List Oper → Nat → Act → Act
  | [], _, a => a
  | o :: r, i, a => putL S f r (i + 1) (if S i then a.put o.dst (f i) else a)
theorem put_size (a : Act) (d : Option Tmp) (u : Value) : (a.put d u).tmps.size = a.tmps.size := by cases d <;> simp [Act.put]
theorem put_same {a a' : Act} {t : Tmp} (d : Option Tmp) (u : Value) (hs : a.tmps.size = a'.tmps.size) (h : a.tmps[t]? = a'.tmps[t]?) : (a.put d u).tmps[t]? = (a'.put d u).tmps[t]? := by
  cases d with
  | none => exact h
  | some e =>
    by_cases he : e = t
    · subst he
      simp only [Act.put, Array.getElem?_setIfInBounds_self, hs]
    · simp only [Act.put, Array.getElem?_setIfInBounds_ne he]; exact h
theorem put_other {a : Act} {t : Tmp} {d : Option Tmp} (u : Value) (h : d ≠ some t) : (a.put d u).tmps[t]? = a.tmps[t]? := by
  cases d with
  | none => rfl
  | some e =>
    have he : e ≠ t := fun x => h (by rw [x])
    simp only [Act.put, Array.getElem?_setIfInBounds_ne he]
theorem putL_same {S S' : Nat → Bool} {f : Nat → Value} {t : Tmp} : ∀ (l : List Oper) (i : Nat) (a a' : Act), a.tmps.size = a'.tmps.size → a.tmps[t]? = a'.tmps[t]? →
    (∀ k o, l[k]? = some o → o.dst = some t → S (i + k) = S' (i + k)) → (putL S f l i a).tmps[t]? = (putL S' f l i a').tmps[t]?
  | [], _, _, _, _, h, _ => h
  | o :: r, i, a, a', hs, h, hw => by
    unfold putL
    refine putL_same r (i + 1) _ _ ?_ ?_ (fun k o' ho' hd => by have := hw (k + 1) o' (by simpa using ho') hd; rw [show i + 1 + k = i + (k + 1) by omega]; exact this)
    · split <;> split <;> simp only [put_size, hs]
    · by_cases hd : o.dst = some t
      · have h0 := hw 0 o rfl hd
        rw [Nat.add_zero] at h0
        rw [h0]
        split
        · exact put_same _ _ hs h
        · exact h
      · have e1 : (if S i then a.put o.dst (f i) else a).tmps[t]? = a.tmps[t]? := by split; exact put_other _ hd; rfl
        have e2 : (if S' i then a'.put o.dst (f i) else a').tmps[t]? = a'.tmps[t]? := by split; exact put_other _ hd; rfl
        rw [e1, e2]; exact h
theorem putL_none {S : Nat → Bool} {f : Nat → Value} : ∀ (l : List Oper) (i : Nat) (a : Act), (∀ k, k < l.length → S (i + k) = false) → putL S f l i a = a
  | [], _, _, _ => rfl
  | o :: r, i, a, h => by
    unfold putL
    have h0 := h 0 (by simp)
    rw [Nat.add_zero] at h0
    rw [h0]
    simp only [Bool.false_eq_true, if_false]
    exact putL_none r (i + 1) a (fun k hk => by have := h (k + 1) (by simp; omega); rw [show i + 1 + k = i + (k + 1) by omega]; exact this)
theorem putL_congr {S S' : Nat → Bool} {f f' : Nat → Value} : ∀ (l : List Oper) (i : Nat) (a : Act), (∀ k, k < l.length → S (i + k) = S' (i + k) ∧ (S (i + k) = true → f (i + k) = f' (i + k))) → putL S f l i a = putL S' f' l i a
  | [], _, _, _ => rfl
  | o :: r, i, a, h => by
    unfold putL
    have h0 := h 0 (by simp)
    rw [Nat.add_zero] at h0
    have e : (if S i then a.put o.dst (f i) else a) = (if S' i then a.put o.dst (f' i) else a) := by
      rw [← h0.1]
      split
      · rename_i hs; rw [h0.2 hs]
      · rfl
    rw [e]
    exact putL_congr r (i + 1) _ (fun k hk => by have := h (k + 1) (by simp; omega); rw [show i + 1 + k = i + (k + 1) by omega]; exact this)
theorem putL_put {S : Nat → Bool} {f : Nat → Value} {x : Option Tmp} {u : Value} : ∀ (l : List Oper) (i : Nat) (a : Act), (∀ (k : Nat) (o : Oper), l[k]? = some o → ∀ d, x = some d → o.dst ≠ some d) → putL S f l i (a.put x u) = (putL S f l i a).put x u
  | [], _, _, _ => rfl
  | o :: r, i, a, h => by
    unfold putL
    have e : (if S i then (a.put x u).put o.dst (f i) else a.put x u) = (if S i then a.put o.dst (f i) else a).put x u := by
      split
      · exact Act.put_comm a _ _ (fun d hd => h 0 o rfl d hd)
      · rfl
    rw [e]
    exact putL_put r (i + 1) _ (fun k o' ho' => h (k + 1) o' (by simpa using ho'))
theorem putL_more {S S' : Nat → Bool} {f f' : Nat → Value} : ∀ (l : List Oper) (i : Nat) (a : Act) (m : Nat) (o : Oper) (u : Value), l[m]? = some o → S (i + m) = false → S' (i + m) = true → f' (i + m) = u →
    (∀ k, k ≠ m → S' (i + k) = S (i + k) ∧ f' (i + k) = f (i + k)) → (∀ k o', k ≠ m → l[k]? = some o' → ∀ d, o.dst = some d → o'.dst ≠ some d) → (putL S f l i a).put o.dst u = putL S' f' l i a
  | [], _, _, _, _, _, h, _, _, _, _, _ => by simp at h
  | o0 :: r, i, a, 0, o, u, h, h1, h2, h3, h4, h5 => by
    have e0 : o0 = o := by simpa using h
    subst e0
    rw [Nat.add_zero] at h1 h2 h3
    unfold putL
    rw [h1, h2, h3]
    simp only [Bool.false_eq_true, if_false, if_true]
    rw [putL_congr (S := S') (S' := S) (f := f') (f' := f) r (i + 1) _ (fun k _ => by have := h4 (k + 1) (by omega); rw [show i + 1 + k = i + (k + 1) by omega]; exact ⟨this.1, fun _ => this.2⟩)]
    exact (putL_put r (i + 1) a (fun k o' ho' => h5 (k + 1) o' (by omega) (by simpa using ho'))).symm
  | o0 :: r, i, a, m + 1, o, u, h, h1, h2, h3, h4, h5 => by
    unfold putL
    have h0 := h4 0 (by omega)
    rw [Nat.add_zero] at h0
    rw [h0.1, h0.2]
    exact putL_more r (i + 1) _ m o u (by simpa using h) (by rw [show i + 1 + m = i + (m + 1) by omega]; exact h1) (by rw [show i + 1 + m = i + (m + 1) by omega]; exact h2) (by rw [show i + 1 + m = i + (m + 1) by omega]; exact h3)
      (fun k hk => by have := h4 (k + 1) (by omega); rw [show i + 1 + k = i + (k + 1) by omega]; exact this) (fun k o' hk ho' => h5 (k + 1) o' (by omega) (by simpa using ho'))
section
variable {P : Program} {ops : Array Oper} {md : Region.Mode} {W : World} {Q : Exit → Act → World → Prop}
def pairB (md : Region.Mode) (ops : Array Oper) (o : Oper) (i : Nat) (o' : Oper) (j : Nat) : Bool :=
  decide (i = j) || (match o'.dst with
    | some d => o.dst != some d && (!(o.looksAt ops).contains d || o.after.any (fun e => Region.binds md e && e.on == j))
    | none => true)
def rowB (md : Region.Mode) (ops : Array Oper) (o : Oper) (i : Nat) : List Oper → Nat → Bool
  | [], _ => true
  | o' :: r, j => pairB md ops o i o' j && rowB md ops o i r (j + 1)
def fltB (md : Region.Mode) (ops : Array Oper) (n : Nat) (F : List Nat) (o : Oper) (i : Nat) : List Oper → Nat → Bool
  | [], _ => true
  | o' :: r, j => (decide (j ≤ i) || (decide (j < n) && !F.contains j) || o'.after.any (fun e => Region.binds md e && e.on == i) || o.apart ops o') && fltB md ops n F o i r (j + 1)
def allB (md : Region.Mode) (ops : Array Oper) (all : List Oper) (pre : List Oper) (n : Nat) (F : List Nat) (Ds : List (Nat × List Nat)) : List Oper → Nat → Bool
  | [], _ => true
  | o :: r, i => backB md o i && (match o.dst with | some d => !(o.looksAt ops).contains d | none => true) && rowB md ops o i pre 0 && (Dat Ds i).all (fun k => o.after.any (fun e => Region.binds md e && e.on == k)) &&
      (!F.contains i || fltB md ops n F o i all 0) && allB md ops all pre n F Ds r (i + 1)
def typedB (l : List Oper) (n : Nat) (F : List Nat) (Ds : List (Nat × List Nat)) (Fr : List Nat) : Bool :=
  Ds.all (fun p => p.2.all fun k => Fr.contains k) && Region.noSelect l.toArray && decide (n < l.length) && sinkF .any l.toArray n F && Region.chainB .any l.toArray n && allB .any l.toArray l (l.take n) n F Ds (l.take n) 0 &&
    Region.seqB .any l.toArray (l.length - n) n ((List.replicate n true ++ List.replicate (l.length - n) false).toArray)
theorem rowB_spec {o : Oper} {i : Nat} : ∀ (l : List Oper) (j : Nat), rowB md ops o i l j = true → ∀ k o', l[k]? = some o' → pairB md ops o i o' (j + k) = true
  | [], _, _, k, o', h => by simp at h
  | x :: r, j, h, 0, o', ho => by
    have e : x = o' := by simpa using ho
    subst e
    simp only [rowB, Bool.and_eq_true] at h
    simpa using h.1
  | x :: r, j, h, k + 1, o', ho => by
    simp only [rowB, Bool.and_eq_true] at h
    have := rowB_spec r (j + 1) h.2 k o' (by simpa using ho)
    rw [show j + (k + 1) = j + 1 + k by omega]; exact this
structure OneB (md : Region.Mode) (ops : Array Oper) (all pre : List Oper) (n : Nat) (F : List Nat) (Ds : List (Nat × List Nat)) (o : Oper) (i : Nat) : Prop where
  back : backB md o i = true
  own : ∀ d, o.dst = some d → d ∉ o.looksAt ops
  row : rowB md ops o i pre 0 = true
  deps : ∀ k ∈ Dat Ds i, o.after.any (fun e => Region.binds md e && e.on == k) = true
  flt : i ∈ F → fltB md ops n F o i all 0 = true
theorem allB_spec {all pre : List Oper} {n : Nat} {F : List Nat} {Ds : List (Nat × List Nat)} : ∀ (l : List Oper) (i : Nat), allB md ops all pre n F Ds l i = true → ∀ k o, l[k]? = some o → OneB md ops all pre n F Ds o (i + k)
  | [], _, _, k, o, h => by simp at h
  | x :: r, i, h, 0, o, ho => by
    have e : x = o := by simpa using ho
    subst e
    simp only [allB, Bool.and_eq_true] at h
    obtain ⟨⟨⟨⟨⟨h1, h2⟩, h3⟩, h4⟩, h5⟩, _⟩ := h
    refine ⟨h1, fun d hd => ?_, h3, fun k hk => List.all_eq_true.1 h4 k hk, fun hF => ?_⟩
    · rw [hd] at h2; simpa using h2
    · rw [Nat.add_zero] at hF ⊢
      simp only [Bool.or_eq_true, Bool.not_eq_true'] at h5
      rcases h5 with h5 | h5
      · have : F.contains i = true := by simpa using hF
        rw [this] at h5; cases h5
      · exact h5
  | x :: r, i, h, k + 1, o, ho => by
    simp only [allB, Bool.and_eq_true] at h
    have := allB_spec r (i + 1) h.2 k o (by simpa using ho)
    rw [show i + (k + 1) = i + 1 + k by omega]; exact this
theorem wanted_same {o : Oper} {a a' : Act} (h : ∀ t ∈ o.looksAt ops, a.tmps[t]? = a'.tmps[t]?) : Region.wanted o (yielded ops a.tmps) = Region.wanted o (yielded ops a'.tmps) := by
  unfold Region.wanted
  cases hg : o.guard with
  | none => rfl
  | some p =>
    obtain ⟨j, want⟩ := p
    have e : yielded ops a.tmps j = yielded ops a'.tmps j := by
      unfold yielded
      cases hd : (ops[j]?).bind (·.dst) with
      | none => rfl
      | some t =>
        have ht : t ∈ o.looksAt ops := by
          unfold Oper.looksAt
          refine List.mem_append_right _ ?_
          rw [hg]
          simp [hd]
        have := h t ht
        simp only [Option.bind_some, this]
    simp only [e]
theorem exec_same {o : Oper} {a a' : Act} (hs : ∀ cs b, o.op ≠ .select cs b) (h : ∀ t ∈ o.looksAt ops, a.tmps[t]? = a'.tmps[t]?) : execOp a.eval o = execOp a'.eval o :=
  execOp_congr o hs fun x hx => by
    cases x with
    | tmp t =>
      have ht : t ∈ o.looksAt ops := List.mem_append_left _ (List.mem_filterMap.2 ⟨.tmp t, by simpa using hx, rfl⟩)
      simp only [Act.eval, Array.getD_eq_getD_getElem?, h t ht]
    | _ => rfl
def unl (S : Nat → Bool) (n : Nat) : Nat := ((List.range n).filter (fun i => !S i)).length
theorem unl_zero {S : Nat → Bool} {n : Nat} (h : unl S n = 0) : ∀ i, i < n → S i = true := fun i hi => by
  unfold unl at h
  have h1 := List.eq_nil_of_length_eq_zero h
  have h2 := List.filter_eq_nil_iff.1 h1 i (List.mem_range.2 hi)
  simpa using h2
theorem unl_set {S S' : Nat → Bool} : ∀ {n : Nat} {j : Nat}, j < n → S j = false → S' j = true → (∀ i, i ≠ j → S' i = S i) → unl S n = unl S' n + 1
  | 0, j, hj, _, _, _ => by omega
  | n + 1, j, hj, h1, h2, h3 => by
    unfold unl
    rw [List.range_succ, List.filter_append, List.filter_append, List.length_append, List.length_append]
    by_cases hjn : j = n
    · subst hjn
      have e : (List.range j).filter (fun i => !S' i) = (List.range j).filter (fun i => !S i) := List.filter_congr fun x hx => by
        have := List.mem_range.1 hx
        rw [h3 x (by omega)]
      rw [e]
      simp [h1, h2]
    · have ih := unl_set (n := n) (j := j) (by omega) h1 h2 h3
      unfold unl at ih
      have e : S' n = S n := h3 n (by omega)
      simp only [List.filter_cons, List.filter_nil, e]
      omega
theorem least_unl {S : Nat → Bool} {p : Nat → Bool} : ∀ (n : Nat), (∃ i, i < n ∧ S i = false ∧ p i = true) → ∃ i, i < n ∧ S i = false ∧ p i = true ∧ ∀ j, j < i → p j = true → S j = true
  | 0, ⟨i, h, _⟩ => by omega
  | n + 1, ⟨i, h, h1, h2⟩ => by
    by_cases h3 : ∃ i, i < n ∧ S i = false ∧ p i = true
    · obtain ⟨k, a, b, c, d⟩ := least_unl n h3
      exact ⟨k, by omega, b, c, d⟩
    · refine ⟨i, h, h1, h2, fun j hj hp => ?_⟩
      cases hs : S j
      · exact absurd ⟨j, by omega, hs, hp⟩ h3
      · rfl
end
end Go.Rg
end
section
namespace Go.Proofs.Ytaogpifcfmjcbaa
open Go.RowKit
set_option linter.unusedSimpArgs false
set_option linter.unusedVariables false
theorem Gr.keepF {w w' : World} {g k : Nat} (h : Gr w w') (hl : g < w.heap.size) (hf : w.frozen? ⟨g, k, none⟩ = false) : w'.frozen? ⟨g, k, none⟩ = false := by rw [h.frees g k hl]; exact hf
theorem Gr.grown {w wr w' : World} {row : Option Nat} (h : Gr w wr) (hg : wr.grownBy w' row) (hrow : ∀ k, row = some k → w.heap.size ≤ k) : Gr w w' :=
  Below.grown h hg h.size hrow
theorem Gr.only {a w : World} (h : Gr a w) (row : Option Nat) : a.grownBy w row := ⟨h.os, h.tape, h.output, h.size, fun i hi _ => h.block i hi⟩
theorem addN (b off k : Nat) : (⟨b, off, none⟩ : Addr).add k = ⟨b, off + k, none⟩ := by unfold Addr.add; split <;> simp_all
section
variable {α : Type}
structure Enc (f : α → List Value) (n : Nat) : Prop where
  len : ∀ x, (f x).length = n
  one : ∀ x, ∀ u ∈ f x, u.oneCell' = true
  pos : 0 < n
def cellsF (f : α → List Value) (l : List α) : List Value := l.flatMap f
variable {f : α → List Value} {n : Nat}
theorem cellsF_cons (x : α) (l : List α) : cellsF f (x :: l) = f x ++ cellsF f l := rfl
theorem cellsF_snoc (l : List α) (x : α) : cellsF f (l ++ [x]) = cellsF f l ++ f x := by simp [cellsF]
theorem Enc.cells_len (h : Enc f n) : ∀ l : List α, (cellsF f l).length = l.length * n
  | [] => by simp [cellsF]
  | x :: r => by rw [cellsF_cons, List.length_append, h.len, h.cells_len r, List.length_cons, Nat.add_mul]; omega
theorem Enc.cells_one (h : Enc f n) (l : List α) : ∀ u ∈ cellsF f l, u.oneCell' = true := by
  intro u hu
  obtain ⟨x, _, hm⟩ := List.mem_flatMap.1 hu
  exact h.one x u hm
theorem Enc.cells_get (h : Enc f n) : ∀ (l : List α) (k : Nat) (hk : k < l.length) (j : Nat), j < n → (cellsF f l)[k * n + j]? = (f l[k])[j]?
  | [], k, hk, _, _ => by simp at hk
  | x :: r, 0, _, j, hj => by rw [cellsF_cons, Nat.zero_mul, Nat.zero_add, List.getElem?_append_left (by rw [h.len]; exact hj)]; rfl
  | x :: r, k + 1, hk, j, hj => by
    have := h.cells_get r k (by simpa using hk) j hj
    rw [cellsF_cons, List.getElem?_append_right (by rw [h.len, Nat.add_mul]; omega), h.len, show (k + 1) * n + j - n = k * n + j by rw [Nat.add_mul]; omega, this]
    rfl
theorem Enc.cells_at (h : Enc f n) (l : List α) (i : Nat) (u : Value) (hu : (cellsF f l)[i]? = some u) : ∃ k, ∃ hk : k < l.length, ∃ j, j < n ∧ i = k * n + j ∧ (f l[k])[j]? = some u := by
  have hi : i < (cellsF f l).length := (List.getElem?_eq_some_iff.1 hu).1
  rw [h.cells_len] at hi
  have hk : i / n < l.length := (Nat.div_lt_iff_lt_mul h.pos).2 hi
  have hm := Nat.mod_lt i h.pos
  have hd := Nat.div_add_mod i n
  rw [Nat.mul_comm] at hd
  refine ⟨i / n, hk, i % n, hm, hd.symm, ?_⟩
  rw [← h.cells_get l (i / n) hk (i % n) hm, hd]
  exact hu
theorem Enc.cells_set (h : Enc f n) : ∀ (l : List α) (k : Nat) (x : α) (j : Nat) (u : Value) (hk : k < l.length), j < n → f x = (f l[k]).set j u → cellsF f (l.set k x) = (cellsF f l).set (k * n + j) u
  | [], k, _, _, _, hk, _, _ => by simp at hk
  | y :: r, 0, x, j, u, _, hj, e => by
    rw [List.set_cons_zero, cellsF_cons, cellsF_cons, Nat.zero_mul, Nat.zero_add, List.set_append_left _ _ (by rw [h.len]; exact hj)]
    rw [e]; rfl
  | y :: r, k + 1, x, j, u, hk, hj, e => by
    have := h.cells_set r k x j u (by simpa using hk) hj (by simpa using e)
    rw [List.set_cons_succ, cellsF_cons, cellsF_cons, this, List.set_append_right _ _ (by rw [h.len, Nat.add_mul]; omega), h.len, show (k + 1) * n + j - n = k * n + j by rw [Nat.add_mul]; omega]
def RowF (f : α → List Value) (n : Nat) (w : World) (b off : Nat) (l : List α) : Prop := ∀ k (h : k < l.length) (j : Nat) (u : Value), (f l[k])[j]? = some u → w.cell? ⟨b, off + k * n + j, none⟩ = some u
def AtF (f : α → List Value) (n : Nat) (w : World) (oa : Option Addr) (l : List α) : Prop := l = [] ∨ ∃ b off, oa = some ⟨b, off, none⟩ ∧ b < w.heap.size ∧ RowF f n w b off l
theorem RowF.keep {w w' : World} {b off : Nat} {l : List α} (h : RowF f n w b off l) (hg : Gr w w') : RowF f n w' b off l := fun k hk j u hu => hg.keep (h k hk j u hu)
theorem AtF.keep {w w' : World} {oa : Option Addr} {l : List α} (h : AtF f n w oa l) (hg : Gr w w') : AtF f n w' oa l := by
  rcases h with h | ⟨b, off, e, hb, h⟩
  · exact .inl h
  · exact .inr ⟨b, off, e, Nat.lt_of_lt_of_le hb hg.size, h.keep hg⟩
theorem AtF.get {w : World} {oa : Option Addr} {l : List α} (h : AtF f n w oa l) (k : Nat) (hk : k < l.length) : ∃ b off, oa = some ⟨b, off, none⟩ ∧ b < w.heap.size ∧ ∀ (j : Nat) (u : Value), (f l[k])[j]? = some u → w.cell? ⟨b, off + k * n + j, none⟩ = some u := by
  rcases h with h | ⟨b, off, e, hb, h⟩
  · subst h; simp at hk
  · exact ⟨b, off, e, hb, h k hk⟩
theorem RowF.cells {w : World} {b off : Nat} {l : List α} (he : Enc f n) (h : RowF f n w b off l) : ∀ i u, (cellsF f l)[i]? = some u → w.cell? ((⟨b, off, none⟩ : Addr).add i) = some u := by
  intro i u hu
  obtain ⟨k, hk, j, hj, rfl, e⟩ := he.cells_at l i u hu
  rw [addN, ← Nat.add_assoc]
  exact h k hk j u e
theorem own_keep {w w' : World} {base n' e : Nat} {m : Nat} {v : Value} {zs : List Value} (h : w.ownsRow base e m v n' zs) (hg : Gr w w') : w'.ownsRow base e m v n' zs :=
  h.kept (row := none) (hg.only _) (by cases v.ownBlock <;> simp)
theorem own_at {w : World} {base : Nat} {e : TypeId} {v : Value} {l : List α} (he : Enc f n) (h : w.ownsRow base e n v l.length (cellsF f l)) :
    ∃ oa c, v = .slice oa l.length c ∧ AtF f n w oa l ∧ l.length ≤ c ∧ ∀ g o q, oa = some ⟨g, o, q⟩ → base ≤ g := by
  rcases h.2 with ⟨rfl, h0⟩ | ⟨g, cap, cur, rfl, hb, hg, hc, _⟩
  · exact ⟨none, 0, by rw [h0], .inl (List.eq_nil_of_length_eq_zero h0), by omega, by intro _ _ _ e; cases e⟩
  · refine ⟨_, cap, rfl, .inr ⟨g, 0, rfl, (Array.getElem?_eq_some_iff.1 hg).1, fun k hk j u hu => ?_⟩, hc, by intro _ _ _ e; cases e; exact hb⟩
    have hj : j < n := by rw [← he.len l[k]]; exact (List.getElem?_eq_some_iff.1 hu).1
    have d := h.cells (g := g) rfl (k * n + j) u (by rw [he.cells_get l k hk j hj]; exact hu)
    rw [addN, ← Nat.add_assoc] at d
    exact d
theorem own_form {w : World} {base : Nat} {e : TypeId} {v : Value} {m : Nat} {zs : List Value} (h : w.ownsRow base e n v m zs) (hm : 0 < m) : ∃ g cap, v = .slice (some ⟨g, 0, none⟩) m cap ∧ base ≤ g ∧ g < w.heap.size ∧ m ≤ cap := by
  rcases h.2 with ⟨rfl, h0⟩ | ⟨g, cap, cur, rfl, hb, hg, hc, _⟩
  · omega
  · exact ⟨g, cap, rfl, hb, (Array.getElem?_eq_some_iff.1 hg).1, hc⟩
end
end Go.Proofs.Ytaogpifcfmjcbaa
end
section
namespace Go.Rg
open Go
set_option linter.unusedSimpArgs false
section
variable {P : Program} {ops : Array Oper} {md : Region.Mode} {S : World → Prop}
def Leads (P : Program) (S : World → Prop) (v : Value) : Result Next → Prop
  | .ok (.value u) w => u = v ∧ S w
  | .ok .skip w => undef = v ∧ S w
  | .ok (.enter f args) w => Calls P f args w fun e w' => e = .returned v ∧ S w'
  | _ => False
theorem leads_value {u v : Value} {w : World} : Leads P S v (.ok (.value u) w) = (u = v ∧ S w) := rfl
theorem leads_skip {v : Value} {w : World} : Leads P S v (.ok .skip w) = (undef = v ∧ S w) := rfl
theorem leads_enter {f : FuncId} {args : Array Value} {v : Value} {w : World} : Leads P S v (.ok (.enter f args) w) = Calls P f args w fun e w' => e = .returned v ∧ S w' := rfl
def GYields (P : Program) (ops : Array Oper) (S : World → Prop) (o : Oper) (v : Value) (a : Act) : Prop :=
  (Region.wanted o (yielded ops a.tmps) = true ∧ ∀ w, S w → Leads P S v ((execOp a.eval o).run P w)) ∨
  (Region.wanted o (yielded ops a.tmps) = false ∧ v = undef)
theorem GYields.of_same {o : Oper} {v : Value} {a a' : Act} (hy : GYields P ops S o v a) (he : execOp a'.eval o = execOp a.eval o)
    (hw : Region.wanted o (yielded ops a'.tmps) = Region.wanted o (yielded ops a.tmps)) : GYields P ops S o v a' := by
  unfold GYields at *
  rw [he, hw]
  exact hy
theorem GYields.wpOp {i : Nat} {o : Oper} {v : Value} {a : Act} {w : World} {Q : Exit → Act → World → Prop} (hi : ops[i]? = some o) (hy : GYields P ops S o v a) (hS : S w)
    {K : Act → World → Prop} (h : ∀ w', S w' → K (a.put o.dst v) w') : wpOp P ops Q i K a w := by
  unfold Go.wpOp
  simp only [hi]
  rcases hy with ⟨hw, hv⟩ | ⟨hw, rfl⟩
  · simp only [hw, if_true]
    refine .inl ?_
    unfold Oper.wp
    have h1 := hv w hS
    generalize (execOp a.eval o).run P w = r at *
    cases r with
    | ok n w' =>
      cases n <;> simp only [Leads] at h1 <;> simp only [Oper.upon]
      case value u => obtain ⟨rfl, h2⟩ := h1; exact h _ h2
      case skip => obtain ⟨rfl, h2⟩ := h1; exact h _ h2
      case enter f args => exact h1.mono fun e w'' ⟨he, h2⟩ => by subst he; exact h _ h2
    | halt x w' => simp only [Leads] at h1
  · simp only [hw, Bool.false_eq_true, if_false]; exact h _ hS
theorem GYields.put {oi oj : Oper} {v u : Value} {a : Act} (hap : oi.apart ops oj = true) (hsi : ∀ cs b, oi.op ≠ .select cs b)
    (hy : GYields P ops S oi v a) : GYields P ops S oi v (a.put oj.dst u) := by
  obtain ⟨h1, h2, h3⟩ := Oper.apart_spec hap
  exact hy.of_same (execOp_put oi hsi a oj.dst u h3) (wanted_put oi a oj.dst u h3)
end
def once (l : Nat) (K : Act → World → Prop) (Q : Exit → Act → World → Prop) : Exit → Act → World → Prop
  | .goto l', a, w => l' = l ∧ K a w
  | e, a, w => Q e a w
section
variable {P : Program} {a : Act} {w : World} {Q : Exit → Act → World → Prop} {K : Act → World → Prop} {l : Nat}
theorem once_normal : once l K Q .normal a w = Q .normal a w := rfl
theorem once_exit (id : Nat) : once l K Q (.exit id) a w = Q (.exit id) a w := rfl
theorem once_ret : once l K Q .ret a w = Q .ret a w := rfl
theorem once_panic (ch : List PanicEntry) : once l K Q (.panic ch) a w = Q (.panic ch) a w := rfl
theorem once_goto : once l K Q (.goto l) a w = K a w := by simp [once]
theorem wp_scope_once {c rest : Code} (l : Nat) (hf : findLabel c l = some rest)
    (first : c.wp P (once l (fun a w => rest.wp P (Exit.noGoto Q) a w) Q) a w) : (Code.scope c).wp P Q a w := by
  refine wp_scope_jumps l (fun a w => rest.wp P (Exit.noGoto Q) a w) (fun _ _ => 0) hf (Code.wp_mono (fun e a w h => ?_) first) (fun a w h => Code.wp_mono (fun e a' w' h' => ?_) h)
  · cases e <;> exact h
  · cases e <;> first | exact h' | exact h'.elim
end
end Go.Rg
end
section
namespace Go.Proofs.Ytaogpifcfmjcbaa
open Go.RowKit
set_option linter.unusedVariables false
set_option linter.unusedSimpArgs false
def Gz (v : Value) (w w' : World) : Prop := w.grownBy w' v.ownBlock
theorem Gz.of {v : Value} {w w' : World} (h : Gr w w') : Gz v w w' := h.only _
theorem Gz.refl (v : Value) (w : World) : Gz v w w := .of (Gr.refl w)
theorem Gz.trans {v : Value} {a b c : World} (h : Gz v a b) (k : Gz v b c) : Gz v a c :=
  ⟨k.os.trans h.os, k.tape.trans h.tape, k.output.trans h.output, Nat.le_trans h.size k.size, fun i hi hne => (k.block i (Nat.lt_of_lt_of_le hi h.size) hne).trans (h.block i hi hne)⟩
theorem Gz.gr {v : Value} {a b c : World} (h : Gz v a b) (k : Gr b c) : Gz v a c := h.trans (.of k)
theorem Gz.cell {v : Value} {w w' : World} {b k : Nat} {u : Value} (h : Gz v w w') (hc : w.cell? ⟨b, k, none⟩ = some u) (hb : ∀ g, v.ownBlock = some g → g ≠ b) : w'.cell? ⟨b, k, none⟩ = some u :=
  World.grownBy.cell h hc (fun e => hb b (by simpa using e.symm) rfl)
def Ty (e : TypeId) (w : World) (b : Nat) : Prop := ∃ cur fz, w.heap[b]? = some (.cells cur e fz)
theorem Ty.lt {e : TypeId} {w : World} {b : Nat} (h : Ty e w b) : b < w.heap.size := by
  obtain ⟨cur, fz, h⟩ := h
  exact (Array.getElem?_eq_some_iff.1 h).1
theorem Ty.gr {e : TypeId} {w w' : World} {b : Nat} (h : Ty e w b) (hg : Gr w w') : Ty e w' b := by
  have hl := h.lt
  obtain ⟨cur, fz, h⟩ := h
  exact ⟨cur, fz, by have := hg.block b hl; rw [this]; exact h⟩
theorem Ty.new (w : World) (cs : Array Value) (e : TypeId) : Ty e (w.alloc (.cells cs e)) w.heap.size := ⟨cs, (0, 0), heap_alloc_new w _⟩
theorem Gz.up {w a b : World} {v : Value} {e n m : Nat} {xs : List Value} (h : Gr w a) (k : Gz v a b) (ho : a.ownsRow w.heap.size e n v m xs) : Gr w b := h.grown k (fun g hg => (World.ownsRow.lt ho g hg).1)
theorem own_mono {w : World} {b1 b2 n m e : Nat} {v : Value} {xs : List Value} (h : w.ownsRow b1 e n v m xs) (hb : b2 ≤ b1) : w.ownsRow b2 e n v m xs := by
  refine ⟨h.1, ?_⟩
  rcases h.2 with h' | ⟨g, cap, cur, hv, hg, rest⟩
  · exact .inl h'
  · exact .inr ⟨g, cap, cur, hv, Nat.le_trans hb hg, rest⟩
def Sl (m : Nat) (xs : List Value) (u : Value) (w : World) : Prop := ∃ g, u = .slice (some ⟨g, 0, none⟩) m m ∧ g < w.heap.size ∧ ∀ j x, xs[j]? = some x → w.cell? ⟨g, j, none⟩ = some x
theorem Sl.keep {m : Nat} {xs : List Value} {u : Value} {w w' : World} (h : Sl m xs u w) (hg : Gr w w') : Sl m xs u w' := by
  obtain ⟨g, e, hl, hc⟩ := h
  exact ⟨g, e, Nat.lt_of_lt_of_le hl hg.size, fun j x hx => hg.keep (hc j x hx)⟩
def St (e : TypeId) (m : Nat) (xs : List Value) (u : Value) (w : World) : Prop := ∃ g, u = .slice (some ⟨g, 0, none⟩) m m ∧ Ty e w g ∧ ∀ j x, xs[j]? = some x → w.cell? ⟨g, j, none⟩ = some x
theorem St.keep {e : TypeId} {m : Nat} {xs : List Value} {u : Value} {w w' : World} (h : St e m xs u w) (hg : Gr w w') : St e m xs u w' := by
  obtain ⟨g, h1, hl, hc⟩ := h
  exact ⟨g, h1, hl.gr hg, fun j x hx => hg.keep (hc j x hx)⟩
end Go.Proofs.Ytaogpifcfmjcbaa
end

/- lex.number -/
import Derived.Test.YthmihhjpilpcpaaW1
import Derived.Test.YthmihhjpilpcpaaBld
import Derived.Lib.IndexBytes
namespace Go.Proofs.Ythmihhjpilpcpaa
open Go.RowKit
def tkCells (t : Lx.Tk) (pos : Int) : Array Value := #[.int .i64 (t.kind : Int), .string ⟨t.text.toArray⟩, .int .i64 (t.num : Int), .int .i64 pos]
def noCells : Array Value := #[.int .i64 0, .string ⟨#[]⟩, .int .i64 0, .int .i64 0]
def tokRes : Option (Lx.Tk × Nat) → Value
  | none => .tuple #[.agg noCells, .int .i64 0, .bool false]
  | some x => .tuple #[.agg (tkCells x.1 0), .int .i64 (x.2 : Int), .bool true]
theorem startsL_at (s : ByteArray) (k : Nat) (h : k < s.size) : Lx.startsLetter (s.data.toList.drop k) = Lx.letterB s[k] := by
  have hl : k < s.data.toList.length := by simpa using h
  rw [List.drop_eq_getElem_cons hl]; rfl
theorem startsL_end (s : ByteArray) (k : Nat) (h : s.size ≤ k) : Lx.startsLetter (s.data.toList.drop k) = false := by
  rw [List.drop_eq_nil_of_le (by simpa using h)]; rfl
set_option maxHeartbeats 400000 in
set_option maxRecDepth 100000 in
theorem number_no (s : ByteArray) (w : World) (hs : s.size ≤ maxLen) (h : 19 < Lx.runL Lx.digitB s.data.toList ∨ Lx.startsLetter (s.data.toList.drop (Lx.runL Lx.digitB s.data.toList)) = true) :
    Calls Try.prog 22 #[.string s] w fun e w' => e = .returned (tokRes none) ∧ Below w.heap.size w w' := by
  have hs' : s.size ≤ 9223372036854775807 := hs
  have hn := runL_le Lx.digitB s.data.toList
  have hrun := fun W => run_digit s W hs
  obtain ⟨n, e⟩ : ∃ n, n = Lx.runL Lx.digitB s.data.toList := ⟨_, rfl⟩
  simp only [← e] at hrun h hn
  clear e
  have Hrun := hid hrun; clear hrun
  by_cases h19 : 19 < n
  · clear h
    go_enter Try.func22, Try.ntmps22
    go_wp2_with (first | (go_at_call 18; refine (Hrun.out _).mono ?_; rintro e w' ⟨rfl, rfl⟩))
    refine bodyPost_ret (v := tokRes none) (by simp [results, Try.results22, go_sem, tokRes, noCells]) rfl ⟨rfl, ?_⟩
    exact (Below.refl _ _).alloc (Nat.le_refl _) _
  · have h2 := h.resolve_left h19
    clear h
    have hlt : n < s.size := by
      rcases Nat.lt_or_ge n s.size with h | h
      · exact h
      · rw [startsL_end s n h] at h2; cases h2
    rw [startsL_at s n hlt] at h2
    go_enter Try.func22, Try.ntmps22
    go_wp2_with (first | (go_at_call 18; refine (Hrun.out _).mono ?_; rintro e w' ⟨rfl, rfl⟩) | (go_at_call 17; refine (letter_any _ _).mono ?_; rintro e w' ⟨rfl, rfl⟩))
    refine bodyPost_ret (v := tokRes none) (by simp [results, Try.results22, go_sem, tokRes, noCells]) rfl ⟨rfl, ?_⟩
    exact (Below.refl _ _).alloc (Nat.le_refl _) _

theorem below_at {B g i : Nat} {a w : World} {u : Value} (h : Below B a w) (hg : B ≤ g) : Below B a (w.setCell ⟨g, i, none⟩ u) := h.setCell (p := ⟨g, i, none⟩) hg u
theorem blk4 {w : World} {g : Nat} {a b c d : Value} {T : TypeId} (h : w.heap[g]? = some (.cells #[a, b, c, d] T (0, 0))) :
    w.cell? ⟨g, 0, none⟩ = some a ∧ w.cell? ⟨g, 1, none⟩ = some b ∧ w.cell? ⟨g, 2, none⟩ = some c ∧ w.cell? ⟨g, 3, none⟩ = some d ∧ ∀ i, w.frozen? ⟨g, i, none⟩ = false :=
  ⟨by rw [Lib.cell_of_heap h]; rfl, by rw [Lib.cell_of_heap h]; rfl, by rw [Lib.cell_of_heap h]; rfl, by rw [Lib.cell_of_heap h]; rfl, fun i => Lib.frozen_of_heap h i⟩
theorem take_snoc' (l : List UInt8) (k : Nat) (h : k < l.length) : l.take (k + 1) = l.take k ++ [l[k]] := List.take_succ_eq_append_getElem h
set_option maxHeartbeats 1000000 in
set_option maxRecDepth 100000 in
theorem number_go (s : ByteArray) (w : World) (hs : s.size ≤ maxLen) (h19 : Lx.runL Lx.digitB s.data.toList ≤ 19) (h2 : Lx.startsLetter (s.data.toList.drop (Lx.runL Lx.digitB s.data.toList)) = false) :
    Calls Try.prog 22 #[.string s] w fun e w' => e = .returned (tokRes (Lx.numberL s.data.toList)) ∧ Below w.heap.size w w' := by
  have hs' : s.size ≤ 9223372036854775807 := hs
  have hn := runL_le Lx.digitB s.data.toList
  have hd := runL_take Lx.digitB s.data.toList
  have hrun := fun W => run_digit s W hs
  have hres : Lx.numberL s.data.toList = if Lx.valOf 0 (s.data.toList.take (Lx.runL Lx.digitB s.data.toList)) < 9223372036854775808 then some (⟨2, [], Lx.valOf 0 (s.data.toList.take (Lx.runL Lx.digitB s.data.toList))⟩, Lx.runL Lx.digitB s.data.toList) else none := by
    simp [Lx.numberL, h19, h2]
  generalize Lx.numberL s.data.toList = r at hres ⊢
  obtain ⟨n, e⟩ : ∃ n, n = Lx.runL Lx.digitB s.data.toList := ⟨_, rfl⟩
  simp only [← e] at hrun h19 h2 hn hd hres
  clear e
  have hn' : n ≤ s.size := by simpa using hn
  have hx : (s.extract 0 n).data.toList = s.data.toList.take n := by rw [Lib.extract_data]; simp
  have hxs : (s.extract 0 n).size = n := by simp; omega
  have H19 := fun k (hk : k < n) => valOf_19 s.data.toList n k h19 hk hd
  have hlen : (s.data.toList.take n).length = n := by rw [List.length_take]; omega
  have hb := fun W => u8map W (s.extract 0 n)
  rw [hxs] at hb
  have hmade := fun W cap => BRow.made W (s.extract 0 n) cap
  rw [hx] at hmade
  obtain ⟨d, hdd⟩ : ∃ d, d = s.data.toList.take n := ⟨_, rfl⟩
  simp only [← hdd] at hd H19 hlen hmade hres
  clear hx hdd
  have Hd := hid hd; clear hd
  have HH19 := hid H19; clear H19
  have Hrun := hid hrun; clear hrun
  have Hmade := hid hmade; clear hmade
  have Hlen := hid hlen; clear hlen
  have Hxs := hid hxs; clear hxs
  have Hres := hid hres; clear hres
  have hd19 : decide (19 < (n : Int)) = false := by simp; omega
  by_cases hlt : n < s.size
  · rw [startsL_at s n hlt] at h2
    go_enter Try.func22, Try.ntmps22
    go_wp2_with (first | (go_at_call 18; refine (Hrun.out _).mono ?_; rintro e w' ⟨rfl, rfl⟩) | (go_at_call 17; refine (letter_any _ _).mono ?_; rintro e w' ⟨rfl, rfl⟩))
    clear h2 hb
    generalize grownCap _ n 0 5 = cap
    go_loopw [6, 31] (fun x i wr => ∃ k : Nat, k ≤ n ∧ i = .int .i64 k ∧ x = .int .u64 (Lx.valOf 0 (d.take k)) ∧ BRow wr (w.heap.size + 1) d ∧ wr.heap[w.heap.size]? = some (.cells noCells 29 (0, 0)) ∧ Below w.heap.size w wr) (fun _ i _ => n - (intOf i).toNat)
    case atStart =>
      refine ⟨0, Nat.zero_le _, rfl, rfl, ?_, ?_, ?_⟩
      · have := (Hmade.out (w.alloc (.cells noCells 29)) cap).drew
        rw [World.size_alloc] at this
        exact this
      · exact (Below.heap_alloc (w.alloc (.cells noCells 29)) _ w.heap.size (by rw [World.size_alloc]; omega)).trans (heap_new w _)
      · exact ((((Below.refl _ _).alloc (Nat.le_refl _) _).alloc (by simp) _)).drew
    case round =>
      obtain ⟨k, hk, rfl, rfl, hrow, hblk, hbel⟩ := hrel
      by_cases hkn : k < n
      · have hl : k < d.length := by rw [Hlen.out]; exact hkn
        obtain ⟨c, hcc⟩ : ∃ c, c = d[k] := ⟨_, rfl⟩
        have hc := hrow.cell k c (by rw [hcc]; exact List.getElem?_eq_getElem hl)
        have hdc := Hd.out c (by rw [hcc]; exact List.getElem_mem hl)
        simp only [Lx.digitB, Bool.and_eq_true, decide_eq_true_eq] at hdc
        have hX := HH19.out k hkn
        have hts := take_snoc' d k hl
        have hvs := valOf_snoc (d.take k) c 0
        rw [hcc, ← hts, ← hcc] at hvs
        have Hvs := hid hvs; clear hvs hts
        have Hcc := hid hcc; clear hcc
        generalize Lx.valOf 0 (d.take k) = X at *
        have h1 : (48 : Int) ≤ (c.toNat : Int) := by omega
        have h2 : (c.toNat : Int) ≤ 57 := by omega
        have h3 : (X : Int) ≤ 999999999999999999 := by omega
        clear hdc hX
        go_wp2
        go_roundw
        case rel => exact ⟨k + 1, by omega, by go_num, by rw [Hvs.out]; go_num, hrow, hblk, hbel⟩
        case measure => simp [intOf]; omega
      · have hkn' : n = k := by omega
        subst hkn'
        have htk : d.take n = d := List.take_of_length_le (by rw [Hlen.out]; exact Nat.le_refl _)
        rw [htk]
        clear htk
        have hbd : Lx.valOf 0 d ≤ 9999999999999999999 := by
          have := valOf_lt d Hd.out
          rw [Hlen.out] at this
          have h3 : 10 ^ n ≤ 10 ^ 19 := Nat.pow_le_pow_right (by omega) h19
          have h4 : (10 : Nat) ^ 19 = 10000000000000000000 := by decide
          omega
        have hres := Hres.out
        generalize Lx.valOf 0 d = X at *
        obtain ⟨c0, c1, c2, c3, hf⟩ := blk4 hblk
        by_cases hX : X < 9223372036854775808
        · rw [if_pos hX] at hres
          have Hres := hid hres; clear hres
          go_wp2
          rw [Hres.out]
          refine bodyPost_ret (v := tokRes (some (⟨2, [], X⟩, n))) (by simp [results, Try.results22, go_sem, tokRes, tkCells, c0, c1, c2, c3]) rfl ⟨rfl, ?_⟩
          repeat (first | exact hbel | refine below_at ?_ (Nat.le_refl _))
        · rw [if_neg hX] at hres
          have Hres := hid hres; clear hres
          go_wp2
          rw [Hres.out]
          refine bodyPost_ret (v := tokRes none) (by simp [results, Try.results22, go_sem, tokRes, noCells, c0, c1, c2, c3]) rfl ⟨rfl, ?_⟩
          repeat (first | exact hbel | refine below_at ?_ (Nat.le_refl _))
  · clear h2
    go_enter Try.func22, Try.ntmps22
    go_wp2_with (first | (go_at_call 18; refine (Hrun.out _).mono ?_; rintro e w' ⟨rfl, rfl⟩) | (go_at_call 17; refine (letter_any _ _).mono ?_; rintro e w' ⟨rfl, rfl⟩))
    clear hb
    generalize grownCap _ n 0 5 = cap
    go_loopw [6, 31] (fun x i wr => ∃ k : Nat, k ≤ n ∧ i = .int .i64 k ∧ x = .int .u64 (Lx.valOf 0 (d.take k)) ∧ BRow wr (w.heap.size + 1) d ∧ wr.heap[w.heap.size]? = some (.cells noCells 29 (0, 0)) ∧ Below w.heap.size w wr) (fun _ i _ => n - (intOf i).toNat)
    case atStart =>
      refine ⟨0, Nat.zero_le _, rfl, rfl, ?_, ?_, ?_⟩
      · have := (Hmade.out (w.alloc (.cells noCells 29)) cap).drew
        rw [World.size_alloc] at this
        exact this
      · exact (Below.heap_alloc (w.alloc (.cells noCells 29)) _ w.heap.size (by rw [World.size_alloc]; omega)).trans (heap_new w _)
      · exact ((((Below.refl _ _).alloc (Nat.le_refl _) _).alloc (by simp) _)).drew
    case round =>
      obtain ⟨k, hk, rfl, rfl, hrow, hblk, hbel⟩ := hrel
      by_cases hkn : k < n
      · have hl : k < d.length := by rw [Hlen.out]; exact hkn
        obtain ⟨c, hcc⟩ : ∃ c, c = d[k] := ⟨_, rfl⟩
        have hc := hrow.cell k c (by rw [hcc]; exact List.getElem?_eq_getElem hl)
        have hdc := Hd.out c (by rw [hcc]; exact List.getElem_mem hl)
        simp only [Lx.digitB, Bool.and_eq_true, decide_eq_true_eq] at hdc
        have hX := HH19.out k hkn
        have hts := take_snoc' d k hl
        have hvs := valOf_snoc (d.take k) c 0
        rw [hcc, ← hts, ← hcc] at hvs
        have Hvs := hid hvs; clear hvs hts
        have Hcc := hid hcc; clear hcc
        generalize Lx.valOf 0 (d.take k) = X at *
        have h1 : (48 : Int) ≤ (c.toNat : Int) := by omega
        have h2 : (c.toNat : Int) ≤ 57 := by omega
        have h3 : (X : Int) ≤ 999999999999999999 := by omega
        clear hdc hX
        go_wp2
        go_roundw
        case rel => exact ⟨k + 1, by omega, by go_num, by rw [Hvs.out]; go_num, hrow, hblk, hbel⟩
        case measure => simp [intOf]; omega
      · have hkn' : n = k := by omega
        subst hkn'
        have htk : d.take n = d := List.take_of_length_le (by rw [Hlen.out]; exact Nat.le_refl _)
        rw [htk]
        clear htk
        have hbd : Lx.valOf 0 d ≤ 9999999999999999999 := by
          have := valOf_lt d Hd.out
          rw [Hlen.out] at this
          have h3 : 10 ^ n ≤ 10 ^ 19 := Nat.pow_le_pow_right (by omega) h19
          have h4 : (10 : Nat) ^ 19 = 10000000000000000000 := by decide
          omega
        have hres := Hres.out
        generalize Lx.valOf 0 d = X at *
        obtain ⟨c0, c1, c2, c3, hf⟩ := blk4 hblk
        by_cases hX : X < 9223372036854775808
        · rw [if_pos hX] at hres
          have Hres := hid hres; clear hres
          go_wp2
          rw [Hres.out]
          refine bodyPost_ret (v := tokRes (some (⟨2, [], X⟩, n))) (by simp [results, Try.results22, go_sem, tokRes, tkCells, c0, c1, c2, c3]) rfl ⟨rfl, ?_⟩
          repeat (first | exact hbel | refine below_at ?_ (Nat.le_refl _))
        · rw [if_neg hX] at hres
          have Hres := hid hres; clear hres
          go_wp2
          rw [Hres.out]
          refine bodyPost_ret (v := tokRes none) (by simp [results, Try.results22, go_sem, tokRes, noCells, c0, c1, c2, c3]) rfl ⟨rfl, ?_⟩
          repeat (first | exact hbel | refine below_at ?_ (Nat.le_refl _))
theorem number_any (s : ByteArray) (w : World) (hs : s.size ≤ maxLen) :
    Calls Try.prog 22 #[.string s] w fun e w' => e = .returned (tokRes (Lx.numberL s.data.toList)) ∧ Below w.heap.size w w' := by
  by_cases h : 19 < Lx.runL Lx.digitB s.data.toList ∨ Lx.startsLetter (s.data.toList.drop (Lx.runL Lx.digitB s.data.toList)) = true
  · have : Lx.numberL s.data.toList = none := by
      unfold Lx.numberL
      rw [if_neg]
      rintro ⟨h1, h2, _⟩
      rcases h with h | h
      · omega
      · rw [h2] at h; cases h
    rw [this]
    exact number_no s w hs h
  · exact number_go s w hs (by omega) (by
      rw [← Bool.not_eq_true]; exact fun h' => h (.inr h'))
end Go.Proofs.Ythmihhjpilpcpaa

/- told: a token as it may be written. -/
import Derived.Test.YthmihhjpilpcpaaB1
import Derived.Test.YthmihhjpilpcpaaW2
namespace Go.Proofs.Ythmihhjpilpcpaa
open Go.RowKit
set_option linter.unusedVariables false
def bs (l : List UInt8) : ByteArray := ⟨l.toArray⟩
theorem bs_list (l : List UInt8) : (bs l).data.toList = l := by simp [bs]
theorem bs_size (l : List UInt8) : (bs l).size = l.length := by rw [Lib.size_eq, bs_list]
theorem bs_app (a b : List UInt8) : bs a ++ bs b = bs (a ++ b) := by
  apply ByteArray.ext
  apply Array.ext'
  simp [bs]
theorem run_add_bs (W : World) (a b : List UInt8) (h : a.length + b.length ≤ 9223372036854775807) : (Op.stringOp .add (bs a) (bs b)).run Try.prog W = .ok (.string (bs (a ++ b))) W := by
  rw [← bs_app]
  exact run_string_add_sum W _ _ (by rw [bs_size, bs_size]; exact h)
set_option maxHeartbeats 1000000 in
set_option maxRecDepth 100000 in
theorem told_plain (k n p : Int) (x : List UInt8) (w : World) (h2 : (k == 2) = false) (h3 : (k == 3) = false) :
    Calls Try.prog 11 #[.agg #[.int .i64 k, .string (bs x), .int .i64 n, .int .i64 p]] w fun e w' => e = .returned (.string (bs x)) ∧ Below w.heap.size w w' := by
  go_enter Try.func11, Try.ntmps11
  go_wp2
  go_ret
  exact ⟨rfl, (Below.refl _ _).alloc (Nat.le_refl _) _⟩
theorem digsF_short : ∀ f n, (Lx.digsF f n).length ≤ f + 1 := by
  intro f
  induction f with
  | zero => intro n; simp [Lx.digsF]
  | succ f ih =>
    intro n
    simp only [Lx.digsF]
    split
    · simp
    · have := ih (n / 10); simp; omega
theorem digsF_lt (f n : Nat) (h : n < 10) : Lx.digsF f n = [UInt8.ofNat (48 + n % 10)] := by
  cases f with
  | zero => rfl
  | succ f => simp [Lx.digsF, h]
theorem digsF_ge (f n : Nat) (h : ¬ n < 10) : Lx.digsF (f + 1) n = Lx.digsF f (n / 10) ++ [UInt8.ofNat (48 + n % 10)] := by simp [Lx.digsF, h]
/-- the digits that are known, and what is left of the number -/
def DRel (n m : Nat) (a : List UInt8) : Prop := ∃ f, Lx.digs n = Lx.digsF f m ++ a ∧ m < 10 ^ (f + 1)
theorem DRel.len {n m : Nat} {a : List UInt8} (h : DRel n m a) : a.length ≤ 21 := by
  obtain ⟨f, h1, _⟩ := h
  have := digsF_short 20 n
  have h2 : (Lx.digs n).length = (Lx.digsF f m).length + a.length := by rw [h1, List.length_append]
  unfold Lx.digs at h2
  omega
theorem DRel.last {n m : Nat} {a : List UInt8} (h : DRel n m a) (hm : m < 10) : Lx.digs n = UInt8.ofNat (48 + m % 10) :: a := by
  obtain ⟨f, h1, _⟩ := h
  rw [h1, digsF_lt f m hm]; rfl
theorem DRel.next {n m : Nat} {a : List UInt8} (h : DRel n m a) (hm : ¬ m < 10) : DRel n (m / 10) (UInt8.ofNat (48 + m % 10) :: a) := by
  obtain ⟨f, h1, h2⟩ := h
  cases f with
  | zero => simp at h2; omega
  | succ f =>
    refine ⟨f, ?_, by rw [Nat.pow_succ] at h2; omega⟩
    rw [h1, digsF_ge f m hm]; simp
theorem conv_one (W : World) (c : UInt8) (x : Int) (hx : x = (c.toNat : Int)) : (convert 23 9 (.slice (some ⟨W.heap.size, 0, none⟩) 1 1)).run Try.prog (W.alloc (.cells #[.int .u8 x] 5)) = .ok (.string (bs [c])) (W.alloc (.cells #[.int .u8 x] 5)) := by
  subst hx
  have := run_convert_bytes_back (P := Try.prog) (W.alloc (.cells #[.int .u8 (c.toNat : Int)] 5)) 23 9 5 ⟨W.heap.size, 0, none⟩ 1 [c] Try.underlying23 Try.underlying5 Try.underlying9 (fun j hj => by
    rw [add0, Lib.cell_of_heap (heap_new W _)]
    match j, hj with
    | 0, _ => rfl)
  exact this
set_option maxHeartbeats 1000000 in
set_option maxRecDepth 100000 in
theorem told_number (n : Nat) (p : Int) (x : List UInt8) (w : World) (hn : n < 9223372036854775808) :
    Calls Try.prog 11 #[.agg #[.int .i64 2, .string (bs x), .int .i64 (n : Int), .int .i64 p]] w fun e w' => e = .returned (.string (bs (Lx.digs n))) ∧ Below w.heap.size w w' := by
  go_enter Try.func11, Try.ntmps11
  go_wp2
  go_loopw [3, 4] (fun v i wr => ∃ (m : Nat) (a : List UInt8), i = .int .i64 m ∧ v = .string (bs a) ∧ m < 9223372036854775808 ∧ Hid (DRel n m a) ∧ Below w.heap.size w wr) (fun _ i _ => (intOf i).toNat)
  case atStart => exact ⟨n, [], rfl, rfl, hn, ⟨20, by simp [Lx.digs], by omega⟩, (Below.refl _ _).alloc (Nat.le_refl _) _⟩
  case round =>
    obtain ⟨m, a, rfl, rfl, hm, hD, hbel⟩ := hrel
    have hal := hD.out.len
    have hm63 : (m : Int) ≤ 9223372036854775807 := by omega
    have hdig := (digit_of m).2
    have hl' := fun h => hD.out.last h
    have hn'' := fun h => hD.out.next h
    clear hD
    generalize UInt8.ofNat (48 + m % 10) = c at hdig hl' hn''
    have hcv := fun W => conv_one W c (48 + (m : Int) % 10) (by rw [hdig]; omega)
    have hadd := fun W => run_add_bs W [c] a (by simp; omega)
    clear hdig hm hn
    have hsz := hbel.size
    by_cases h10 : m < 10
    · have hl := hid (hl' h10)
      clear hl' hn''
      have tz : (((m : Int) / 10) == 0) = true := by rw [beq_iff_eq]; omega
      go_wp2
      go_ret
      exact ⟨by rw [hl.out]; rfl, hbel.alloc hsz _⟩
    · have hn' := hid (hn'' h10)
      clear hl' hn''
      have tz : (((m : Int) / 10) == 0) = false := by rw [beq_eq_false_iff_ne]; omega
      go_wp2
      go_roundw
      case rel => exact ⟨m / 10, c :: a, by go_num, rfl, by omega, hn', hbel.alloc hsz _⟩
      case measure => simp [intOf]; omega
theorem dbl_app (a b : List UInt8) : Lx.dbl (a ++ b) = Lx.dbl a ++ Lx.dbl b := by
  induction a with
  | nil => rfl
  | cons c r ih => simp only [List.cons_append, Lx.dbl]; split <;> simp [ih]
theorem dbl_len (l : List UInt8) : (Lx.dbl l).length ≤ 2 * l.length := by
  induction l with
  | nil => simp [Lx.dbl]
  | cons c r ih => simp only [Lx.dbl]; split <;> simp <;> omega
theorem ibeq' (a : Nat) (b : Nat) : ((a : Int) == (b : Int)) = (a == b) := by
  rw [Bool.eq_iff_iff]; simp; omega
set_option maxHeartbeats 1000000 in
set_option maxRecDepth 100000 in
theorem told_text (p m : Int) (x : List UInt8) (w : World) (hx : x.length ≤ 4096) :
    Calls Try.prog 11 #[.agg #[.int .i64 3, .string (bs x), .int .i64 m, .int .i64 p]] w fun e w' => e = .returned (.string (bs (39 :: (Lx.dbl x ++ [39])))) ∧ Below w.heap.size w w' := by
  go_enter Try.func11, Try.ntmps11
  go_wp2
  go_loopw [5, 6] (fun v i wr => ∃ k : Nat, i = .int .i64 k ∧ k ≤ x.length ∧ v = .string (bs (39 :: Lx.dbl (x.take k))) ∧ wr = w.alloc (.cells #[.int .i64 3, .string (bs x), .int .i64 m, .int .i64 p] 29)) (fun _ i _ => x.length - (intOf i).toNat)
  case atStart => exact ⟨0, rfl, Nat.zero_le _, rfl, rfl⟩
  case round =>
    obtain ⟨k, rfl, hk, rfl, rfl⟩ := hrel
    have hsz := bs_size x
    have Hsz := hid hsz
    obtain ⟨q0, q1, q2, q3, qf⟩ := blk4 (heap_new w (.cells #[.int .i64 3, .string (bs x), .int .i64 m, .int .i64 p] 29))
    have hdl : ∀ l : List UInt8, (Lx.dbl l).length ≤ 2 * l.length := dbl_len
    have hdk := hdl (x.take k)
    simp only [List.length_take] at hdk
    clear hdl
    by_cases hlt : k < x.length
    · have hget : (bs x)[k]'(by rw [Hsz.out]; exact hlt) = x[k] := rfl
      have hext : (bs x).extract k (k + 1) = bs [x[k]] := by
        apply ByteArray.ext
        apply Array.ext'
        rw [Lib.extract_data, bs_list, bs_list, List.drop_eq_getElem_cons hlt, show k + 1 - k = 1 from by omega]; rfl
      have hnext : Lx.dbl (x.take (k + 1)) = Lx.dbl (x.take k) ++ if x[k].toNat = 39 then [39, 39] else [x[k]] := by
        rw [List.take_succ_eq_append_getElem hlt, dbl_app]
        congr 1
      obtain ⟨c, hc⟩ : ∃ c, c = x[k] := ⟨_, rfl⟩
      rw [← hc] at hget hext hnext
      clear hc
      have had : ∃ d1, (∀ W, (Op.stringOp .add (bs (39 :: Lx.dbl (x.take k))) (bs [c])).run Try.prog W = .ok (.string (bs d1)) W) ∧ d1 = 39 :: Lx.dbl (x.take k) ++ [c] := ⟨_, fun W => run_add_bs W (39 :: Lx.dbl (x.take k)) [c] (by simp; omega), rfl⟩
      obtain ⟨d1, hadd, hd1⟩ := had
      have had2 : ∃ d2, (∀ W, (Op.stringOp .add (bs d1) ⟨#[39]⟩).run Try.prog W = .ok (.string (bs d2)) W) ∧ d2 = d1 ++ [39] := ⟨_, fun W => run_add_bs W d1 [39] (by rw [hd1]; simp; omega), rfl⟩
      obtain ⟨d2, hadd2, hd2⟩ := had2
      have Hd1 := hid hd1; clear hd1
      have Hd2 := hid hd2; clear hd2
      have Hn := hid hnext; clear hnext
      cases h39 : (c.toNat == 39) with
      | true =>
        have t39 : ((c.toNat : Int) == 39) = true := by rw [← h39]; exact ibeq' _ 39
        have hfin := hid (show d2 = 39 :: Lx.dbl (x.take (k + 1)) from by
          have hc39 : c = 39 := UInt8.toNat_inj.1 (by simpa using h39)
          rw [Hd2.out, Hd1.out, Hn.out, if_pos (by simpa using h39), hc39]; simp)
        clear h39 Hn Hd1 Hd2 hsz
        generalize hd : bs (39 :: Lx.dbl (x.take k)) = d at *
        have Hd := hid hd; clear hd
        go_wp2
        go_roundw
        case rel => exact ⟨k + 1, by go_num, by omega, by rw [hfin.out], by first | rfl | trivial⟩
        case measure => simp [intOf]; omega
      | false =>
        have t39 : ((c.toNat : Int) == 39) = false := by rw [← h39]; exact ibeq' _ 39
        have hfin := hid (show d1 = 39 :: Lx.dbl (x.take (k + 1)) from by
          rw [Hd1.out, Hn.out, if_neg (by simpa using h39)]; simp)
        clear h39 Hn Hd1 Hd2 hsz
        generalize hd : bs (39 :: Lx.dbl (x.take k)) = d at *
        have Hd := hid hd; clear hd
        go_wp2
        go_roundw
        case rel => exact ⟨k + 1, by go_num, by omega, by rw [hfin.out], by first | rfl | trivial⟩
        case measure => simp [intOf]; omega
    · have hkx : x.length = k := by omega
      have htk : x.take k = x := List.take_of_length_le (by omega)
      rw [htk] at hdk ⊢
      have had : ∃ d1, (∀ W, (Op.stringOp .add (bs (39 :: Lx.dbl x)) ⟨#[39]⟩).run Try.prog W = .ok (.string (bs d1)) W) ∧ d1 = 39 :: (Lx.dbl x ++ [39]) := ⟨_, fun W => run_add_bs W (39 :: Lx.dbl x) [39] (by simp; omega), rfl⟩
      obtain ⟨d1, hadd, hd1⟩ := had
      have Hd1 := hid hd1; clear hd1
      clear htk
      generalize hd : bs (39 :: Lx.dbl x) = d at *
      have Hd := hid hd; clear hd
      subst hkx
      go_wp2
      go_ret
      exact ⟨by rw [← Hd1.out]; rfl, (Below.refl _ _).alloc (Nat.le_refl _) _⟩
end Go.Proofs.Ythmihhjpilpcpaa

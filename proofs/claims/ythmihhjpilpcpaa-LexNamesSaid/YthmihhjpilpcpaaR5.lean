/- the reference: signs. -/
import Derived.Test.YthmihhjpilpcpaaR2
import Derived.BigQuiet
import Derived.Deep.QuietTactic
namespace Go.Proofs.Ythmihhjpilpcpaa
open Go.RowKit
set_option linter.unusedVariables false
def oneSigns : ByteArray := ⟨#[40, 41, 44, 46, 42, 43, 45, 47, 37, 61, 60, 62, 59]⟩
theorem oneSigns_hit (m : Nat) (h : m < oneSigns.size) (c : UInt8) (he : (oneSigns[m].toNat : Int) = (c.toNat : Int)) : Lx.oneSign c = true := by
  have h13 : m < 13 := h
  have he' : oneSigns[m].toNat = c.toNat := by omega
  unfold Lx.oneSign
  rw [← he']
  have : ∀ m : Fin 13, (([40, 41, 44, 46, 42, 43, 45, 47, 37, 61, 60, 62, 59] : List Nat).contains (oneSigns[m.val]'(m.isLt)).toNat) = true := by decide
  exact this ⟨m, h13⟩
theorem oneSigns_miss (c : UInt8) (h : ∀ m (hm : m < oneSigns.size), (oneSigns[m].toNat : Int) ≠ (c.toNat : Int)) : Lx.oneSign c = false := by
  unfold Lx.oneSign
  rw [← Bool.not_eq_true, List.contains_iff_mem]
  intro hm
  have e : ∀ n ∈ ([40, 41, 44, 46, 42, 43, 45, 47, 37, 61, 60, 62, 59] : List Nat), ∃ m : Fin 13, (oneSigns[m.val]'(m.isLt)).toNat = n := by decide
  obtain ⟨m, hme⟩ := e _ hm
  exact h m.val m.isLt (by rw [hme])
theorem ext_one (s : ByteArray) (k : Nat) (hk : k < s.size) : s.extract k (k + 1) = ⟨[s[k]].toArray⟩ := by
  apply ByteArray.ext
  apply Array.ext'
  rw [Lib.extract_data, drop_at s k hk, show k + 1 - k = 1 from by omega]
  rfl
theorem ext_two (s : ByteArray) (k : Nat) (hk : k + 1 < s.size) : s.extract k (k + 2) = ⟨[s[k], s[k + 1]].toArray⟩ := by
  apply ByteArray.ext
  apply Array.ext'
  rw [Lib.extract_data, drop_at s k (by omega), drop_at s (k + 1) hk, show k + 2 - k = 2 from by omega]
  rfl
theorem Below.drewN' {B : Nat} {a w : World} (h : Below B a w) (n : Nat) : Below B a (w.drewN n) := ⟨h.os, h.tape, h.output, h.size, h.block⟩
set_option maxHeartbeats 2000000 in
set_option maxRecDepth 100000 in
theorem rsign_one (s : ByteArray) (k : Nat) (w : World) (hs : s.size ≤ 4096) (hk : k < s.size) (h2 : ¬ k + 1 < s.size) (r : Option (Lx.Tk × Nat)) (Hr : Hid (r = if Lx.oneSign s[k] then some (⟨4, [s[k]], 0⟩, 1) else none)) :
    Calls Try.prog 32 #[.string s, .int .i64 (k : Int)] w (RefPost r k w) := by
  have hx1 := ext_one s k hk
  have Hx1 := hid hx1; clear hx1
  go_enter Try.func32, Try.ntmps32
  go_wp2
  go_loopw [8] (fun i wr => ∃ m : Nat, i = .int .i64 m ∧ m ≤ 13 ∧ wr.heap[w.heap.size]? = some (.cells noCells 29 (0, 0)) ∧ Below w.heap.size w wr ∧ Hid (∀ x (hx : x < oneSigns.size), x < m → (oneSigns[x].toNat : Int) ≠ (s[k].toNat : Int))) (fun i _ => 13 - (intOf i).toNat)
  case atStart => exact ⟨0, rfl, by omega, heap_new w _, (Below.refl _ _).alloc (Nat.le_refl _) _, fun x hx h => absurd h (by omega)⟩
  case round =>
    obtain ⟨m, rfl, hm, hblk, hbel, hall⟩ := hrel
    obtain ⟨c0, c1, c2, c3, hf⟩ := blk4 hblk
    by_cases hlt : m < 13
    · have hm13 : m < oneSigns.size := hlt
      cases hT : (((⟨#[40, 41, 44, 46, 42, 43, 45, 47, 37, 61, 60, 62, 59]⟩ : ByteArray)[m]'hlt).toNat : Int) == (s[k].toNat : Int) with
      | true =>
        have hone := oneSigns_hit m hm13 s[k] (beq_iff_eq.1 hT)
        have hr := Hr.out
        rw [hone, if_pos rfl] at hr
        clear Hr hall hone
        subst hr
        go_wp2_with fail
        go_quiet (fail)
        go_wp2
        refine bodyPost_ret (v := .tuple #[.agg (tkCells ⟨4, [s[k]], 0⟩ k), .int .i64 ((k : Int) + 1), .bool true]) (by simp [results, Try.results32, go_sem, tkCells, c0, c1, c2, c3, Hx1.out]) rfl ⟨?_, ?_⟩
        · repeat (first | exact hbel | exact Below.drewN' hbel _ | refine below_at ?_ (Nat.le_refl _))
        · rfl
      | false =>
        have hall' : Hid (∀ x (hx : x < oneSigns.size), x < m + 1 → (oneSigns[x].toNat : Int) ≠ (s[k].toNat : Int)) := by
          intro x hx hxm
          by_cases e : x = m
          · subst e; exact beq_eq_false_iff_ne.1 hT
          · exact hall.out x hx (by omega)
        clear hall
        go_wp2_with fail
        go_quiet (fail)
        go_wp2
        go_roundw
        case rel => exact ⟨m + 1, by go_num, by omega, hblk, Below.drewN' hbel _, hall'⟩
        case measure => simp [intOf]; omega
    · have h13 : m = 13 := by omega
      subst h13
      have hone := oneSigns_miss s[k] (fun x hx => hall.out x hx hx)
      have hr := Hr.out
      rw [hone] at hr
      simp only [Bool.false_eq_true, if_false] at hr
      clear Hr hall hone
      subst hr
      go_wp2
      refine bodyPost_ret (v := .tuple #[.agg noCells, .int .i64 (k : Int), .bool false]) (by simp [results, Try.results32, go_sem, noCells, c0, c1, c2, c3]) rfl ⟨?_, ?_⟩
      · repeat (first | exact hbel | refine below_at ?_ (Nat.le_refl _))
      · exact ⟨0, 0, 0, _, ⟨#[]⟩, rfl⟩
set_option maxHeartbeats 2000000 in
set_option maxRecDepth 100000 in
theorem rsign_no2 (s : ByteArray) (k : Nat) (w : World) (hs : s.size ≤ 4096) (hk : k < s.size) (h2 : k + 1 < s.size) (t0 : ((s.extract k (k + 2)).toList == [60, 62]) = false) (t1 : ((s.extract k (k + 2)).toList == [60, 61]) = false) (t2 : ((s.extract k (k + 2)).toList == [62, 61]) = false) (t3 : ((s.extract k (k + 2)).toList == [124, 124]) = false) (r : Option (Lx.Tk × Nat)) (Hr : Hid (r = if Lx.oneSign s[k] then some (⟨4, [s[k]], 0⟩, 1) else none)) :
    Calls Try.prog 32 #[.string s, .int .i64 (k : Int)] w (RefPost r k w) := by
  have hx1 := ext_one s k hk
  have Hx1 := hid hx1; clear hx1
  go_enter Try.func32, Try.ntmps32
  go_wp2
  go_loopw [8] (fun i wr => ∃ m : Nat, i = .int .i64 m ∧ m ≤ 13 ∧ wr.heap[w.heap.size]? = some (.cells noCells 29 (0, 0)) ∧ Below w.heap.size w wr ∧ Hid (∀ x (hx : x < oneSigns.size), x < m → (oneSigns[x].toNat : Int) ≠ (s[k].toNat : Int))) (fun i _ => 13 - (intOf i).toNat)
  case atStart => exact ⟨0, rfl, by omega, heap_new w _, (Below.refl _ _).alloc (Nat.le_refl _) _, fun x hx h => absurd h (by omega)⟩
  case round =>
    obtain ⟨m, rfl, hm, hblk, hbel, hall⟩ := hrel
    obtain ⟨c0, c1, c2, c3, hf⟩ := blk4 hblk
    by_cases hlt : m < 13
    · have hm13 : m < oneSigns.size := hlt
      cases hT : (((⟨#[40, 41, 44, 46, 42, 43, 45, 47, 37, 61, 60, 62, 59]⟩ : ByteArray)[m]'hlt).toNat : Int) == (s[k].toNat : Int) with
      | true =>
        have hone := oneSigns_hit m hm13 s[k] (beq_iff_eq.1 hT)
        have hr := Hr.out
        rw [hone, if_pos rfl] at hr
        clear Hr hall hone
        subst hr
        go_wp2_with fail
        go_quiet (fail)
        go_wp2
        refine bodyPost_ret (v := .tuple #[.agg (tkCells ⟨4, [s[k]], 0⟩ k), .int .i64 ((k : Int) + 1), .bool true]) (by simp [results, Try.results32, go_sem, tkCells, c0, c1, c2, c3, Hx1.out]) rfl ⟨?_, ?_⟩
        · repeat (first | exact hbel | exact Below.drewN' hbel _ | refine below_at ?_ (Nat.le_refl _))
        · rfl
      | false =>
        have hall' : Hid (∀ x (hx : x < oneSigns.size), x < m + 1 → (oneSigns[x].toNat : Int) ≠ (s[k].toNat : Int)) := by
          intro x hx hxm
          by_cases e : x = m
          · subst e; exact beq_eq_false_iff_ne.1 hT
          · exact hall.out x hx (by omega)
        clear hall
        go_wp2_with fail
        go_quiet (fail)
        go_wp2
        go_roundw
        case rel => exact ⟨m + 1, by go_num, by omega, hblk, Below.drewN' hbel _, hall'⟩
        case measure => simp [intOf]; omega
    · have h13 : m = 13 := by omega
      subst h13
      have hone := oneSigns_miss s[k] (fun x hx => hall.out x hx hx)
      have hr := Hr.out
      rw [hone] at hr
      simp only [Bool.false_eq_true, if_false] at hr
      clear Hr hall hone
      subst hr
      go_wp2
      refine bodyPost_ret (v := .tuple #[.agg noCells, .int .i64 (k : Int), .bool false]) (by simp [results, Try.results32, go_sem, noCells, c0, c1, c2, c3]) rfl ⟨?_, ?_⟩
      · repeat (first | exact hbel | refine below_at ?_ (Nat.le_refl _))
      · exact ⟨0, 0, 0, _, ⟨#[]⟩, rfl⟩
set_option maxHeartbeats 2000000 in
set_option maxRecDepth 100000 in
theorem rsign_0 (s : ByteArray) (k : Nat) (w : World) (hs : s.size ≤ 4096) (h2 : k + 1 < s.size) (t0 : ((s.extract k (k + 2)).toList == [60, 62]) = true) :
    Calls Try.prog 32 #[.string s, .int .i64 (k : Int)] w (RefPost (some (⟨4, [s[k], s[k + 1]], 0⟩, 2)) k w) := by
  have Hx2 := hid (ext_two s k h2)
  go_enter Try.func32, Try.ntmps32
  go_wp2
  refine bodyPost_ret (v := .tuple #[.agg (tkCells ⟨4, [s[k], s[k + 1]], 0⟩ k), .int .i64 ((k : Int) + 2), .bool true]) (by simp [results, Try.results32, go_sem, tkCells, Hx2.out]) rfl ⟨(Below.refl _ _).alloc (Nat.le_refl _) _, rfl⟩
set_option maxHeartbeats 2000000 in
set_option maxRecDepth 100000 in
theorem rsign_1 (s : ByteArray) (k : Nat) (w : World) (hs : s.size ≤ 4096) (h2 : k + 1 < s.size) (t0 : ((s.extract k (k + 2)).toList == [60, 62]) = false) (t1 : ((s.extract k (k + 2)).toList == [60, 61]) = true) :
    Calls Try.prog 32 #[.string s, .int .i64 (k : Int)] w (RefPost (some (⟨4, [s[k], s[k + 1]], 0⟩, 2)) k w) := by
  have Hx2 := hid (ext_two s k h2)
  go_enter Try.func32, Try.ntmps32
  go_wp2
  refine bodyPost_ret (v := .tuple #[.agg (tkCells ⟨4, [s[k], s[k + 1]], 0⟩ k), .int .i64 ((k : Int) + 2), .bool true]) (by simp [results, Try.results32, go_sem, tkCells, Hx2.out]) rfl ⟨(Below.refl _ _).alloc (Nat.le_refl _) _, rfl⟩
set_option maxHeartbeats 2000000 in
set_option maxRecDepth 100000 in
theorem rsign_2 (s : ByteArray) (k : Nat) (w : World) (hs : s.size ≤ 4096) (h2 : k + 1 < s.size) (t0 : ((s.extract k (k + 2)).toList == [60, 62]) = false) (t1 : ((s.extract k (k + 2)).toList == [60, 61]) = false) (t2 : ((s.extract k (k + 2)).toList == [62, 61]) = true) :
    Calls Try.prog 32 #[.string s, .int .i64 (k : Int)] w (RefPost (some (⟨4, [s[k], s[k + 1]], 0⟩, 2)) k w) := by
  have Hx2 := hid (ext_two s k h2)
  go_enter Try.func32, Try.ntmps32
  go_wp2
  refine bodyPost_ret (v := .tuple #[.agg (tkCells ⟨4, [s[k], s[k + 1]], 0⟩ k), .int .i64 ((k : Int) + 2), .bool true]) (by simp [results, Try.results32, go_sem, tkCells, Hx2.out]) rfl ⟨(Below.refl _ _).alloc (Nat.le_refl _) _, rfl⟩
set_option maxHeartbeats 2000000 in
set_option maxRecDepth 100000 in
theorem rsign_3 (s : ByteArray) (k : Nat) (w : World) (hs : s.size ≤ 4096) (h2 : k + 1 < s.size) (t0 : ((s.extract k (k + 2)).toList == [60, 62]) = false) (t1 : ((s.extract k (k + 2)).toList == [60, 61]) = false) (t2 : ((s.extract k (k + 2)).toList == [62, 61]) = false) (t3 : ((s.extract k (k + 2)).toList == [124, 124]) = true) :
    Calls Try.prog 32 #[.string s, .int .i64 (k : Int)] w (RefPost (some (⟨4, [s[k], s[k + 1]], 0⟩, 2)) k w) := by
  have Hx2 := hid (ext_two s k h2)
  go_enter Try.func32, Try.ntmps32
  go_wp2
  refine bodyPost_ret (v := .tuple #[.agg (tkCells ⟨4, [s[k], s[k + 1]], 0⟩ k), .int .i64 ((k : Int) + 2), .bool true]) (by simp [results, Try.results32, go_sem, tkCells, Hx2.out]) rfl ⟨(Below.refl _ _).alloc (Nat.le_refl _) _, rfl⟩
theorem two_eq (s : ByteArray) (k : Nat) (h2 : k + 1 < s.size) (a b : UInt8) : ((s.extract k (k + 2)).toList == [a, b]) = (s[k].toNat == a.toNat && s[k + 1].toNat == b.toNat) := by
  rw [Lib.toList_data, ext_two s k h2, Bool.eq_iff_iff]
  simp only [beq_iff_eq, Bool.and_eq_true, List.cons.injEq, and_true]
  constructor
  · rintro ⟨h1, h2⟩; rw [h1, h2]; exact ⟨rfl, rfl⟩
  · rintro ⟨h1, h2⟩; exact ⟨UInt8.toNat_inj.1 h1, UInt8.toNat_inj.1 h2⟩
theorem rsign_any (s : ByteArray) (k : Nat) (w : World) (hs : s.size ≤ 4096) (hk : k < s.size) :
    Calls Try.prog 32 #[.string s, .int .i64 (k : Int)] w (RefPost (Lx.signL (s.data.toList.drop k)) k w) := by
  by_cases h2 : k + 1 < s.size
  · have hd : s.data.toList.drop k = s[k] :: s[k + 1] :: s.data.toList.drop (k + 1 + 1) := by rw [drop_at s k hk, drop_at s (k + 1) h2]
    have e0 := two_eq s k h2 60 62
    have e1 := two_eq s k h2 60 61
    have e2 := two_eq s k h2 62 61
    have e3 := two_eq s k h2 124 124
    have hsig : Lx.signL (s.data.toList.drop k) = if Lx.twoSign s[k] s[k + 1] then some (⟨4, [s[k], s[k + 1]], 0⟩, 2) else if Lx.oneSign s[k] then some (⟨4, [s[k]], 0⟩, 1) else none := by rw [hd]; rfl
    have htw : Lx.twoSign s[k] s[k + 1] = (((s.extract k (k + 2)).toList == [60, 62]) || ((s.extract k (k + 2)).toList == [60, 61]) || ((s.extract k (k + 2)).toList == [62, 61]) || ((s.extract k (k + 2)).toList == [124, 124])) := by rw [e0, e1, e2, e3]; rfl
    rw [hsig, htw]
    clear e0 e1 e2 e3 hsig htw
    cases t0 : ((s.extract k (k + 2)).toList == [60, 62]) with
    | true => exact rsign_0 s k w hs h2 t0
    | false =>
    cases t1 : ((s.extract k (k + 2)).toList == [60, 61]) with
    | true => exact rsign_1 s k w hs h2 t0 t1
    | false =>
    cases t2 : ((s.extract k (k + 2)).toList == [62, 61]) with
    | true => exact rsign_2 s k w hs h2 t0 t1 t2
    | false =>
    cases t3 : ((s.extract k (k + 2)).toList == [124, 124]) with
    | true => exact rsign_3 s k w hs h2 t0 t1 t2 t3
    | false => exact rsign_no2 s k w hs hk h2 t0 t1 t2 t3 _ rfl
  · have hd : s.data.toList.drop k = [s[k]] := by rw [drop_at s k hk, List.drop_eq_nil_of_le (by simp; omega)]
    rw [hd]
    exact rsign_one s k w hs hk h2 _ rfl
end Go.Proofs.Ythmihhjpilpcpaa

/- row: a value as bytes. -/
import Derived.Test.YtacbhkmkknicoaaDoorBa
import Derived.Laws.BitsAllLaws
import Derived.Deep.DeepCutAuto
namespace Go.Proofs.YtacbhkmkknicoaaDoor
open Go.RowKit
set_option linter.unusedSimpArgs false
set_option linter.unusedVariables false
attribute [local go_sem] Rg.leads_value Rg.leads_skip Rg.leads_enter Rg.brings_value Rg.brings_skip Rg.brings_enter Rg.bringsG_value Rg.bringsG_enter
/-- a number's eight bytes -/
def be8 (m : Int) : List Int := [m / 72057594037927936 % 256, m / 281474976710656 % 256, m / 1099511627776 % 256, m / 4294967296 % 256, m / 16777216 % 256, m / 65536 % 256, m / 256 % 256, m % 256]
def esc (l : List UInt8) : List Int := l.flatMap fun b => if b = 0 then [0, 255] else [(b.toNat : Int)]
def trb (b : Bool) : Int := if b then 1 else 0
def encT (s : ByteArray) : List Int := 2 :: (esc s.data.toList ++ [0, 0])
def encV (v : V) : List Int := if v.t = 1 then 1 :: be8 (v.n + 9223372036854775808) else if v.t = 2 then encT v.s else if v.t = 3 then [3, trb v.b] else [0]
def joinV (l : List V) : List Int := l.flatMap encV
def okI (n : Int) : Prop := -9223372036854775808 ≤ n ∧ n ≤ 9223372036854775807
theorem xor_top_low (a : Nat) (h : a < 9223372036854775808) : a ^^^ 9223372036854775808 = a + 9223372036854775808 := by
  apply Nat.eq_of_testBit_eq
  intro i
  rw [Nat.testBit_xor, show (9223372036854775808 : Nat) = 2 ^ 63 from rfl, Nat.testBit_two_pow, Nat.add_comm]
  rcases Nat.lt_trichotomy i 63 with h1 | h1 | h1
  · rw [Nat.testBit_two_pow_add_gt h1]
    have : (decide (63 = i)) = false := by simp; omega
    rw [this, Bool.xor_false]
  · subst h1
    rw [Nat.testBit_two_pow_add_eq, Nat.testBit_lt_two_pow h]
    simp
  · have p1 : (2 : Nat) ^ 64 ≤ 2 ^ i := Nat.pow_le_pow_right (by decide) (by omega)
    have p2 : (2 : Nat) ^ 64 = 18446744073709551616 := rfl
    have p3 : (2 : Nat) ^ 63 = 9223372036854775808 := rfl
    rw [p2] at p1
    have e1 : a.testBit i = false := Nat.testBit_lt_two_pow (by omega)
    have e2 : (2 ^ 63 + a).testBit i = false := Nat.testBit_lt_two_pow (by rw [p3]; omega)
    rw [e1, e2]
    simp; omega
theorem xor_top {n : Int} (h : okI n) : bits .xor .u64 (IntKind.u64.wrap n) 9223372036854775808 = n + 9223372036854775808 := by
  obtain ⟨h1, h2⟩ := h
  rw [uwrap]
  obtain ⟨a, ha⟩ : ∃ a : Nat, n % 18446744073709551616 = (a : Int) := ⟨(n % 18446744073709551616).toNat, by omega⟩
  rw [ha]
  have := u64_xor_nat a 9223372036854775808 (by omega) (by omega)
  rw [show ((9223372036854775808 : Nat) : Int) = 9223372036854775808 from rfl] at this
  rw [this]
  by_cases hn : 0 ≤ n
  · have : a < 9223372036854775808 := by omega
    rw [xor_top_low a this]
    omega
  · have hb : a - 9223372036854775808 < 9223372036854775808 := by omega
    have e : a = (a - 9223372036854775808) ^^^ 9223372036854775808 := by rw [xor_top_low _ hb]; omega
    have e2 : a ^^^ 9223372036854775808 = a - 9223372036854775808 := by
      conv => lhs; rw [e]
      rw [Nat.xor_assoc, Nat.xor_self, Nat.xor_zero]
    rw [e2]
    omega
theorem own_cap {w : World} {base n size c : Nat} {e : TypeId} {v : Value} {oa : Option Addr} {xs : List Value} (h : w.ownsRow base e size v n xs) (hv : v = .slice oa n c) : n ≤ c := by
  rcases h.2 with ⟨rfl, h0⟩ | ⟨g, cap, cur, rfl, _, _, hc, _⟩
  · omega
  · cases hv; exact hc
/-- bytes come back, in memory old or new -/
def RetB (l : List Int) (w : World) (e : Ending) (w' : World) : Prop := ∃ oa c, e = .returned (.slice oa l.length c) ∧ l.length ≤ c ∧ BAt w' oa l ∧ Gr w w'
theorem truth_any (b : Bool) (w : World) : Calls Tryd.prog 67 #[.bool b] w fun e w' => e = .returned (.int .u8 (trb b)) ∧ w' = w := by
  go_enter Tryd.func67, Tryd.ntmps67
  cases b <;> go_wp2 <;> go_ret <;> exact ⟨rfl, rfl⟩
theorem bat_of {w : World} {g : Nat} {l : List Int} (hb : g < w.heap.size) (h : ∀ k (hk : k < l.length), w.cell? ⟨g, k, none⟩ = some (.int .u8 l[k])) : BAt w (some ⟨g, 0, none⟩) l :=
  .inr ⟨g, 0, rfl, hb, fun k hk j u hu => by
    match j, hu with
    | 0, hu => simp [bF] at hu; subst hu; have := h k hk; simpa using this
    | j + 1, hu => simp [bF] at hu⟩
theorem bat_new (w : World) (l : List Int) : BAt (w.alloc (.cells (l.map (Value.int .u8)).toArray 5)) (some ⟨w.heap.size, 0, none⟩) l := by
  refine bat_of (by simp) fun k hk => ?_
  rw [Rg.blk_cells (heap_alloc_new _ _) k]
  simp [List.getElem?_eq_getElem hk]
set_option maxHeartbeats 4000000 in
set_option maxRecDepth 100000 in
theorem enc_int (n : Int) (s : ByteArray) (b : Bool) (w : World) (hn : okI n) : Calls Tryd.prog 56 #[.agg #[.int .i64 1, .int .i64 n, .string s, .bool b]] w (RetB (1 :: be8 (n + 9223372036854775808)) w) := by
  have hx := xor_top hn
  obtain ⟨m, hm⟩ : ∃ m, n + 9223372036854775808 = m := ⟨_, rfl⟩
  rw [hm] at hx ⊢
  clear hm
  go_enter Tryd.func56, Tryd.ntmps56
  go_wp2_with fail
  refine wp_loop_rounds 9 ?_
  rw [rounds_succ]
  go_wp2_with fail
  clear hx hn
  iterate 8 (rw [rounds_succ]; go_wp2_with fail)
  go_ret
  refine ⟨_, _, rfl, by simp [be8], ?_, ((Gr.refl _).alloc _).alloc _⟩
  have h := bat_new (w.alloc (Obj.cells #[.int .i64 1, .int .i64 n, .string s, .bool b] 32)) (1 :: be8 m)
  rw [World.size_alloc] at h
  exact h
theorem esc_len (l : List UInt8) : (esc l).length ≤ 2 * l.length := by
  induction l with
  | nil => simp [esc]
  | cons b r ih =>
    have e : esc (b :: r) = (if b = 0 then [0, 255] else [(b.toNat : Int)]) ++ esc r := by simp [esc]
    rw [e, List.length_append, List.length_cons]
    have : (if b = 0 then [0, 255] else [(b.toNat : Int)]).length ≤ 2 := by split <;> simp
    omega
theorem esc_take {l : List UInt8} {k : Nat} (h : k < l.length) : esc (l.take (k + 1)) = esc (l.take k) ++ if l[k] = 0 then [0, 255] else [(l[k].toNat : Int)] := by
  unfold esc
  rw [List.take_add_one, List.getElem?_eq_getElem h, List.flatMap_append]
  simp
theorem esc_takeS {s : ByteArray} {k : Nat} (h : k < s.size) : esc (s.data.toList.take (k + 1)) = esc (s.data.toList.take k) ++ if s[k]'h = 0 then [0, 255] else [((s[k]'h).toNat : Int)] := by
  have hd : k < s.data.toList.length := by simpa using h
  rw [esc_take hd]
  have hex : s.data.toList[k]'hd = s[k]'h := by simp [ByteArray.getElem_eq_getElem_data]
  rw [hex]
theorem enc_len_take (s : ByteArray) (k : Nat) : (esc (s.data.toList.take k)).length ≤ 2 * s.size := by
  refine Nat.le_trans (esc_len _) ?_
  have : (s.data.toList.take k).length ≤ s.size := by
    rw [List.length_take]
    have : s.data.toList.length = s.size := by simp
    omega
  omega
/-- the text's bytes so far -/
def EtRel (w : World) (s : ByteArray) (s6 s38 : Value) (wr : World) : Prop := ∃ k : Nat, s38 = .int .i64 (k : Int) ∧ k ≤ s.size ∧ wr.ownsRow w.heap.size 5 1 s6 (2 :: esc (s.data.toList.take k)).length (cellsF bF (2 :: esc (s.data.toList.take k))) ∧ Gr w wr ∧ Ty 32 wr w.heap.size ∧ wr.cell? ⟨w.heap.size, 2, none⟩ = some (.string s)
set_option maxHeartbeats 4000000 in
set_option maxRecDepth 100000 in
theorem enc_text (n : Int) (s : ByteArray) (b : Bool) (w : World) (hs : 2 * s.size + 3 ≤ 140737488355328) : Calls Tryd.prog 56 #[.agg #[.int .i64 2, .int .i64 n, .string s, .bool b]] w (RetB (encT s) w) := by
  obtain ⟨R, hR⟩ : ∃ R, encT s = R := ⟨_, rfl⟩
  rw [hR]
  have HR := hid hR
  clear hR
  go_enter Tryd.func56, Tryd.ntmps56
  go_upto_region 13 with (fail)
  have hrow0 := World.ownsRow_lit (base := w.heap.size + 1) (e := 5) (size := 1) (w.alloc (.cells #[.int .i64 2, .int .i64 n, .string s, .bool b] 32)) #[.int .u8 2] 1 (by simp) (by decide) rfl
  rw [World.size_alloc] at hrow0
  have hrow0 := own_mono hrow0 (Nat.le_succ _)
  have ty1 : Ty 32 ((w.alloc (.cells #[.int .i64 2, .int .i64 n, .string s, .bool b] 32)).alloc (.cells #[.int .u8 2] 5)) w.heap.size := (Ty.new _ _ _).gr ((Gr.refl _).alloc _)
  have g1 : Gr w ((w.alloc (.cells #[.int .i64 2, .int .i64 n, .string s, .bool b] 32)).alloc (.cells #[.int .u8 2] 5)) := ((Gr.refl _).alloc _).alloc _
  have c1 : ((w.alloc (.cells #[.int .i64 2, .int .i64 n, .string s, .bool b] 32)).alloc (.cells #[.int .u8 2] 5)).cell? ⟨w.heap.size, 2, none⟩ = some (.string s) := by
    refine Gr.keep (w := w.alloc (.cells #[.int .i64 2, .int .i64 n, .string s, .bool b] 32)) ((Gr.refl _).alloc _) ?_
    rw [Rg.blk_cells (heap_alloc_new _ _) 2]; rfl
  generalize (w.alloc (.cells #[.int .i64 2, .int .i64 n, .string s, .bool b] 32)).alloc (.cells #[.int .u8 2] 5) = w2 at *
  have S0 : Hid (EtRel w s (.slice (some ⟨w.heap.size + 1, 0, none⟩) 1 1) (.int .i64 0) w2) := hid ⟨0, rfl, Nat.zero_le _, by simpa [esc, cellsF, bF] using hrow0, g1, ty1, c1⟩
  have zc := lt_of_cell c1
  clear hrow0 g1 ty1
  go_wp2_with fail
  go_loopw [6, 38] (fun s6 s38 wr => EtRel w s s6 s38 wr) (fun _ s38 _ => s.size - (intOf s38).toNat)
  case atStart => exact S0.out
  case round =>
    clear S0 c1 zc
    obtain ⟨k, rfl, hk, hrow, hg, ty1, c1⟩ := hrel
    have zc := lt_of_cell c1
    have HRW := hid hrow
    have hlen := enc_len_take s k
    have hwb := hg.size
    clear hrow
    by_cases hkl : k < s.size
    · have g1 : decide ((s.size : Int) ≤ (k : Int)) = false := by rw [decide_eq_false_iff_not]; omega
      have g2 : (k : Int) < (s.size : Int) := by omega
      have g3 : (0 : Int) ≤ (k : Int) := by omega
      have HT := hid (esc_takeS hkl)
      obtain ⟨i0, hi0, hz0, hz1, hz2⟩ := info_parts b_info
      obtain ⟨l, hl⟩ : ∃ l, 2 :: esc (s.data.toList.take k) = l := ⟨_, rfl⟩
      have HL := hid hl
      have hll : l.length ≤ 2 * s.size + 1 := by rw [← hl]; simp; omega
      have HT2 : Hid (2 :: esc (s.data.toList.take (k + 1)) = l ++ if s[k] = 0 then [0, 255] else [(s[k].toNat : Int)]) := hid (by rw [HT.out, ← hl]; rfl)
      rw [hl] at HRW
      clear hl HT hlen HL
      go_wp2_with (at_builtin; refine wpList_append_own _ rfl _ _ 30 rfl w.heap.size 5 i0 (.int .u8 0) 1 1 Tryd.underlying30 hi0 hz0 hz1 hz2 rfl (by decide) _ _ _ rfl (HRW.out.alloc _) ⟨wr.heap.size, 0, none⟩ 1 1 (cellsF bF [(s[k].toNat : Int)]) rfl rfl ?ma1 ?ma2 ?ma3 ?ma4 ?ma5 ?_)
      case ma1 =>
        intro q u hu
        rw [addN, Nat.zero_add, Rg.blk_cells (heap_alloc_new _ _) q]
        simpa [bF, cellsF] using hu
      case ma2 => exact bE.cells_one _
      case ma3 => unfold maxLen; omega
      case ma4 => omega
      case ma5 => first | omega | (simp; omega)
      intro v1 w3 hown hg8 _
      have G1 := Gz.up (hg.trans ((Gr.refl wr).alloc _)) hg8 (HRW.out.alloc _)
      have ga := Gr.alloc (Gr.refl wr) (.cells #[.int .u8 (s[k].toNat : Int)] 5)
      have TY1 := hid ((ty1.gr ga).gz hg8 ((ty1.gr ga).ne (HRW.out.alloc _) (by decide)))
      have c1 := Gz.cell hg8 (ga.keep c1) (fun g h e => (ty1.gr ga).ne (HRW.out.alloc _) (by decide) (by rw [h, e]))
      have zc := lt_of_cell c1
      have HR1 : Hid (w3.ownsRow w.heap.size 5 1 v1 (l ++ [(s[k].toNat : Int)]).length (cellsF bF (l ++ [(s[k].toNat : Int)]))) := hid (by rw [List.length_append, cellsF_append]; exact hown)
      clear hown hg8 HRW hg hwb ga ty1
      by_cases h0 : s[k] = 0
      · have q0 : ((s[k].toNat : Int) == 0) = true := by rw [h0]; rfl
        have HT3 : Hid (2 :: esc (s.data.toList.take (k + 1)) = (l ++ [(s[k].toNat : Int)]) ++ [255]) := hid (by rw [HT2.out, if_pos h0, h0]; simp)
        have hl2 : (l ++ [(s[k].toNat : Int)]).length ≤ 2 * s.size + 2 := by rw [List.length_append]; simp; omega
        clear HT2 h0 hll
        generalize l ++ [(s[k].toNat : Int)] = l2 at *
        have hwb := G1.size
        go_wp2_with (at_builtin; refine wpList_append_own _ rfl _ _ 30 rfl w.heap.size 5 i0 (.int .u8 0) 1 1 Tryd.underlying30 hi0 hz0 hz1 hz2 rfl (by decide) _ _ _ rfl (HR1.out.alloc _) ⟨w3.heap.size, 0, none⟩ 1 1 (cellsF bF [255]) rfl rfl ?mb1 ?mb2 ?mb3 ?mb4 ?mb5 ?_)
        case mb1 =>
          intro q u hu
          rw [addN, Nat.zero_add, Rg.blk_cells (heap_alloc_new _ _) q]
          simpa [bF, cellsF] using hu
        case mb2 => exact bE.cells_one _
        case mb3 => unfold maxLen; omega
        case mb4 => omega
        case mb5 => first | omega | (simp; omega)
        intro v2 w4 hown hg8 _
        have G2 := Gz.up (G1.trans ((Gr.refl w3).alloc _)) hg8 (HR1.out.alloc _)
        have ga := Gr.alloc (Gr.refl w3) (.cells #[.int .u8 255] 5)
        have TY2 := (TY1.out.gr ga).gz hg8 ((TY1.out.gr ga).ne (HR1.out.alloc _) (by decide))
        have c2 := Gz.cell hg8 (ga.keep c1) (fun g h e => (TY1.out.gr ga).ne (HR1.out.alloc _) (by decide) (by rw [h, e]))
        have FI : Hid (EtRel w s v2 (.int .i64 ((k : Int) + 1)) w4) := hid ⟨k + 1, by go_num, by omega, by rw [HT3.out, List.length_append, cellsF_append]; exact hown, G2, TY2, c2⟩
        clear hown hg8 G2 ga TY2 c2 HT3 HR1 TY1 G1
        go_wp2
        exact ⟨FI.out, by simp [intOf]; omega⟩
      · have q0 : ((s[k].toNat : Int) == 0) = false := by
          rw [beq_eq_false_iff_ne]
          intro h
          exact h0 (UInt8.toNat_inj.1 (by simpa using h))
        have FI : Hid (EtRel w s v1 (.int .i64 ((k : Int) + 1)) w3) := hid ⟨k + 1, by go_num, by omega, by rw [HT2.out, if_neg h0]; exact HR1.out, G1, TY1.out, c1⟩
        clear HT2 h0 HR1 TY1 G1
        go_wp2
        exact ⟨FI.out, by simp [intOf]; omega⟩
    · obtain rfl : k = s.size := by omega
      have g1 : decide ((s.size : Int) ≤ (s.size : Int)) = true := by rw [decide_eq_true_iff]; omega
      obtain ⟨i0, hi0, hz0, hz1, hz2⟩ := info_parts b_info
      rw [List.take_of_length_le (by simp)] at HRW hlen
      obtain ⟨l, hl⟩ : ∃ l, 2 :: esc s.data.toList = l := ⟨_, rfl⟩
      have hll : l.length ≤ 2 * s.size + 1 := by rw [← hl]; simp; omega
      have HRl : Hid (R = l ++ [0, 0]) := hid (by rw [← HR.out, ← hl]; rfl)
      rw [hl] at HRW
      clear hl hlen HR
      go_wp2_with (at_builtin; refine wpList_append_own _ rfl _ _ 30 rfl w.heap.size 5 i0 (.int .u8 0) 1 1 Tryd.underlying30 hi0 hz0 hz1 hz2 rfl (by decide) _ _ _ rfl (HRW.out.alloc _) ⟨wr.heap.size, 0, none⟩ 2 2 (cellsF bF [0, 0]) rfl rfl ?mc1 ?mc2 ?mc3 ?mc4 ?mc5 ?_)
      case mc1 =>
        intro q u hu
        rw [addN, Nat.zero_add, Rg.blk_cells (heap_alloc_new _ _) q]
        simpa [bF, cellsF] using hu
      case mc2 => exact bE.cells_one _
      case mc3 => unfold maxLen; omega
      case mc4 => omega
      case mc5 => first | omega | (simp; omega)
      intro v1 w3 hown hg8 _
      have G1 := Gz.up (hg.trans ((Gr.refl wr).alloc _)) hg8 (HRW.out.alloc _)
      have hown2 : w3.ownsRow w.heap.size 5 1 v1 (l ++ [0, 0]).length (cellsF bF (l ++ [0, 0])) := by rw [List.length_append, cellsF_append]; exact hown
      have FI : Hid (∃ oa c, v1 = .slice oa R.length c ∧ R.length ≤ c ∧ BAt w3 oa R) := hid (by
        obtain ⟨oa, c, e, hat, hle⟩ := own_at0 bE hown2
        rw [HRl.out]
        exact ⟨oa, c, e, own_cap hown2 e, hat⟩)
      clear hown hown2 hg8 HRW hg hwb HRl
      go_wp2
      go_ret
      obtain ⟨oa, c, rfl, hle, hat⟩ := FI.out
      exact ⟨oa, c, rfl, hle, hat, G1⟩
set_option maxHeartbeats 4000000 in
set_option maxRecDepth 100000 in
theorem enc_bool (n : Int) (s : ByteArray) (b : Bool) (w : World) : Calls Tryd.prog 56 #[.agg #[.int .i64 3, .int .i64 n, .string s, .bool b]] w (RetB [3, trb b] w) := by
  go_enter Tryd.func56, Tryd.ntmps56
  go_wp2_with fail
  refine (truth_any b _).mono ?_
  rintro e w1 ⟨rfl, rfl⟩
  go_wp2
  go_ret
  refine ⟨_, _, rfl, Nat.le_refl _, ?_, ((Gr.refl _).alloc _).alloc _⟩
  have h := bat_new (w.alloc (Obj.cells #[.int .i64 3, .int .i64 n, .string s, .bool b] 32)) [3, trb b]
  rw [World.size_alloc] at h
  exact h
set_option maxHeartbeats 4000000 in
set_option maxRecDepth 100000 in
theorem enc_null (t n : Int) (s : ByteArray) (b : Bool) (w : World) (h1 : t ≠ 1) (h2 : t ≠ 2) (h3 : t ≠ 3) : Calls Tryd.prog 56 #[.agg #[.int .i64 t, .int .i64 n, .string s, .bool b]] w (RetB [0] w) := by
  have q1 : (t == 1) = false := by simpa using h1
  have q2 : (t == 2) = false := by simpa using h2
  have q3 : (t == 3) = false := by simpa using h3
  clear h1 h2 h3
  go_enter Tryd.func56, Tryd.ntmps56
  go_wp2
  go_ret
  refine ⟨_, _, rfl, Nat.le_refl _, ?_, ((Gr.refl _).alloc _).alloc _⟩
  have h := bat_new (w.alloc (Obj.cells #[.int .i64 t, .int .i64 n, .string s, .bool b] 32)) [0]
  rw [World.size_alloc] at h
  exact h
/-- key.Encode -/
theorem enc_any (v : V) (w : World) (hn : okI v.n) (hs : 2 * v.s.size + 3 ≤ 140737488355328) : Calls Tryd.prog 56 #[v.val] w (RetB (encV v) w) := by
  obtain ⟨t, n, s, b⟩ := v
  unfold encV
  simp only
  by_cases h1 : t = 1
  · subst h1; rw [if_pos rfl]; exact enc_int n s b w hn
  · rw [if_neg h1]
    by_cases h2 : t = 2
    · subst h2; rw [if_pos rfl]; exact enc_text n s b w hs
    · rw [if_neg h2]
      by_cases h3 : t = 3
      · subst h3; rw [if_pos rfl]; exact enc_bool n s b w
      · rw [if_neg h3]; exact enc_null t n s b w h1 h2 h3
end Go.Proofs.YtacbhkmkknicoaaDoor

/- key.Encode: a value's bytes. -/
import Derived.Test.YtefdkpfndjlpgaaDoorEo
import Derived.Test.YtefdkpfndjlpgaaDoorSs
namespace Go.Proofs.YtefdkpfndjlpgaaDoor
open Go.RowKit
set_option linter.unusedSimpArgs false
set_option linter.unusedVariables false
/-- bytes in a block -/
def BytesAt (w : World) (g : Nat) (l : List UInt8) : Prop := ∀ k (h : k < l.length), w.cell? ⟨g, k, none⟩ = some (.int .u8 l[k].toNat)
theorem BytesAt.keep {w w' : World} {g : Nat} {l : List UInt8} (h : BytesAt w g l) (hg : Gr w w') : BytesAt w' g l := fun k hk => hg.keep (h k hk)
/-- what Encode leaves -/
def EncPost (w : World) (l : List UInt8) (e : Ending) (w' : World) : Prop := ∃ g cap, e = .returned (.slice (some ⟨g, 0, none⟩) l.length cap) ∧ BytesAt w' g l ∧ Gr w w' ∧ w.heap.size ≤ g
theorem bytes_new (W : World) (l : List UInt8) : BytesAt (W.alloc (.cells (l.map fun c => Value.int .u8 c.toNat).toArray 5)) W.heap.size l := fun k hk => by
  rw [cell_of_row _ _ _ _ _ _ (heap_alloc_new W _)]
  simp [List.getElem?_eq_getElem hk]
set_option maxHeartbeats 1000000 in
set_option maxRecDepth 100000 in
theorem enc_bool (n : Int) (s : ByteArray) (b : Bool) (w : World) : Calls Tryd.prog 32 #[.agg #[.int .i64 3, .int .i64 n, .string s, .bool b]] w (EncPost w (Eo.encB b)) := by
  have K := fun W => ktruth_any b W
  cases b
  all_goals
    go_enter Tryd.func32, Tryd.ntmps32
    go_wp2_with fail
    refine (K _).mono ?_
    rintro e w' ⟨rfl, rfl⟩
    go_wp2
    go_ret
  · exact ⟨_, _, rfl, by have h := bytes_new (w.alloc (.cells #[.int .i64 3, .int .i64 n, .string s, .bool false] 23)) (Eo.encB false); rw [World.size_alloc] at h; exact h, ((Gr.refl w).alloc _).alloc _, by simp⟩
  · exact ⟨_, _, rfl, by have h := bytes_new (w.alloc (.cells #[.int .i64 3, .int .i64 n, .string s, .bool true] 23)) (Eo.encB true); rw [World.size_alloc] at h; exact h, ((Gr.refl w).alloc _).alloc _, by simp⟩
/-- the bytes of a number as they stand behind k rounds -/
def part8 (N k : Nat) : List UInt8 := (1 :: Eo.be 8 N).take (k + 1) ++ List.replicate (8 - k) 0
theorem be_get (N j : Nat) (h : j < 8) (hN : N < 18446744073709551616) : (Eo.be 8 N)[j]? = some (UInt8.ofNat (N / 2 ^ (56 - 8 * j) % 256)) := by
  match j, h with
  | 0, _ => rfl
  | 1, _ => simp [Eo.be]; try (congr 1; omega)
  | 2, _ => simp [Eo.be]; try (congr 1; omega)
  | 3, _ => simp [Eo.be]; try (congr 1; omega)
  | 4, _ => simp [Eo.be]; try (congr 1; omega)
  | 5, _ => simp [Eo.be]; try (congr 1; omega)
  | 6, _ => simp [Eo.be]; try (congr 1; omega)
  | 7, _ => simp [Eo.be]; try (congr 1; omega)
theorem put8 (L : List UInt8) (hl : L.length = 8) (k : Nat) (h : k < 8) (x : UInt8) (hx : L[k]? = some x) : ((1 :: L).take (k + 1) ++ List.replicate (8 - k) 0).set (k + 1) x = (1 :: L).take (k + 2) ++ List.replicate (7 - k) 0 := by
  match L, hl with
  | [a, b, c, d, e, f, g, i], _ =>
    match k, h, hx with
    | 0, _, hx | 1, _, hx | 2, _, hx | 3, _, hx | 4, _, hx | 5, _, hx | 6, _, hx | 7, _, hx =>
      simp at hx
      subst hx
      rfl
theorem part8_next (N k : Nat) (h : k < 8) (hN : N < 18446744073709551616) : (part8 N k).set (k + 1) (UInt8.ofNat (N / 2 ^ (56 - 8 * k) % 256)) = part8 N (k + 1) := by
  unfold part8
  rw [put8 _ (Eo.be_len 8 N) k h _ (be_get N k h hN), show 8 - (k + 1) = 7 - k by omega]
/-- numbers as cells -/
def u8s (l : List UInt8) : Array Value := (l.map fun c => Value.int .u8 c.toNat).toArray
theorem u8s_set (l : List UInt8) (k : Nat) (x : UInt8) : (u8s l).setIfInBounds k (.int .u8 x.toNat) = u8s (l.set k x) := by
  unfold u8s
  rw [List.setIfInBounds_toArray, List.map_set]
set_option maxHeartbeats 2000000 in
set_option maxRecDepth 100000 in
theorem enc_int (n : Int) (s : ByteArray) (b : Bool) (w : World) (hn : Vl.fitsB n = true) : Calls Tryd.prog 32 #[.agg #[.int .i64 1, .int .i64 n, .string s, .bool b]] w (EncPost w (Eo.encI n)) := by
  have hb := (Vl.fits_iff n).1 hn
  obtain ⟨N, hN⟩ : ∃ N : Nat, N = (n + 9223372036854775808).toNat := ⟨_, rfl⟩
  have hx := Eo.xor_bits n hb.1 hb.2
  have hNn : n + 9223372036854775808 = (N : Int) := by omega
  have hNb : N < 18446744073709551616 := by omega
  have hu := uwrap n
  rw [hNn] at hx
  have HE : Hid (Eo.encI n = 1 :: Eo.be 8 N) := hid (by unfold Eo.encI; rw [hN])
  clear hN hNn hn hb
  go_enter Tryd.func32, Tryd.ntmps32
  go_wp2_with fail
  go_loopw [17] (fun i wr => ∃ k : Nat, i = .int .i64 k ∧ k ≤ 8 ∧ wr = (w.alloc (.cells #[.int .i64 1, .int .i64 n, .string s, .bool b] 23)).alloc (.cells (u8s (part8 N k)) 5)) (fun i _ => 8 - (intOf i).toNat)
  case atStart => exact ⟨0, rfl, by omega, rfl⟩
  case round =>
    obtain ⟨k, rfl, hk, hw⟩ := hrel
    by_cases hlt : k < 8
    · have hlen : (part8 N k).length = 9 := by
        unfold part8
        rw [List.length_append, List.length_take, List.length_cons, Eo.be_len, List.length_replicate]; omega
      have c0 : ∃ x, ((w.alloc (.cells #[.int .i64 1, .int .i64 n, .string s, .bool b] 23)).alloc (.cells (u8s (part8 N k)) 5)).cell? ⟨w.heap.size + 1, 1 + k, none⟩ = some x := by
        have := cell_of_row _ _ (1 + k) _ _ _ (heap_alloc_new (w.alloc (.cells #[.int .i64 1, .int .i64 n, .string s, .bool b] 23)) (.cells (u8s (part8 N k)) 5))
        rw [World.size_alloc] at this
        rw [this]
        exact ⟨_, Array.getElem?_eq_getElem (by unfold u8s; simp [hlen]; omega)⟩
      obtain ⟨x, c0⟩ := c0
      have c1 := frozen_of_row ((w.alloc (.cells #[.int .i64 1, .int .i64 n, .string s, .bool b] 23)).alloc (.cells (u8s (part8 N k)) 5)) (w.heap.size + 1) (1 + k) (u8s (part8 N k)) 5 (by have := heap_alloc_new (w.alloc (.cells #[.int .i64 1, .int .i64 n, .string s, .bool b] 23)) (.cells (u8s (part8 N k)) 5); rwa [World.size_alloc] at this)
      rw [← hw] at c0 c1
      have hz : w.heap.size + 1 < _ := World.block_lt_of_cell? _ _ c0
      have Hw := hid hw
      clear hw hlen
      go_wp2
      refine ⟨⟨k + 1, by go_num, by omega, ?_⟩, by simp [intOf]; omega⟩
      have hv : (N : Int) / 2 ^ (56 - 8 * k) % 256 = ((UInt8.ofNat (N / 2 ^ (56 - 8 * k) % 256)).toNat : Int) := by
        rw [UInt8.toNat_ofNat', Nat.mod_eq_of_lt (a := N / 2 ^ (56 - 8 * k) % 256) (Nat.mod_lt _ (by decide)), Int.natCast_emod, Int.natCast_ediv, Int.natCast_pow]; rfl
      rw [Hw.out, World.setCell_alloc_at _ _ _ _ _ (by simp), hv, u8s_set, Nat.add_comm 1 k, part8_next N k hlt hNb]
    · obtain rfl : k = 8 := by omega
      subst hw
      go_wp2
      go_ret
      have e8 : part8 N 8 = Eo.encI n := by
        rw [HE.out]
        unfold part8
        rw [List.take_of_length_le (by rw [List.length_cons, Eo.be_len]; omega), Nat.sub_self, List.replicate_zero, List.append_nil]
      rw [e8]
      have hl9 : (Eo.encI n).length = 9 := by rw [HE.out, List.length_cons, Eo.be_len]
      refine ⟨w.heap.size + 1, 9, by rw [hl9]; rfl, ?_, ((Gr.refl w).alloc _).alloc _, by omega⟩
      have h := bytes_new (w.alloc (.cells #[.int .i64 1, .int .i64 n, .string s, .bool b] 23)) (Eo.encI n)
      rw [World.size_alloc] at h
      exact h
theorem b_info : (Tryd.prog.info? 5).map (fun i => (i.zero, i.size, i.bytes)) = some (some (.int .u8 0), 1, 1) := by kernel_rfl
/-- bytes as cells, in a list -/
def u8l (l : List UInt8) : List Value := l.map fun c => Value.int .u8 c.toNat
theorem u8l_len (l : List UInt8) : (u8l l).length = l.length * 1 := by simp [u8l]
theorem u8l_app (l m : List UInt8) : u8l (l ++ m) = u8l l ++ u8l m := by simp [u8l]
theorem u8l_one (l : List UInt8) : ∀ u ∈ u8l l, u.oneCell' = true := by
  intro u hu
  obtain ⟨c, _, rfl⟩ := List.mem_map.1 hu
  rfl
theorem u8l_one' (E : List UInt8) (c : UInt8) : u8l (2 :: E) ++ [Value.int .u8 c.toNat] = u8l (2 :: (E ++ [c])) := by simp [u8l]
theorem u8l_zero (E : List UInt8) : u8l (2 :: E) ++ [Value.int .u8 0, Value.int .u8 255] = u8l (2 :: (E ++ [0, 255])) := by simp [u8l]
theorem own_bytes {w : World} {base g cap : Nat} {l : List UInt8} (h : w.ownsRow base 5 1 (.slice (some ⟨g, 0, none⟩) l.length cap) l.length (u8l l)) : BytesAt w g l := fun k hk => by
  rw [h.cellAt k (by omega)]
  simp [u8l, List.getElem?_eq_getElem hk]
theorem own1_form {w : World} {base n : Nat} {v : Value} {zs : List Value} (h : w.ownsRow base 5 1 v n zs) (hn : 0 < n) : ∃ g cap, v = .slice (some ⟨g, 0, none⟩) n cap ∧ base ≤ g ∧ g < w.heap.size := by
  rcases h.2 with ⟨_, rfl⟩ | ⟨g, cap, cur, rfl, hb, hg, _⟩
  · omega
  · exact ⟨g, cap, rfl, hb, (Array.getElem?_eq_some_iff.1 hg).1⟩
set_option maxHeartbeats 2000000 in
set_option maxRecDepth 100000 in
theorem enc_text (n : Int) (s : ByteArray) (b : Bool) (w : World) (hs : s.size ≤ 1048576) : Calls Tryd.prog 32 #[.agg #[.int .i64 2, .int .i64 n, .string s, .bool b]] w (EncPost w (Eo.encT s.data.toList)) := by
  obtain ⟨i0, hi, hz0, hz1, hz2⟩ := info_parts b_info
  obtain ⟨bx, hbx⟩ : ∃ x : World, x = w.alloc (.cells #[.int .i64 2, .int .i64 n, .string s, .bool b] 23) := ⟨_, rfl⟩
  have hgb : Gr w bx := by rw [hbx]; exact (Gr.refl w).alloc _
  have hbs : bx.heap.size = w.heap.size + 1 := by rw [hbx]; simp
  have d2 : bx.cell? ⟨w.heap.size, 2, none⟩ = some (.string s) := by rw [hbx]; go_simp
  have hlen : s.data.toList.length = s.size := by simp
  have Hlen := hid hlen
  have Hbx := hid hbx
  have hsl : s.data.toList.length ≤ 1048576 := by rw [hlen]; exact hs
  clear hlen hbx
  go_enter Tryd.func32, Tryd.ntmps32
  go_wp2_with fail
  rw [← Hbx.out]
  go_loopw [6, 38] (fun o i wr => ∃ k : Nat, i = .int .i64 k ∧ k ≤ s.size ∧ Hid (wr.ownsRow (w.heap.size + 1) 5 1 o (1 + (Eo.esc (s.data.toList.take k)).length) (u8l (2 :: Eo.esc (s.data.toList.take k)))) ∧ Gr bx wr) (fun _ i _ => s.size - (intOf i).toNat)
  case atStart =>
    refine ⟨0, rfl, Nat.zero_le _, hid ?_, (Gr.refl _).alloc _⟩
    have h := World.ownsRow_lit (base := bx.heap.size) (e := 5) (size := 1) bx #[.int .u8 2] 1 (Nat.le_refl _) (by decide) rfl
    rw [hbs] at h
    exact h
  case round =>
    obtain ⟨k, rfl, hk, hown, hg⟩ := hrel
    have e2 := hg.keep d2
    have hws : w.heap.size < _ := lt_of_cell e2
    have hel := Eo.esc_len (s.data.toList.take k)
    have htk : (s.data.toList.take k).length ≤ k := List.length_take_le _ _
    have hsz := hg.size
    by_cases hlt : k < s.size
    · have Hts : Hid (s.data.toList.take (k + 1) = s.data.toList.take k ++ [s[k]]) := hid (by rw [List.take_succ_eq_append_getElem (by simpa using hlt)]; rfl)
      obtain ⟨c, hc⟩ : ∃ c, c = s[k] := ⟨_, rfl⟩
      have Hes : Hid (Eo.esc (s.data.toList.take (k + 1)) = Eo.esc (s.data.toList.take k) ++ (if c = 0 then [0, 255] else [c])) := hid (by rw [Hts.out, Eo.esc_snoc, hc])
      clear Hts
      generalize Eo.esc (s.data.toList.take k) = E at *
      by_cases hz : c = 0
      · have hcs : ((s[k].toNat : Int) == 0) = true := by rw [← hc, hz]; rfl
        have hc0 : (s[k].toNat : Int) = 0 := by rw [← hc, hz]; rfl
        rw [if_pos hz] at Hes
        clear hc hz
        have Hc0 := hid hc0
        clear hc0
        go_wp2_with (at_builtin; (refine wpList_append_own _ rfl _ _ 51 rfl (w.heap.size + 1) 5 i0 (.int .u8 0) 1 1 Tryd.underlying51 hi hz0 hz1 hz2 rfl (by decide) _ (1 + E.length) _ rfl (hown.out.alloc _) ⟨_, 0, none⟩ 1 1 [.int .u8 ((s[k]'hlt).toNat : Int)] rfl rfl (cell_one _ _ 5 _ rfl) (by intro u hu; simp at hu; first | (obtain rfl := hu; rfl) | (rcases hu with rfl | rfl <;> rfl)) (by unfold maxLen; omega) (by omega) (by simp; omega) ?_))
        intro v2 w2 hown2 hg2 _
        have hg3 : Gr bx w2 := (hg.alloc _).grown hg2 (fun b hb => by rw [hbs]; exact (hown.out.lt b hb).1)
        have Hown2 := hid hown2
        have f2 := hg3.keep d2
        have hws2 : w.heap.size < _ := lt_of_cell f2
        have hsz2 := hg3.size
        clear hown2 hg2 e2 hws
        go_wp2_with (at_builtin; (refine wpList_append_own _ rfl _ _ 51 rfl (w.heap.size + 1) 5 i0 (.int .u8 0) 1 1 Tryd.underlying51 hi hz0 hz1 hz2 rfl (by decide) _ (1 + E.length + 1) _ rfl (Hown2.out.alloc _) ⟨_, 0, none⟩ 1 1 [.int .u8 255] rfl rfl (cell_one _ _ 5 _ rfl) (by intro u hu; simp at hu; first | (obtain rfl := hu; rfl) | (rcases hu with rfl | rfl <;> rfl)) (by unfold maxLen; omega) (by omega) (by simp; omega) ?_))
        intro v3 w3 hown3 hg4 _
        have hg5 : Gr bx w3 := (hg3.alloc _).grown hg4 (fun b hb => by rw [hbs]; exact (Hown2.out.lt b hb).1)
        have Hown3 := hid hown3
        clear hown3 hg4
        go_wp2
        refine ⟨⟨k + 1, by go_num, by omega, hid ?_, hg5⟩, by simp [intOf]; omega⟩
        have h := Hown3.out
        rw [Hc0.out, u8l_zero] at h
        rw [Hes.out, List.length_append]
        exact h
      · have hcs : ((s[k].toNat : Int) == 0) = false := by
          rw [← hc]
          have : c.toNat ≠ 0 := fun e => hz (by apply UInt8.toNat_inj.1; simpa using e)
          simpa using this
        rw [if_neg hz, hc] at Hes
        clear hc hz
        go_wp2_with (at_builtin; (refine wpList_append_own _ rfl _ _ 51 rfl (w.heap.size + 1) 5 i0 (.int .u8 0) 1 1 Tryd.underlying51 hi hz0 hz1 hz2 rfl (by decide) _ (1 + E.length) _ rfl (hown.out.alloc _) ⟨_, 0, none⟩ 1 1 [.int .u8 ((s[k]'hlt).toNat : Int)] rfl rfl (cell_one _ _ 5 _ rfl) (by intro u hu; simp at hu; first | (obtain rfl := hu; rfl) | (rcases hu with rfl | rfl <;> rfl)) (by unfold maxLen; omega) (by omega) (by simp; omega) ?_))
        intro v2 w2 hown2 hg2 _
        have hg3 : Gr bx w2 := (hg.alloc _).grown hg2 (fun b hb => by rw [hbs]; exact (hown.out.lt b hb).1)
        have Hown2 := hid hown2
        have f2 := hg3.keep d2
        have hws2 : w.heap.size < _ := lt_of_cell f2
        clear hown2 hg2 e2 hws
        go_wp2
        refine ⟨⟨k + 1, by go_num, by omega, hid ?_, hg3⟩, by simp [intOf]; omega⟩
        have h := Hown2.out
        rw [u8l_one' E] at h
        rw [Hes.out, List.length_append]
        exact h
    · obtain rfl : k = s.size := by omega
      have htl : s.data.toList.take s.size = s.data.toList := List.take_of_length_le (by rw [Hlen.out]; exact Nat.le_refl _)
      rw [htl] at hown hel
      generalize hE : Eo.esc s.data.toList = E at *
      go_wp2_with (at_builtin; (refine wpList_append_own _ rfl _ _ 51 rfl (w.heap.size + 1) 5 i0 (.int .u8 0) 1 1 Tryd.underlying51 hi hz0 hz1 hz2 rfl (by decide) _ (1 + E.length) _ rfl (hown.out.alloc _) ⟨_, 0, none⟩ 2 2 [.int .u8 0, .int .u8 0] rfl rfl (cell_one _ _ 5 _ rfl) (by intro u hu; simp at hu; first | (obtain rfl := hu; rfl) | (rcases hu with rfl | rfl <;> rfl)) (by unfold maxLen; omega) (by omega) (by simp; omega) ?_))
      intro v2 w2 hown2 hg2 _
      have hg3 : Gr bx w2 := (hg.alloc _).grown hg2 (fun b hb => by rw [hbs]; exact (hown.out.lt b hb).1)
      have hown3 : w2.ownsRow (w.heap.size + 1) 5 1 v2 (1 + E.length + 2) (u8l (2 :: E) ++ [.int .u8 0, .int .u8 0]) := hown2
      obtain ⟨g, cap, rfl, hb1, hb2⟩ := own1_form hown3 (by omega)
      have hl : (Eo.encT s.data.toList).length = 1 + E.length + 2 := by unfold Eo.encT; rw [hE]; simp; omega
      have he : u8l (2 :: E) ++ [.int .u8 0, .int .u8 0] = u8l (Eo.encT s.data.toList) := by unfold Eo.encT; rw [hE]; simp [u8l]
      rw [he, ← hl] at hown3
      have Hown3 := hid hown3
      have Hl := hid hl
      clear hown2 hown3 hg2 he hl hE
      go_wp2
      go_ret
      exact ⟨g, cap, by rw [Hl.out]; rfl, own_bytes Hown3.out, hgb.trans hg3, by omega⟩
end Go.Proofs.YtefdkpfndjlpgaaDoor

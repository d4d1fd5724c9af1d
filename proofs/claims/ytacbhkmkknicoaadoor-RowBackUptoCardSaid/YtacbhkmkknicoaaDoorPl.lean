/- row: values that were written are read as they were, and bytes that were read are those that would be written: plain. -/
import Derived.Test.YtacbhkmkknicoaaDoorSp
namespace Go.Proofs.YtacbhkmkknicoaaDoor
open Go.RowKit
set_option linter.unusedSimpArgs false
set_option linter.unusedVariables false
/-- a clean value -/
def Cl (v : V) : Prop := v = nul ∨ (∃ n, v = numV n ∧ okI n) ∨ (∃ s, v = textV s) ∨ ∃ b, v = boolV b
theorem u8_be (m : Int) (h0 : 0 ≤ m) (h1 : m < 18446744073709551616) : u8v (be8 m) = m := by
  simp only [u8v, be8, List.foldl_cons, List.foldl_nil]
  omega
theorem be_u8 {l : List Int} (hl : l.length = 8) (hb : byteI l) : be8 (u8v l) = l ∧ 0 ≤ u8v l ∧ u8v l < 18446744073709551616 := by
  match l, hl with
  | [a, b, c, d, e, f, g, h], _ =>
    have ha := hb a (by simp)
    have hb' := hb b (by simp)
    have hc := hb c (by simp)
    have hd := hb d (by simp)
    have he := hb e (by simp)
    have hf := hb f (by simp)
    have hg := hb g (by simp)
    have hh := hb h (by simp)
    simp only [u8v, be8, List.foldl_cons, List.foldl_nil, List.cons.injEq, and_true]
    omega
theorem txt_cons (b : Int) (r : List Int) (hr : r ≠ []) (hb : b ≠ 0) : txt (b :: r) = (txt r).map fun p => (b :: p.1, p.2 + 1) := by
  match r, hr with
  | c :: r, _ => simp only [txt, if_neg hb]
theorem txt_enc : ∀ (l : List UInt8) (r : List Int), txt (esc l ++ 0 :: 0 :: r) = some (l.map (fun b => (b.toNat : Int)), (esc l).length + 2)
  | [], r => by simp [esc, txt]
  | b :: l, r => by
    have ih := txt_enc l r
    by_cases hb : b = 0
    · have e : esc (b :: l) = 0 :: 255 :: esc l := by subst hb; simp [esc]
      rw [e]
      simp only [List.cons_append, txt, if_true, ih, Option.map_some, List.map_cons, List.length_cons]
      subst hb
      simp
    · have e : esc (b :: l) = (b.toNat : Int) :: esc l := by simp [esc, hb]
      have hb0 : (b.toNat : Int) ≠ 0 := by
        intro h
        apply hb
        have : b.toNat = 0 := by omega
        exact UInt8.toNat_inj.1 (by simpa using this)
      rw [e, List.cons_append, txt_cons _ _ (by simp) hb0, ih]
      simp
theorem nums_back (s : ByteArray) : strOfNums (s.data.toList.map fun b => (b.toNat : Int)) = s := by
  unfold strOfNums
  rw [List.map_map]
  have : ((fun n : Int => UInt8.ofNat n.toNat) ∘ fun b : UInt8 => (b.toNat : Int)) = id := by
    funext b; simp
  rw [this, List.map_id]
theorem dec_enc {v : V} (h : Cl v) (r : List Int) : decV (encV v ++ r) = some (v, (encV v).length) := by
  rcases h with rfl | ⟨n, rfl, hn⟩ | ⟨s, rfl⟩ | ⟨b, rfl⟩
  · simp [encV, nul, decV]
  · have e : encV (numV n) = 1 :: be8 (n + 9223372036854775808) := by simp [encV, numV]
    have hl : (be8 (n + 9223372036854775808)).length = 8 := rfl
    have ht : (be8 (n + 9223372036854775808) ++ r).take 8 = be8 (n + 9223372036854775808) := by
      rw [List.take_append_of_le_length (by omega), List.take_of_length_le (by omega)]
    have hu := u8_be (n + 9223372036854775808) (by have := hn.1; omega) (by have := hn.2; omega)
    rw [e, List.cons_append]
    simp only [decV]
    rw [if_neg (by decide), if_pos trivial, if_pos (by simp [hl]), ht, hu, show n + 9223372036854775808 - 9223372036854775808 = n by omega]
    simp [hl]
  · have e : encV (textV s) = 2 :: (esc s.data.toList ++ [0, 0]) := by simp [encV, textV, encT]
    rw [e, List.cons_append, List.append_assoc]
    simp only [decV]
    rw [if_neg (by decide), if_neg (by decide), if_pos trivial]
    show (txt (esc s.data.toList ++ 0 :: 0 :: r)).map _ = _
    rw [txt_enc]
    simp only [Option.map_some, nums_back]
    simp
  · cases b <;> simp [encV, boolV, decV, trb]
theorem txt_back : ∀ {r : List Int} {p : List Int × Nat}, byteI r → txt r = some p → esc (strOfNums p.1).data.toList ++ [0, 0] = r.take p.2
  | [], p, hb, h => by simp [txt] at h
  | [b], p, hb, h => by
    unfold txt at h
    split at h <;> cases h
  | b :: c :: r, p, hb, h => by
    unfold txt at h
    have h1 := hb b (by simp)
    have hbr : byteI r := fun x hx => hb x (by simp [hx])
    have hbc : byteI (c :: r) := fun x hx => hb x (List.mem_cons_of_mem _ hx)
    split at h
    · rename_i hb0
      split at h
      · rename_i hc
        cases hr : txt r with
        | none => rw [hr] at h; cases h
        | some q =>
          rw [hr] at h
          have ih := txt_back hbr hr
          simp at h
          subst h hb0 hc
          rw [strOfNums_data] at ih ⊢
          simp only [List.map_cons, List.take_succ_cons]
          rw [← ih]
          simp [esc]
      · split at h
        · rename_i hc
          cases h
          subst hb0 hc
          simp [strOfNums_data, esc]
        · cases h
    · rename_i hb0
      cases hr : txt (c :: r) with
      | none => rw [hr] at h; cases h
      | some q =>
        rw [hr] at h
        have ih := txt_back hbc hr
        simp at h
        subst h
        rw [strOfNums_data] at ih ⊢
        simp only [List.map_cons, List.take_succ_cons]
        rw [← ih]
        have e0 : UInt8.ofNat b.toNat ≠ 0 := by
          intro e
          have := congrArg UInt8.toNat e
          simp at this
          omega
        have e1 : ((UInt8.ofNat b.toNat).toNat : Int) = b := by
          simp; omega
        simp only [esc, List.flatMap_cons, if_neg e0, e1]
        rfl
theorem dec_back {b : List Int} {v : V} {n : Nat} (hb : byteI b) (h : decV b = some (v, n)) : Cl v ∧ encV v = b.take n := by
  match b with
  | [] => cases h
  | y :: r =>
    have hbr : byteI r := fun x hx => hb x (by simp [hx])
    simp only [decV] at h
    split at h
    · rename_i hy
      cases h
      exact ⟨.inl rfl, by simp [encV, nul, hy]⟩
    · split at h
      · rename_i hy
        split at h
        · rename_i h8
          cases h
          have hb8 : byteI (r.take 8) := fun x hx => hbr x (List.mem_of_mem_take hx)
          obtain ⟨u1, u2, u3⟩ := be_u8 (l := r.take 8) (by simp; omega) hb8
          refine ⟨.inr (.inl ⟨_, rfl, ?_, ?_⟩), ?_⟩
          · omega
          · omega
          · simp only [encV, numV, if_true]
            rw [show u8v (r.take 8) - 9223372036854775808 + 9223372036854775808 = u8v (r.take 8) by omega, u1, hy, List.take_succ_cons]
        · cases h
      · split at h
        · rename_i hy
          cases ht : txt r with
          | none => rw [ht] at h; cases h
          | some p =>
            rw [ht] at h
            have := txt_back hbr ht
            simp at h
            obtain ⟨rfl, rfl⟩ := h
            refine ⟨.inr (.inr (.inl ⟨_, rfl⟩)), ?_⟩
            rw [List.take_succ_cons, ← this, hy]
            simp [encV, textV, encT]
        · split at h
          · rename_i hy
            match r with
            | [] => cases h
            | c :: r' =>
              simp only at h
              split at h
              · rename_i hc
                cases h
                have := hbr c (by simp)
                refine ⟨.inr (.inr (.inr ⟨_, rfl⟩)), ?_⟩
                have hc2 : c = 0 ∨ c = 1 := by omega
                rcases hc2 with rfl | rfl <;> simp [encV, boolV, trb, hy]
              · cases h
          · cases h
theorem split_back : ∀ (f : Nat) {b : List Int} {l : List V}, b.length ≤ f → byteI b → splitN f b = some l → joinV l = b ∧ ∀ v ∈ l, Cl v
  | 0, b, l, hf, hb, h => by
    cases h
    have : b = [] := List.eq_nil_of_length_eq_zero (by omega)
    subst this
    exact ⟨rfl, fun v hv => by simp at hv⟩
  | f + 1, b, l, hf, hb, h => by
    simp only [splitN] at h
    split at h
    · rename_i h0
      cases h
      exact ⟨by rw [h0]; rfl, fun v hv => by simp at hv⟩
    · cases hd : decV b with
      | none => rw [hd] at h; cases h
      | some p =>
        obtain ⟨v, n⟩ := p
        rw [hd] at h
        simp only at h
        obtain ⟨hc, he⟩ := dec_back hb hd
        have hn := decV_n hd
        cases hs : splitN f (b.drop n) with
        | none => rw [hs] at h; cases h
        | some l' =>
          rw [hs] at h
          cases h
          obtain ⟨i1, i2⟩ := split_back f (by simp; omega) (byte_drop hb n) hs
          refine ⟨?_, fun x hx => ?_⟩
          · show (v :: l').flatMap encV = b
            rw [List.flatMap_cons, he]
            show b.take n ++ joinV l' = b
            rw [i1, List.take_append_drop]
          · rcases List.mem_cons.1 hx with rfl | hx
            · exact hc
            · exact i2 x hx
theorem splitV_back {b : List Int} {l : List V} (hb : byteI b) (h : splitV b = some l) : joinV l = b ∧ ∀ v ∈ l, Cl v := split_back _ (Nat.le_refl _) hb h
theorem encV_pos (v : V) : 1 ≤ (encV v).length := by
  rcases Nat.eq_zero_or_pos (encV v).length with h | h
  · exact absurd (List.eq_nil_of_length_eq_zero h) (encV_ne v)
  · exact h
theorem split_join : ∀ {L : List V}, (∀ v ∈ L, Cl v) → splitV (joinV L) = some L
  | [], _ => rfl
  | v :: L, h => by
    have e : joinV (v :: L) = encV v ++ joinV L := by simp [joinV]
    have hp := encV_pos v
    have hne : joinV (v :: L) ≠ [] := by
      rw [e]; intro h0
      have := congrArg List.length h0
      simp at this
      exact absurd this.1 (encV_ne v)
    rw [splitV_cons hne, e, dec_enc (h v (by simp))]
    simp only
    rw [List.drop_left, split_join (L := L) (fun x hx => h x (by simp [hx]))]
    rfl
theorem join_inj {L M : List V} (h1 : ∀ v ∈ L, Cl v) (h2 : ∀ v ∈ M, Cl v) (h : joinV L = joinV M) : L = M := by
  have a := split_join h1
  rw [h, split_join h2] at a
  exact (Option.some.inj a).symm
/-- no value is longer than all bytes -/
theorem join_mem {l : List V} {v : V} (h : v ∈ l) : (encV v).length ≤ (joinV l).length := by
  obtain ⟨a, b, rfl⟩ := List.append_of_mem h
  have e : joinV (a ++ v :: b) = joinV a ++ (encV v ++ joinV b) := by simp [joinV]
  rw [e, List.length_append, List.length_append]
  omega
theorem len_join : ∀ l : List V, l.length ≤ (joinV l).length
  | [] => Nat.le_refl _
  | v :: l => by
    have := len_join l
    have := encV_pos v
    simp only [joinV, List.flatMap_cons, List.length_append, List.length_cons] at *
    omega
theorem esc_ge : ∀ l : List UInt8, l.length ≤ (esc l).length
  | [] => Nat.le_refl _
  | b :: l => by
    have h0 := esc_ge l
    have e : esc (b :: l) = (if b = 0 then [0, 255] else [(b.toNat : Int)]) ++ esc l := rfl
    rw [e, List.length_append, List.length_cons]
    split <;> simp only [List.length_cons, List.length_nil] <;> omega
theorem cl_text {v : V} (h : Cl v) : v.s.size ≤ (encV v).length ∧ okI v.n := by
  rcases h with rfl | ⟨n, rfl, hn⟩ | ⟨s, rfl⟩ | ⟨b, rfl⟩
  · exact ⟨Nat.zero_le _, by decide, by decide⟩
  · exact ⟨Nat.zero_le _, hn⟩
  · refine ⟨?_, by show (-9223372036854775808 : Int) ≤ 0; omega, by show (0 : Int) ≤ _; omega⟩
    have h0 := esc_ge s.data.toList
    have e : encV (textV s) = 2 :: (esc s.data.toList ++ [0, 0]) := rfl
    rw [e, List.length_cons, List.length_append]
    show s.data.size ≤ _
    rw [Array.length_toList] at h0
    omega
  · exact ⟨Nat.zero_le _, by show (-9223372036854775808 : Int) ≤ 0; omega, by show (0 : Int) ≤ _; omega⟩
end Go.Proofs.YtacbhkmkknicoaaDoor

/- row: merging in place (slices.symMergeCmpFunc) over rows of rows. (By mkSo4.py.) -/
import Derived.Test.YtacbhkmkknicoaaDoorSo3
namespace Go.Proofs.YtacbhkmkknicoaaDoor
open Go.RowKit
set_option linter.unusedSimpArgs false
set_option linter.unusedVariables false
attribute [local go_sem] Rg.leads_value Rg.leads_skip Rg.leads_enter Rg.brings_value Rg.brings_skip Rg.brings_enter Rg.bringsG_value Rg.bringsG_enter Rg.still_value Rg.still_skip Rg.bringsS_value Rg.bringsS_skip Rg.bringsS_enter rwV
/-- halving: the first place at which P ends -/
def bsF (P : Nat → Bool) : Nat → Nat → Nat → Nat
  | 0, i, _ => i
  | f + 1, i, j => if i < j then (if P ((i + j) / 2) = true then bsF P f ((i + j) / 2 + 1) j else bsF P f i ((i + j) / 2)) else i
theorem bsF_bd (P : Nat → Bool) : ∀ (f i j : Nat), i ≤ j → i ≤ bsF P f i j ∧ bsF P f i j ≤ j
  | 0, i, j, h => ⟨Nat.le_refl _, h⟩
  | f + 1, i, j, h => by
    unfold bsF
    split
    · split
      · have := bsF_bd P f ((i + j) / 2 + 1) j (by omega)
        omega
      · have := bsF_bd P f i ((i + j) / 2) (by omega)
        omega
    · omega
/-- the item at a is moved up, the one at m down -/
def mvU (a : Nat) : Nat → List Rw → List Rw
  | 0, d => d
  | n + 1, d => swp (mvU a n d) (a + n) (a + n + 1)
def mvD (m : Nat) : Nat → List Rw → List Rw
  | 0, d => d
  | n + 1, d => swp (mvD m n d) (m - n) (m - n - 1)
theorem mvU_len (a : Nat) : ∀ (n : Nat) (d : List Rw), (mvU a n d).length = d.length
  | 0, d => rfl
  | n + 1, d => by unfold mvU; rw [swp_len, mvU_len a n]
theorem mvD_len (a : Nat) : ∀ (n : Nat) (d : List Rw), (mvD a n d).length = d.length
  | 0, d => rfl
  | n + 1, d => by unfold mvD; rw [swp_len, mvD_len a n]
def sy0 (m b mid : Nat) (a : Nat) : Nat := if mid < m then mid + m - b else a
def sy1 (m mid : Nat) : Nat := if mid < m then mid else m
def syS (d : List Rw) (a m b mid : Nat) : Nat := bsF (fun c => !ltR (gx d (mid + m - 1 - c)) (gx d c)) (sy1 m mid - sy0 m b mid a) (sy0 m b mid a) (sy1 m mid)
/-- a test of two parts: what it leaves in its slots -/
def modT8 (d : Nat) (a : Act) (f : Nat → Value) (b : Value) : Act := (((((((a.put (some d) (f 0)).put (some (d + 1)) (f 1)).put (some (d + 2)) (f 2)).put (some (d + 3)) (f 3)).put (some (d + 4)) (f 4)).put (some (d + 5)) (f 5)).put (some (d + 6)) (f 6)).put (some (d + 7)) b
theorem head8 {P : Program} {c : Code} {Q : Exit → Act → World → Prop} {a : Act} {w : World} (d : Nat) (b : Value) (h : ∀ Q' : Exit → Act → World → Prop, (∀ f : Nat → Value, Q' .normal (modT8 d a f b) w) → c.wp P Q' a w) (h2 : ∀ f : Nat → Value, Q .normal (modT8 d a f b) w) : c.wp P Q a w := h Q h2
theorem nth7 (x0 x1 x2 x3 x4 x5 x6 : Value) : ∃ f : Nat → Value, f 0 = x0 ∧ f 1 = x1 ∧ f 2 = x2 ∧ f 3 = x3 ∧ f 4 = x4 ∧ f 5 = x5 ∧ f 6 = x6 :=
  ⟨fun i => [x0, x1, x2, x3, x4, x5, x6].getD i undef, rfl, rfl, rfl, rfl, rfl, rfl, rfl⟩
/-- merging -/
def symF : Nat → List Rw → Nat → Nat → Nat → List Rw
  | 0, d, _, _, _ => d
  | f + 1, d, a, m, b =>
    if m - a = 1 then mvU a (bsF (fun h => ltR (gx d h) (gx d a)) (b - m) m b - 1 - a) d
    else if b - m = 1 then mvD m (m - bsF (fun h => !ltR (gx d m) (gx d h)) (m - a) a m) d
    else
      let mid := (a + b) / 2
      let st := syS d a m b mid
      let en := mid + m - st
      let d1 := if st < m ∧ m < en then rotF m (en - st) (m - st) (en - m) d else d
      let d2 := if a < st ∧ st < mid then symF f d1 a st mid else d1
      if mid < en ∧ en < b then symF f d2 mid en b else d2
theorem symF_len : ∀ (f : Nat) (d : List Rw) (a m b : Nat), (symF f d a m b).length = d.length
  | 0, _, _, _, _ => rfl
  | f + 1, d, a, m, b => by
    unfold symF
    split
    · rw [mvU_len]
    · split
      · rw [mvD_len]
      · simp only
        have h1 : ∀ x, (if syS d a m b ((a + b) / 2) < m ∧ m < x then rotF m (x - syS d a m b ((a + b) / 2)) (m - syS d a m b ((a + b) / 2)) (x - m) d else d).length = d.length := fun x => by
          split
          · rw [rotF_len]
          · rfl
        split
        · rw [symF_len f]
          split
          · rw [symF_len f, h1]
          · rw [h1]
        · split
          · rw [symF_len f, h1]
          · rw [h1]
set_option maxHeartbeats 16000000 in
set_option maxRecDepth 100000 in
theorem sym_any (base g cap f : Nat) : ∀ (a m b : Nat) (d : List Rw) (w : World), SD base g cap w d → a < m → m < b → b ≤ d.length → d.length ≤ 1000000 → b - a ≤ f →
    Calls Tryd.prog 75 #[.slice (some ⟨g, 0, none⟩) d.length cap, .int .i64 (a : Int), .int .i64 (m : Int), .int .i64 (b : Int), .func (.func 21) #[] #[]] w fun e w' => e = .returned (.tuple #[]) ∧ SD base g cap w' (symF f d a m b) ∧ Go1 g w w' := by
  induction f with
  | zero => intro a m b d w _ h1 h2 _ _ h3; omega
  | succ f ih =>
  intro a m b d w h ham hmb hb hd hf
  have IH := hid ih
  have HS := hid h
  obtain ⟨N, hN⟩ : ∃ N, d.length = N := ⟨_, rfl⟩
  rw [hN] at hb hd ⊢
  have HN := hid hN
  obtain ⟨T, hT⟩ : ∃ T, symF (f + 1) d a m b = T := ⟨_, rfl⟩
  rw [hT]
  unfold symF at hT
  clear h hN ih
  by_cases hma : m - a = 1
  · rw [if_pos hma] at hT
    have g1 : (m : Int) - (a : Int) = 1 := by omega
    obtain ⟨P, hP⟩ : ∃ P : Nat → Bool, (fun h => ltR (gx d h) (gx d a)) = P := ⟨_, rfl⟩
    have HP := hid hP
    rw [hP] at hT
    obtain ⟨R, hR⟩ : ∃ R, bsF P (b - m) m b = R := ⟨_, rfl⟩
    rw [hR] at hT
    have HT := hid hT
    have HI : Hid (∃ (i j fu : Nat), (Value.int .i64 (m : Int)) = .int .i64 (i : Int) ∧ (Value.int .i64 (b : Int)) = .int .i64 (j : Int) ∧ m ≤ i ∧ i ≤ j ∧ j ≤ b ∧ j - i ≤ fu ∧ bsF P fu i j = R ∧ SD base g cap w d ∧ Go1 g w w) := hid ⟨m, b, b - m, rfl, rfl, Nat.le_refl _, by omega, Nat.le_refl _, Nat.le_refl _, hR, HS.out, Go1.of (Gr.refl _)⟩
    clear hP hR hma HS hT
    go_enter Tryd.func75, Tryd.ntmps75
    go_wp2_with fail
    go_loopw [10, 11] (fun si sj wr => ∃ (i j fu : Nat), si = .int .i64 (i : Int) ∧ sj = .int .i64 (j : Int) ∧ m ≤ i ∧ i ≤ j ∧ j ≤ b ∧ j - i ≤ fu ∧ bsF P fu i j = R ∧ SD base g cap wr d ∧ Go1 g w wr) (fun si sj _ => (intOf sj).toNat - (intOf si).toNat)
    case atStart => exact HI.out
    case round =>
      clear HI
      obtain ⟨i, j, fu, rfl, rfl, hmi, hij, hjb, hfu, hbs, hsd, hgo⟩ := hrel
      have HS := hid hsd
      have HG := hid hgo
      have HBS := hid hbs
      clear hsd hgo hbs
      by_cases hlt : i < j
      · have p1 : decide ((i : Int) < (j : Int)) = true := by rw [decide_eq_true_iff]; omega
        have p2 : decide (i < j) = true := by rw [decide_eq_true_iff]; exact hlt
        obtain ⟨fu, rfl⟩ : ∃ x, fu = x + 1 := ⟨fu - 1, by omega⟩
        have HB1 : Hid ((if P ((i + j) / 2) = true then bsF P fu ((i + j) / 2 + 1) j else bsF P fu i ((i + j) / 2)) = R) := hid (by have := HBS.out; unfold bsF at this; rw [if_pos hlt] at this; exact this)
        obtain ⟨h, hh⟩ : ∃ x, (i + j) / 2 = x := ⟨_, rfl⟩
        rw [hh] at HB1
        have hm2 : ((i : Int) + (j : Int)) / 2 = (h : Int) := by omega
        have hhi : i ≤ h ∧ h < j := by omega
        clear hh HBS
        have g4 : (h : Int) < (N : Int) := by omega
        have g5 : (0 : Int) ≤ (h : Int) := by omega
        have g6 : (a : Int) < (N : Int) := by omega
        have g7 : (0 : Int) ≤ (a : Int) := by omega
        have gwh := IntWalk.i64_in (h : Int) (by omega)
        have HPx : Hid (P h = ltR (gx d h) (gx d a)) := hid (by rw [← HP.out])
        have hx0 : h < d.length := by have := HN.out; omega
        have hy0 : a < d.length := by have := HN.out; omega
        have c1 := HS.out.cell h hx0
        have c0 := HS.out.cell a hy0
        have hx := HS.out.ok _ (get_mem! d h hx0)
        have hy := HS.out.ok _ (get_mem! d a hy0)
        have CM : ∀ W, Rg.Up wr W → Calls Tryd.prog 21 #[.slice (gx d h).oa (gx d h).l.length (gx d h).c, .slice (gx d a).oa (gx d a).l.length (gx d a).c] W fun e w' => e = .returned (.int .i64 (cmpR (gx d h).l (gx d a).l)) ∧ Gr W w' := fun W hW => cmp_rw (hx.gr hW) (hy.gr hW)
        obtain ⟨CC, hCC⟩ : ∃ c, cmpR (gx d h).l (gx d a).l = c := ⟨_, rfl⟩
        have HLT : Hid (ltR (gx d h) (gx d a) = decide (CC < 0)) := hid (by rw [← hCC]; rfl)
        rw [hCC] at CM
        have zg := HS.out.lt.2
        clear hx hy hCC hx0 hy0
        by_cases hcc : CC < 0
        · have q1 : decide (CC < 0) = true := by rw [decide_eq_true_iff]; exact hcc
          have HB2 : Hid (bsF P fu (h + 1) j = R) := hid (by have := HB1.out; rw [HPx.out, HLT.out, q1] at this; simpa using this)
          have FI0 : Hid (∀ W, Gr wr W → ∃ (i' j' fu' : Nat), (Value.int .i64 ((h : Int) + 1)) = .int .i64 (i' : Int) ∧ (Value.int .i64 (j : Int)) = .int .i64 (j' : Int) ∧ m ≤ i' ∧ i' ≤ j' ∧ j' ≤ b ∧ j' - i' ≤ fu' ∧ bsF P fu' i' j' = R ∧ SD base g cap W d ∧ Go1 g w W) := hid (fun W hW => ⟨h + 1, j, fu, by first | rfl | go_num, by first | rfl | go_num, by omega, by omega, by omega, by omega, HB2.out, HS.out.gr hW, HG.out.trans (Go1.of hW)⟩)
          clear hcc HB1 HLT HPx HS HG HB2
          go_upto_region 5 with (fail)
          refine Rg.region_text 10 (Below.drew (Below.refl _ _)) (by kernel_rfl) (by kernel_rfl) (fun _ _ d _ _ h => by cases d <;> exact h) ?_
          simp only [List.append_eq, List.cons_append, List.nil_append, List.take_succ_cons, List.take_zero, List.drop_succ_cons, List.drop_zero]
          repeat (first
              | (refine Rg.wpDets_skip (by rfl) ?_; simp only [Act.put, List.setIfInBounds_toArray, List.set_cons_zero, List.set_cons_succ])
              | (refine Rg.wpDets_step ?_ (by rfl) (fun w hS => ?_) ?_
                 rotate_left
                 · have hc := Gr.cells hS
                   have hf := Gr.frees hS
                   go_simp
                   first
                   | (refine ⟨?_, Below.refl _ _⟩; with_reducible rfl)
                   | ((with_reducible refine (CM _ hS).mono ?_); rintro e w' ⟨rfl, hg⟩; refine ⟨?_, hg⟩; with_reducible rfl)
                 simp only [Act.put, List.setIfInBounds_toArray, List.set_cons_zero, List.set_cons_succ]))
          refine Rg.wpDets_nil ?_
          refine Rg.wpFlts_nil ?_
          refine Rg.wpLays_nil ?_
          intro w9 hK
          have hg : Gr _ w9 := hK.up
          have hc := Gr.cells hg
          have hf := Gr.frees hg
          have hz := Gr.size hg
          try simp only [World.size_alloc, World.size_setCell, World.size_drew] at hz
          try have : 0 < w9.heap.size := by omega
          try have : w.heap.size < w9.heap.size := by omega
          try have : w.heap.size + 1 < w9.heap.size := by omega
          try have : w.heap.size + 1 + 1 < w9.heap.size := by omega
          try have : w.heap.size + 1 + 1 + 1 < w9.heap.size := by omega
          try have : w1.heap.size < w9.heap.size := by omega
          try have : w1.heap.size + 1 < w9.heap.size := by omega
          try have : w2.heap.size < w9.heap.size := by omega
          try have : w2.heap.size + 1 < w9.heap.size := by omega
          try have : w3.heap.size < w9.heap.size := by omega
          try have : w3.heap.size + 1 < w9.heap.size := by omega
          try have : w4.heap.size < w9.heap.size := by omega
          try have : w4.heap.size + 1 < w9.heap.size := by omega
          try have : w5.heap.size < w9.heap.size := by omega
          try have : w5.heap.size + 1 < w9.heap.size := by omega
          try have : w6.heap.size < w9.heap.size := by omega
          try have : w6.heap.size + 1 < w9.heap.size := by omega
          try have : w7.heap.size < w9.heap.size := by omega
          try have : w7.heap.size + 1 < w9.heap.size := by omega
          try have : w8.heap.size < w9.heap.size := by omega
          try have : w8.heap.size + 1 < w9.heap.size := by omega
          have FI := hid (FI0.out _ hg)
          clear FI0 CM hg c0 c1
          go_wp2
          exact ⟨FI.out, by simp [intOf]; omega⟩
        · have q1 : decide (CC < 0) = false := by rw [decide_eq_false_iff_not]; exact hcc
          have HB2 : Hid (bsF P fu i h = R) := hid (by have := HB1.out; rw [HPx.out, HLT.out, q1] at this; simpa using this)
          have FI0 : Hid (∀ W, Gr wr W → ∃ (i' j' fu' : Nat), (Value.int .i64 (i : Int)) = .int .i64 (i' : Int) ∧ (Value.int .i64 (h : Int)) = .int .i64 (j' : Int) ∧ m ≤ i' ∧ i' ≤ j' ∧ j' ≤ b ∧ j' - i' ≤ fu' ∧ bsF P fu' i' j' = R ∧ SD base g cap W d ∧ Go1 g w W) := hid (fun W hW => ⟨i, h, fu, by first | rfl | go_num, by first | rfl | go_num, by omega, by omega, by omega, by omega, HB2.out, HS.out.gr hW, HG.out.trans (Go1.of hW)⟩)
          clear hcc HB1 HLT HPx HS HG HB2
          go_upto_region 5 with (fail)
          refine Rg.region_text 10 (Below.drew (Below.refl _ _)) (by kernel_rfl) (by kernel_rfl) (fun _ _ d _ _ h => by cases d <;> exact h) ?_
          simp only [List.append_eq, List.cons_append, List.nil_append, List.take_succ_cons, List.take_zero, List.drop_succ_cons, List.drop_zero]
          repeat (first
              | (refine Rg.wpDets_skip (by rfl) ?_; simp only [Act.put, List.setIfInBounds_toArray, List.set_cons_zero, List.set_cons_succ])
              | (refine Rg.wpDets_step ?_ (by rfl) (fun w hS => ?_) ?_
                 rotate_left
                 · have hc := Gr.cells hS
                   have hf := Gr.frees hS
                   go_simp
                   first
                   | (refine ⟨?_, Below.refl _ _⟩; with_reducible rfl)
                   | ((with_reducible refine (CM _ hS).mono ?_); rintro e w' ⟨rfl, hg⟩; refine ⟨?_, hg⟩; with_reducible rfl)
                 simp only [Act.put, List.setIfInBounds_toArray, List.set_cons_zero, List.set_cons_succ]))
          refine Rg.wpDets_nil ?_
          refine Rg.wpFlts_nil ?_
          refine Rg.wpLays_nil ?_
          intro w9 hK
          have hg : Gr _ w9 := hK.up
          have hc := Gr.cells hg
          have hf := Gr.frees hg
          have hz := Gr.size hg
          try simp only [World.size_alloc, World.size_setCell, World.size_drew] at hz
          try have : 0 < w9.heap.size := by omega
          try have : w.heap.size < w9.heap.size := by omega
          try have : w.heap.size + 1 < w9.heap.size := by omega
          try have : w.heap.size + 1 + 1 < w9.heap.size := by omega
          try have : w.heap.size + 1 + 1 + 1 < w9.heap.size := by omega
          try have : w1.heap.size < w9.heap.size := by omega
          try have : w1.heap.size + 1 < w9.heap.size := by omega
          try have : w2.heap.size < w9.heap.size := by omega
          try have : w2.heap.size + 1 < w9.heap.size := by omega
          try have : w3.heap.size < w9.heap.size := by omega
          try have : w3.heap.size + 1 < w9.heap.size := by omega
          try have : w4.heap.size < w9.heap.size := by omega
          try have : w4.heap.size + 1 < w9.heap.size := by omega
          try have : w5.heap.size < w9.heap.size := by omega
          try have : w5.heap.size + 1 < w9.heap.size := by omega
          try have : w6.heap.size < w9.heap.size := by omega
          try have : w6.heap.size + 1 < w9.heap.size := by omega
          try have : w7.heap.size < w9.heap.size := by omega
          try have : w7.heap.size + 1 < w9.heap.size := by omega
          try have : w8.heap.size < w9.heap.size := by omega
          try have : w8.heap.size + 1 < w9.heap.size := by omega
          have FI := hid (FI0.out _ hg)
          clear FI0 CM hg c0 c1
          go_wp2
          exact ⟨FI.out, by simp [intOf]; omega⟩
      · have p1 : decide ((i : Int) < (j : Int)) = false := by rw [decide_eq_false_iff_not]; omega
        have p2 : decide (i < j) = false := by rw [decide_eq_false_iff_not]; exact hlt
        have hiR : i = R := by
          have := HBS.out
          cases fu with
          | zero => exact this
          | succ fu => unfold bsF at this; rw [if_neg hlt] at this; exact this
        subst hiR
        obtain rfl : i = j := by omega
        clear HBS hlt
        obtain ⟨I1, hI1⟩ : ∃ x, i - 1 = x := ⟨_, rfl⟩
        have g2 : (i : Int) - 1 = (I1 : Int) := by omega
        have gw := IntWalk.i64_in (I1 : Int) (by omega)
        have HT1 : Hid (mvU a (I1 - a) d = T) := hid (by have := HT.out; rw [hI1] at this; exact this)
        have hI2 : a ≤ I1 ∧ I1 + 1 ≤ N := by omega
        have HI : Hid (∃ n : Nat, (Value.int .i64 (a : Int)) = .int .i64 ((a + n : Nat) : Int) ∧ n ≤ I1 - a ∧ SD base g cap wr (mvU a n d) ∧ Go1 g w wr) := hid ⟨0, rfl, Nat.zero_le _, HS.out, HG.out⟩
        clear HS HG hI1 HT
        go_wp2_with fail
        go_loopw [13] (fun s13 wr => ∃ n : Nat, s13 = .int .i64 ((a + n : Nat) : Int) ∧ n ≤ I1 - a ∧ SD base g cap wr (mvU a n d) ∧ Go1 g w wr) (fun s13 _ => I1 - (intOf s13).toNat)
        case atStart => exact HI.out
        case round =>
          clear HI
          obtain ⟨n, rfl, hn, hsd, hgo⟩ := hrel
          have HS := hid hsd
          have HG := hid hgo
          clear hsd hgo
          obtain ⟨k, hk⟩ : ∃ k, a + n = k := ⟨_, rfl⟩
          rw [hk]
          by_cases hlt : k < I1
          · have r1 : decide ((k : Int) < (I1 : Int)) = true := by rw [decide_eq_true_iff]; omega
            have r2 : decide (k < I1) = true := by rw [decide_eq_true_iff]; exact hlt
            obtain ⟨dk, hdk⟩ : ∃ dk, mvU a n d = dk := ⟨_, rfl⟩
            have hdl : dk.length = N := by rw [← hdk, mvU_len]; exact HN.out
            obtain ⟨k1, hk1⟩ : ∃ x, k + 1 = x := ⟨_, rfl⟩
            have HST : Hid (mvU a (n + 1) d = swp dk k k1) := hid (by show swp (mvU a n d) (a + n) (a + n + 1) = _; rw [hdk, hk, hk1])
            rw [hdk] at HS
            have g3 : (k : Int) + 1 = (k1 : Int) := by omega
            have gw3 := IntWalk.i64_in (k1 : Int) (by omega)
            have gw4 := IntWalk.i64_in (k : Int) (by omega)
            have g4 : (k : Int) < (N : Int) := by omega
            have g5 : (k1 : Int) < (N : Int) := by omega
            have hkN : k < N := by omega
            have hkN1 : k1 < N := by omega
            have HS9 : Hid (Sw1 base g cap w dk k k1 0 wr) := hid (by
              unfold Sw1
              rw [if_pos rfl]
              exact ⟨HS.out, HG.out⟩)
            have HKN := hid (And.intro hk (And.intro hk1 hn))
            clear HS HG hdk hk hk1
            go_upto_region 11 with (fail)
            refine Rg.region_chain 17 [15] [(9, 15), (13, 15)] (fun s _ W => Sw1 base g cap w dk (k) (k1) s W) [some (.slice (some ⟨g, 0, none⟩) N cap), some (.int .i64 (k : Int)), some (.slice (some ⟨g, 0, none⟩) N cap), some (.int .i64 (k : Int)), some (.int .i64 (k1 : Int)), some (.slice (some ⟨g, 0, none⟩) N cap), some (.int .i64 (k : Int)), some (.int .i64 (k1 : Int)), some (.pointer (some ⟨g, k1, none⟩)), some (rwV (gx dk k1)), some (.slice (some ⟨g, 0, none⟩) N cap), some (.int .i64 (k : Int)), some (.pointer (some ⟨g, k, none⟩)), some (rwV (gx dk k)), some (.pointer (some ⟨g, k, none⟩)), some undef, some (.pointer (some ⟨g, k1, none⟩))]
              (fun v => sw_gr HS9.out ((Gr.refl _).drew)) (by kernel_rfl) (by kernel_rfl) (by kernel_rfl) (by kernel_rfl) (fun _ _ d _ _ h => by cases d <;> exact h) ?_
            intro OPS _ v
            simp only [List.take_succ_cons, List.take_zero, Rg.wpC, Option.getD_some, Option.getD_none, Act.put, List.setIfInBounds_toArray, List.set_cons_zero, List.set_cons_succ, show List.contains [15] 0 = false from rfl, show List.contains [15] 1 = false from rfl, show List.contains [15] 2 = false from rfl, show List.contains [15] 3 = false from rfl, show List.contains [15] 4 = false from rfl, show List.contains [15] 5 = false from rfl, show List.contains [15] 6 = false from rfl, show List.contains [15] 7 = false from rfl, show List.contains [15] 8 = false from rfl, show List.contains [15] 9 = false from rfl, show List.contains [15] 10 = false from rfl, show List.contains [15] 11 = false from rfl, show List.contains [15] 12 = false from rfl, show List.contains [15] 13 = false from rfl, show List.contains [15] 14 = false from rfl, show List.contains [15] 15 = true from rfl, show List.contains [15] 16 = false from rfl, Bool.false_eq_true, if_false, if_true, Nat.reduceAdd]
            refine ⟨?_, ?_, ?_, ?_, ?_, ?_, ?_, ?_, ?_, ?_, ?_, ?_, ?_, ?_, ?_, ?_, ?_, ?_⟩
            · refine sc_still (by rfl) (by rfl) (fun s W hl hS => ?_)
              go_simp
              (try first | omega | (refine congrArg _ ?_; omega))
            · refine sc_still (by rfl) (by rfl) (fun s W hl hS => ?_)
              go_simp
              (try first | omega | (refine congrArg _ ?_; omega))
            · refine sc_still (by rfl) (by rfl) (fun s W hl hS => ?_)
              go_simp
              (try first | omega | (refine congrArg _ ?_; omega))
            · refine sc_still (by rfl) (by rfl) (fun s W hl hS => ?_)
              go_simp
              (try first | omega | (refine congrArg _ ?_; omega))
            · refine sc_still (by rfl) (by rfl) (fun s W hl hS => ?_)
              go_simp
              (try first | omega | (refine congrArg _ ?_; omega))
            · refine sc_still (by rfl) (by rfl) (fun s W hl hS => ?_)
              go_simp
              (try first | omega | (refine congrArg _ ?_; omega))
            · refine sc_still (by rfl) (by rfl) (fun s W hl hS => ?_)
              go_simp
              (try first | omega | (refine congrArg _ ?_; omega))
            · refine sc_still (by rfl) (by rfl) (fun s W hl hS => ?_)
              go_simp
              (try first | omega | (refine congrArg _ ?_; omega))
            · refine sc_still (by rfl) (by rfl) (fun s W hl hS => ?_)
              go_simp
              (try first | omega | (refine congrArg _ ?_; omega))
            · refine sc_still (by rfl) (by rfl) (fun s W hl hS => ?_)
              have hs : s ≤ 0 := hl 15 (by simp)
              obtain rfl : s = 0 := by omega
              obtain ⟨d1, d2, d3⟩ := sw_c hS (k1) (by omega)
              go_simp
            · refine sc_still (by rfl) (by rfl) (fun s W hl hS => ?_)
              go_simp
              (try first | omega | (refine congrArg _ ?_; omega))
            · refine sc_still (by rfl) (by rfl) (fun s W hl hS => ?_)
              go_simp
              (try first | omega | (refine congrArg _ ?_; omega))
            · refine sc_still (by rfl) (by rfl) (fun s W hl hS => ?_)
              go_simp
              (try first | omega | (refine congrArg _ ?_; omega))
            · refine sc_still (by rfl) (by rfl) (fun s W hl hS => ?_)
              have hs : s ≤ 0 := hl 15 (by simp)
              obtain rfl : s = 0 := by omega
              obtain ⟨d1, d2, d3⟩ := sw_c hS (k) (by omega)
              go_simp
            · refine sc_still (by rfl) (by rfl) (fun s W hl hS => ?_)
              go_simp
              (try first | omega | (refine congrArg _ ?_; omega))
            · refine sc_call (by rfl) (by rfl) (fun W hS => ?_)
              obtain ⟨d1, d2, d3⟩ := sw_c hS (k) (by omega)
              go_simp
              exact sw_step hS
            · refine sc_still (by rfl) (by rfl) (fun s W hl hS => ?_)
              go_simp
              (try first | omega | (refine congrArg _ ?_; omega))
            · intro W hS
              obtain ⟨⟨u1, d1⟩, d2, d3⟩ := sw_1 hS (by omega) (by omega)
              obtain ⟨hsd, hgo⟩ := sw_fin hS (by omega) (by omega)
              have HSD := hid hsd
              have HGO := hid hgo
              clear hS hsd hgo
              simp only [List.drop_succ_cons, List.drop_zero]
              have FI : Hid (∃ n' : Nat, (Value.int .i64 (k1 : Int)) = .int .i64 ((a + n' : Nat) : Int) ∧ n' ≤ I1 - a ∧ SD base g cap (W.setCell ⟨g, k1, none⟩ (rwV (gx dk k))) (mvU a n' d) ∧ Go1 g w (W.setCell ⟨g, k1, none⟩ (rwV (gx dk k)))) := hid ⟨n + 1, by have := HKN.out; go_num, by have := HKN.out; omega, by rw [HST.out]; exact HSD.out, HGO.out⟩
              clear HSD HGO HST
              go_wp2
              exact ⟨FI.out, by simp [intOf]; omega⟩
          · have r1 : decide ((k : Int) < (I1 : Int)) = false := by rw [decide_eq_false_iff_not]; omega
            have r2 : decide (k < I1) = false := by rw [decide_eq_false_iff_not]; exact hlt
            have hnn : n = I1 - a := by omega
            subst hnn
            clear hk
            go_wp2
            first | exact ⟨rfl, .tuple #[], by simp [results, Tryd.results75, go_sem], rfl, by rw [← HT1.out]; exact HS.out, HG.out⟩ | (go_ret; exact ⟨rfl, by rw [← HT1.out]; exact HS.out, HG.out⟩) | (trace_state; sorry)
  · rw [if_neg hma] at hT
    obtain ⟨X, hX⟩ : ∃ x, m - a = x := ⟨_, rfl⟩
    have g1 : (m : Int) - (a : Int) = (X : Int) := by omega
    have gwX := IntWalk.i64_in (X : Int) (by omega)
    have gx1 : ((X : Int) == 1) = false := by rw [beq_eq_false_iff_ne]; omega
    have gx2 : ¬ ((X : Int) = 1) := by omega
    have gx3 : ¬ (X = 1) := by omega
    have gx4 : (X == 1) = false := by rw [beq_eq_false_iff_ne]; omega
    clear hma hX
    by_cases hbm : b - m = 1
    · rw [if_pos hbm] at hT
      have g1b : (b : Int) - (m : Int) = 1 := by omega
      obtain ⟨P, hP⟩ : ∃ P : Nat → Bool, (fun h => !ltR (gx d m) (gx d h)) = P := ⟨_, rfl⟩
      have HP := hid hP
      rw [hP] at hT
      obtain ⟨R, hR⟩ : ∃ R, bsF P (m - a) a m = R := ⟨_, rfl⟩
      rw [hR] at hT
      have HT := hid hT
      have HI : Hid (∃ (i j fu : Nat), (Value.int .i64 (a : Int)) = .int .i64 (i : Int) ∧ (Value.int .i64 (m : Int)) = .int .i64 (j : Int) ∧ a ≤ i ∧ i ≤ j ∧ j ≤ m ∧ j - i ≤ fu ∧ bsF P fu i j = R ∧ SD base g cap w d ∧ Go1 g w w) := hid ⟨a, m, m - a, rfl, rfl, Nat.le_refl _, by omega, Nat.le_refl _, Nat.le_refl _, hR, HS.out, Go1.of (Gr.refl _)⟩
      clear hP hR hbm HS hT
      go_enter Tryd.func75, Tryd.ntmps75
      go_wp2_with fail
      go_loopw [14, 15] (fun si sj wr => ∃ (i j fu : Nat), si = .int .i64 (i : Int) ∧ sj = .int .i64 (j : Int) ∧ a ≤ i ∧ i ≤ j ∧ j ≤ m ∧ j - i ≤ fu ∧ bsF P fu i j = R ∧ SD base g cap wr d ∧ Go1 g w wr) (fun si sj _ => (intOf sj).toNat - (intOf si).toNat)
      case atStart => exact HI.out
      case round =>
        clear HI
        obtain ⟨i, j, fu, rfl, rfl, hmi, hij, hjb, hfu, hbs, hsd, hgo⟩ := hrel
        have HS := hid hsd
        have HG := hid hgo
        have HBS := hid hbs
        clear hsd hgo hbs
        by_cases hlt : i < j
        · have p1 : decide ((i : Int) < (j : Int)) = true := by rw [decide_eq_true_iff]; omega
          have p2 : decide (i < j) = true := by rw [decide_eq_true_iff]; exact hlt
          obtain ⟨fu, rfl⟩ : ∃ x, fu = x + 1 := ⟨fu - 1, by omega⟩
          have HB1 : Hid ((if P ((i + j) / 2) = true then bsF P fu ((i + j) / 2 + 1) j else bsF P fu i ((i + j) / 2)) = R) := hid (by have := HBS.out; unfold bsF at this; rw [if_pos hlt] at this; exact this)
          obtain ⟨h, hh⟩ : ∃ x, (i + j) / 2 = x := ⟨_, rfl⟩
          rw [hh] at HB1
          have hm2 : ((i : Int) + (j : Int)) / 2 = (h : Int) := by omega
          have hhi : i ≤ h ∧ h < j := by omega
          clear hh HBS
          have g4 : (h : Int) < (N : Int) := by omega
          have g5 : (0 : Int) ≤ (h : Int) := by omega
          have g6 : (m : Int) < (N : Int) := by omega
          have g7 : (0 : Int) ≤ (m : Int) := by omega
          have gwh := IntWalk.i64_in (h : Int) (by omega)
          have HPx : Hid (P h = !ltR (gx d m) (gx d h)) := hid (by rw [← HP.out])
          have hx0 : m < d.length := by have := HN.out; omega
          have hy0 : h < d.length := by have := HN.out; omega
          have c1 := HS.out.cell m hx0
          have c0 := HS.out.cell h hy0
          have hx := HS.out.ok _ (get_mem! d m hx0)
          have hy := HS.out.ok _ (get_mem! d h hy0)
          have CM : ∀ W, Rg.Up wr W → Calls Tryd.prog 21 #[.slice (gx d m).oa (gx d m).l.length (gx d m).c, .slice (gx d h).oa (gx d h).l.length (gx d h).c] W fun e w' => e = .returned (.int .i64 (cmpR (gx d m).l (gx d h).l)) ∧ Gr W w' := fun W hW => cmp_rw (hx.gr hW) (hy.gr hW)
          obtain ⟨CC, hCC⟩ : ∃ c, cmpR (gx d m).l (gx d h).l = c := ⟨_, rfl⟩
          have HLT : Hid (ltR (gx d m) (gx d h) = decide (CC < 0)) := hid (by rw [← hCC]; rfl)
          rw [hCC] at CM
          have zg := HS.out.lt.2
          clear hx hy hCC hx0 hy0
          by_cases hcc : CC < 0
          · have q1 : decide (CC < 0) = true := by rw [decide_eq_true_iff]; exact hcc
            have HB2 : Hid (bsF P fu i h = R) := hid (by have := HB1.out; rw [HPx.out, HLT.out, q1] at this; simpa using this)
            have FI0 : Hid (∀ W, Gr wr W → ∃ (i' j' fu' : Nat), (Value.int .i64 (i : Int)) = .int .i64 (i' : Int) ∧ (Value.int .i64 (h : Int)) = .int .i64 (j' : Int) ∧ a ≤ i' ∧ i' ≤ j' ∧ j' ≤ m ∧ j' - i' ≤ fu' ∧ bsF P fu' i' j' = R ∧ SD base g cap W d ∧ Go1 g w W) := hid (fun W hW => ⟨i, h, fu, by first | rfl | go_num, by first | rfl | go_num, by omega, by omega, by omega, by omega, HB2.out, HS.out.gr hW, HG.out.trans (Go1.of hW)⟩)
            clear hcc HB1 HLT HPx HS HG HB2
            go_upto_region 17 with (fail)
            refine Rg.region_text 11 (Below.drew (Below.refl _ _)) (by kernel_rfl) (by kernel_rfl) (fun _ _ d _ _ h => by cases d <;> exact h) ?_
            simp only [List.append_eq, List.cons_append, List.nil_append, List.take_succ_cons, List.take_zero, List.drop_succ_cons, List.drop_zero]
            repeat (first
                | (refine Rg.wpDets_skip (by rfl) ?_; simp only [Act.put, List.setIfInBounds_toArray, List.set_cons_zero, List.set_cons_succ])
                | (refine Rg.wpDets_step ?_ (by rfl) (fun w hS => ?_) ?_
                   rotate_left
                   · have hc := Gr.cells hS
                     have hf := Gr.frees hS
                     go_simp
                     first
                     | (refine ⟨?_, Below.refl _ _⟩; with_reducible rfl)
                     | ((with_reducible refine (CM _ hS).mono ?_); rintro e w' ⟨rfl, hg⟩; refine ⟨?_, hg⟩; with_reducible rfl)
                   simp only [Act.put, List.setIfInBounds_toArray, List.set_cons_zero, List.set_cons_succ]))
            refine Rg.wpDets_nil ?_
            refine Rg.wpFlts_nil ?_
            refine Rg.wpLays_nil ?_
            intro w9 hK
            have hg : Gr _ w9 := hK.up
            have hc := Gr.cells hg
            have hf := Gr.frees hg
            have hz := Gr.size hg
            try simp only [World.size_alloc, World.size_setCell, World.size_drew] at hz
            try have : 0 < w9.heap.size := by omega
            try have : w.heap.size < w9.heap.size := by omega
            try have : w.heap.size + 1 < w9.heap.size := by omega
            try have : w.heap.size + 1 + 1 < w9.heap.size := by omega
            try have : w.heap.size + 1 + 1 + 1 < w9.heap.size := by omega
            try have : w1.heap.size < w9.heap.size := by omega
            try have : w1.heap.size + 1 < w9.heap.size := by omega
            try have : w2.heap.size < w9.heap.size := by omega
            try have : w2.heap.size + 1 < w9.heap.size := by omega
            try have : w3.heap.size < w9.heap.size := by omega
            try have : w3.heap.size + 1 < w9.heap.size := by omega
            try have : w4.heap.size < w9.heap.size := by omega
            try have : w4.heap.size + 1 < w9.heap.size := by omega
            try have : w5.heap.size < w9.heap.size := by omega
            try have : w5.heap.size + 1 < w9.heap.size := by omega
            try have : w6.heap.size < w9.heap.size := by omega
            try have : w6.heap.size + 1 < w9.heap.size := by omega
            try have : w7.heap.size < w9.heap.size := by omega
            try have : w7.heap.size + 1 < w9.heap.size := by omega
            try have : w8.heap.size < w9.heap.size := by omega
            try have : w8.heap.size + 1 < w9.heap.size := by omega
            have FI := hid (FI0.out _ hg)
            clear FI0 CM hg c0 c1
            go_wp2
            exact ⟨FI.out, by simp [intOf]; omega⟩
          · have q1 : decide (CC < 0) = false := by rw [decide_eq_false_iff_not]; exact hcc
            have HB2 : Hid (bsF P fu (h + 1) j = R) := hid (by have := HB1.out; rw [HPx.out, HLT.out, q1] at this; simpa using this)
            have FI0 : Hid (∀ W, Gr wr W → ∃ (i' j' fu' : Nat), (Value.int .i64 ((h : Int) + 1)) = .int .i64 (i' : Int) ∧ (Value.int .i64 (j : Int)) = .int .i64 (j' : Int) ∧ a ≤ i' ∧ i' ≤ j' ∧ j' ≤ m ∧ j' - i' ≤ fu' ∧ bsF P fu' i' j' = R ∧ SD base g cap W d ∧ Go1 g w W) := hid (fun W hW => ⟨h + 1, j, fu, by first | rfl | go_num, by first | rfl | go_num, by omega, by omega, by omega, by omega, HB2.out, HS.out.gr hW, HG.out.trans (Go1.of hW)⟩)
            clear hcc HB1 HLT HPx HS HG HB2
            go_upto_region 17 with (fail)
            refine Rg.region_text 11 (Below.drew (Below.refl _ _)) (by kernel_rfl) (by kernel_rfl) (fun _ _ d _ _ h => by cases d <;> exact h) ?_
            simp only [List.append_eq, List.cons_append, List.nil_append, List.take_succ_cons, List.take_zero, List.drop_succ_cons, List.drop_zero]
            repeat (first
                | (refine Rg.wpDets_skip (by rfl) ?_; simp only [Act.put, List.setIfInBounds_toArray, List.set_cons_zero, List.set_cons_succ])
                | (refine Rg.wpDets_step ?_ (by rfl) (fun w hS => ?_) ?_
                   rotate_left
                   · have hc := Gr.cells hS
                     have hf := Gr.frees hS
                     go_simp
                     first
                     | (refine ⟨?_, Below.refl _ _⟩; with_reducible rfl)
                     | ((with_reducible refine (CM _ hS).mono ?_); rintro e w' ⟨rfl, hg⟩; refine ⟨?_, hg⟩; with_reducible rfl)
                   simp only [Act.put, List.setIfInBounds_toArray, List.set_cons_zero, List.set_cons_succ]))
            refine Rg.wpDets_nil ?_
            refine Rg.wpFlts_nil ?_
            refine Rg.wpLays_nil ?_
            intro w9 hK
            have hg : Gr _ w9 := hK.up
            have hc := Gr.cells hg
            have hf := Gr.frees hg
            have hz := Gr.size hg
            try simp only [World.size_alloc, World.size_setCell, World.size_drew] at hz
            try have : 0 < w9.heap.size := by omega
            try have : w.heap.size < w9.heap.size := by omega
            try have : w.heap.size + 1 < w9.heap.size := by omega
            try have : w.heap.size + 1 + 1 < w9.heap.size := by omega
            try have : w.heap.size + 1 + 1 + 1 < w9.heap.size := by omega
            try have : w1.heap.size < w9.heap.size := by omega
            try have : w1.heap.size + 1 < w9.heap.size := by omega
            try have : w2.heap.size < w9.heap.size := by omega
            try have : w2.heap.size + 1 < w9.heap.size := by omega
            try have : w3.heap.size < w9.heap.size := by omega
            try have : w3.heap.size + 1 < w9.heap.size := by omega
            try have : w4.heap.size < w9.heap.size := by omega
            try have : w4.heap.size + 1 < w9.heap.size := by omega
            try have : w5.heap.size < w9.heap.size := by omega
            try have : w5.heap.size + 1 < w9.heap.size := by omega
            try have : w6.heap.size < w9.heap.size := by omega
            try have : w6.heap.size + 1 < w9.heap.size := by omega
            try have : w7.heap.size < w9.heap.size := by omega
            try have : w7.heap.size + 1 < w9.heap.size := by omega
            try have : w8.heap.size < w9.heap.size := by omega
            try have : w8.heap.size + 1 < w9.heap.size := by omega
            have FI := hid (FI0.out _ hg)
            clear FI0 CM hg c0 c1
            go_wp2
            exact ⟨FI.out, by simp [intOf]; omega⟩
        · have p1 : decide ((i : Int) < (j : Int)) = false := by rw [decide_eq_false_iff_not]; omega
          have p2 : decide (i < j) = false := by rw [decide_eq_false_iff_not]; exact hlt
          have hiR : i = R := by
            have := HBS.out
            cases fu with
            | zero => exact this
            | succ fu => unfold bsF at this; rw [if_neg hlt] at this; exact this
          subst hiR
          obtain rfl : i = j := by omega
          clear HBS hlt
          have HT1 : Hid (mvD m (m - i) d = T) := hid (by have := HT.out; exact this)
          have HI : Hid (∃ n : Nat, (Value.int .i64 (m : Int)) = .int .i64 ((m - n : Nat) : Int) ∧ n ≤ m - i ∧ SD base g cap wr (mvD m n d) ∧ Go1 g w wr) := hid ⟨0, rfl, Nat.zero_le _, HS.out, HG.out⟩
          clear HS HG HT
          go_wp2_with fail
          go_loopw [17] (fun s17 wr => ∃ n : Nat, s17 = .int .i64 ((m - n : Nat) : Int) ∧ n ≤ m - i ∧ SD base g cap wr (mvD m n d) ∧ Go1 g w wr) (fun s17 _ => (intOf s17).toNat - i)
          case atStart => exact HI.out
          case round =>
            clear HI
            obtain ⟨n, rfl, hn, hsd, hgo⟩ := hrel
            have HS := hid hsd
            have HG := hid hgo
            clear hsd hgo
            obtain ⟨k, hk⟩ : ∃ k, m - n = k := ⟨_, rfl⟩
            rw [hk]
            by_cases hlt : i < k
            · have r1 : decide ((i : Int) < (k : Int)) = true := by rw [decide_eq_true_iff]; omega
              have r2 : decide (i < k) = true := by rw [decide_eq_true_iff]; exact hlt
              obtain ⟨dk, hdk⟩ : ∃ dk, mvD m n d = dk := ⟨_, rfl⟩
              have hdl : dk.length = N := by rw [← hdk, mvD_len]; exact HN.out
              obtain ⟨k1, hk1⟩ : ∃ x, k - 1 = x := ⟨_, rfl⟩
              have HST : Hid (mvD m (n + 1) d = swp dk k k1) := hid (by show swp (mvD m n d) (m - n) (m - n - 1) = _; rw [hdk, hk, hk1])
              rw [hdk] at HS
              have g3 : (k : Int) - 1 = (k1 : Int) := by omega
              have gw3 := IntWalk.i64_in (k1 : Int) (by omega)
              have gw4 := IntWalk.i64_in (k : Int) (by omega)
              have g4 : (k : Int) < (N : Int) := by omega
              have g5 : (k1 : Int) < (N : Int) := by omega
              have hkN : k < N := by omega
              have hkN1 : k1 < N := by omega
              have HS9 : Hid (Sw1 base g cap w dk k k1 0 wr) := hid (by
                unfold Sw1
                rw [if_pos rfl]
                exact ⟨HS.out, HG.out⟩)
              have HKN := hid (And.intro hk (And.intro hk1 (And.intro hn hlt)))
              clear HS HG hdk hk hk1
              go_upto_region 23 with (fail)
              refine Rg.region_chain 17 [15] [(9, 15), (13, 15)] (fun s _ W => Sw1 base g cap w dk (k) (k1) s W) [some (.slice (some ⟨g, 0, none⟩) N cap), some (.int .i64 (k : Int)), some (.slice (some ⟨g, 0, none⟩) N cap), some (.int .i64 (k : Int)), some (.int .i64 (k1 : Int)), some (.slice (some ⟨g, 0, none⟩) N cap), some (.int .i64 (k : Int)), some (.int .i64 (k1 : Int)), some (.pointer (some ⟨g, k1, none⟩)), some (rwV (gx dk k1)), some (.slice (some ⟨g, 0, none⟩) N cap), some (.int .i64 (k : Int)), some (.pointer (some ⟨g, k, none⟩)), some (rwV (gx dk k)), some (.pointer (some ⟨g, k, none⟩)), some undef, some (.pointer (some ⟨g, k1, none⟩))]
                (fun v => sw_gr HS9.out ((Gr.refl _).drew)) (by kernel_rfl) (by kernel_rfl) (by kernel_rfl) (by kernel_rfl) (fun _ _ d _ _ h => by cases d <;> exact h) ?_
              intro OPS _ v
              simp only [List.take_succ_cons, List.take_zero, Rg.wpC, Option.getD_some, Option.getD_none, Act.put, List.setIfInBounds_toArray, List.set_cons_zero, List.set_cons_succ, show List.contains [15] 0 = false from rfl, show List.contains [15] 1 = false from rfl, show List.contains [15] 2 = false from rfl, show List.contains [15] 3 = false from rfl, show List.contains [15] 4 = false from rfl, show List.contains [15] 5 = false from rfl, show List.contains [15] 6 = false from rfl, show List.contains [15] 7 = false from rfl, show List.contains [15] 8 = false from rfl, show List.contains [15] 9 = false from rfl, show List.contains [15] 10 = false from rfl, show List.contains [15] 11 = false from rfl, show List.contains [15] 12 = false from rfl, show List.contains [15] 13 = false from rfl, show List.contains [15] 14 = false from rfl, show List.contains [15] 15 = true from rfl, show List.contains [15] 16 = false from rfl, Bool.false_eq_true, if_false, if_true, Nat.reduceAdd]
              refine ⟨?_, ?_, ?_, ?_, ?_, ?_, ?_, ?_, ?_, ?_, ?_, ?_, ?_, ?_, ?_, ?_, ?_, ?_⟩
              · refine sc_still (by rfl) (by rfl) (fun s W hl hS => ?_)
                go_simp
                (try first | omega | (refine congrArg _ ?_; omega))
              · refine sc_still (by rfl) (by rfl) (fun s W hl hS => ?_)
                go_simp
                (try first | omega | (refine congrArg _ ?_; omega))
              · refine sc_still (by rfl) (by rfl) (fun s W hl hS => ?_)
                go_simp
                (try first | omega | (refine congrArg _ ?_; omega))
              · refine sc_still (by rfl) (by rfl) (fun s W hl hS => ?_)
                go_simp
                (try first | omega | (refine congrArg _ ?_; omega))
              · refine sc_still (by rfl) (by rfl) (fun s W hl hS => ?_)
                go_simp
                (try first | omega | (refine congrArg _ ?_; omega))
              · refine sc_still (by rfl) (by rfl) (fun s W hl hS => ?_)
                go_simp
                (try first | omega | (refine congrArg _ ?_; omega))
              · refine sc_still (by rfl) (by rfl) (fun s W hl hS => ?_)
                go_simp
                (try first | omega | (refine congrArg _ ?_; omega))
              · refine sc_still (by rfl) (by rfl) (fun s W hl hS => ?_)
                go_simp
                (try first | omega | (refine congrArg _ ?_; omega))
              · refine sc_still (by rfl) (by rfl) (fun s W hl hS => ?_)
                go_simp
                (try first | omega | (refine congrArg _ ?_; omega))
              · refine sc_still (by rfl) (by rfl) (fun s W hl hS => ?_)
                have hs : s ≤ 0 := hl 15 (by simp)
                obtain rfl : s = 0 := by omega
                obtain ⟨d1, d2, d3⟩ := sw_c hS (k1) (by omega)
                go_simp
              · refine sc_still (by rfl) (by rfl) (fun s W hl hS => ?_)
                go_simp
                (try first | omega | (refine congrArg _ ?_; omega))
              · refine sc_still (by rfl) (by rfl) (fun s W hl hS => ?_)
                go_simp
                (try first | omega | (refine congrArg _ ?_; omega))
              · refine sc_still (by rfl) (by rfl) (fun s W hl hS => ?_)
                go_simp
                (try first | omega | (refine congrArg _ ?_; omega))
              · refine sc_still (by rfl) (by rfl) (fun s W hl hS => ?_)
                have hs : s ≤ 0 := hl 15 (by simp)
                obtain rfl : s = 0 := by omega
                obtain ⟨d1, d2, d3⟩ := sw_c hS (k) (by omega)
                go_simp
              · refine sc_still (by rfl) (by rfl) (fun s W hl hS => ?_)
                go_simp
                (try first | omega | (refine congrArg _ ?_; omega))
              · refine sc_call (by rfl) (by rfl) (fun W hS => ?_)
                obtain ⟨d1, d2, d3⟩ := sw_c hS (k) (by omega)
                go_simp
                exact sw_step hS
              · refine sc_still (by rfl) (by rfl) (fun s W hl hS => ?_)
                go_simp
                (try first | omega | (refine congrArg _ ?_; omega))
              · intro W hS
                obtain ⟨⟨u1, d1⟩, d2, d3⟩ := sw_1 hS (by omega) (by omega)
                obtain ⟨hsd, hgo⟩ := sw_fin hS (by omega) (by omega)
                have HSD := hid hsd
                have HGO := hid hgo
                clear hS hsd hgo
                simp only [List.drop_succ_cons, List.drop_zero]
                have FI : Hid (∃ n' : Nat, (Value.int .i64 (k1 : Int)) = .int .i64 ((m - n' : Nat) : Int) ∧ n' ≤ m - i ∧ SD base g cap (W.setCell ⟨g, k1, none⟩ (rwV (gx dk k))) (mvD m n' d) ∧ Go1 g w (W.setCell ⟨g, k1, none⟩ (rwV (gx dk k)))) := hid ⟨n + 1, by have := HKN.out; refine congrArg _ ?_; omega, by have := HKN.out; omega, by rw [HST.out]; exact HSD.out, HGO.out⟩
                clear HSD HGO HST
                go_wp2
                have := HKN.out
                exact ⟨FI.out, by simp [intOf]; omega⟩
            · have r1 : decide ((i : Int) < (k : Int)) = false := by rw [decide_eq_false_iff_not]; omega
              have r2 : decide (i < k) = false := by rw [decide_eq_false_iff_not]; exact hlt
              have hnn : n = m - i := by omega
              subst hnn
              clear hk
              go_wp2
              first | exact ⟨rfl, .tuple #[], by simp [results, Tryd.results75, go_sem], rfl, by rw [← HT1.out]; exact HS.out, HG.out⟩ | (go_ret; exact ⟨rfl, by rw [← HT1.out]; exact HS.out, HG.out⟩) | (trace_state; sorry)
    · rw [if_neg hbm] at hT
      obtain ⟨Y, hY⟩ : ∃ x, b - m = x := ⟨_, rfl⟩
      have hY1 : (b : Int) - (m : Int) = (Y : Int) := by omega
      have gwY := IntWalk.i64_in (Y : Int) (by omega)
      have gy1 : ((Y : Int) == 1) = false := by rw [beq_eq_false_iff_ne]; omega
      have gy2 : ¬ ((Y : Int) = 1) := by omega
      have gy3 : ¬ (Y = 1) := by omega
      have gy4 : (Y == 1) = false := by rw [beq_eq_false_iff_ne]; omega
      clear hbm hY
      simp only at hT
      obtain ⟨M, hM⟩ : ∃ x, (a + b) / 2 = x := ⟨_, rfl⟩
      rw [hM] at hT
      obtain ⟨R, hR⟩ : ∃ R, syS d a m b M = R := ⟨_, rfl⟩
      rw [hR] at hT
      obtain ⟨E, hE⟩ : ∃ E, M + m - R = E := ⟨_, rfl⟩
      rw [hE] at hT
      have hT' : (if M < E ∧ E < b then symF f (if a < R ∧ R < M then symF f (if R < m ∧ m < E then rotF m (E - R) (m - R) (E - m) d else d) a R M else (if R < m ∧ m < E then rotF m (E - R) (m - R) (E - m) d else d)) M E b else (if a < R ∧ R < M then symF f (if R < m ∧ m < E then rotF m (E - R) (m - R) (E - m) d else d) a R M else (if R < m ∧ m < E then rotF m (E - R) (m - R) (E - m) d else d))) = T := hT
      have HT := hid hT'
      have hm2 : ((a : Int) + (b : Int)) / 2 = (M : Int) := by omega
      have gwM := IntWalk.i64_in (M : Int) (by omega)
      obtain ⟨n, hn⟩ : ∃ x, M + m = x := ⟨_, rfl⟩
      have gn : (M : Int) + (m : Int) = (n : Int) := by omega
      have gwn := IntWalk.i64_in (n : Int) (by omega)
      obtain ⟨p, hp⟩ : ∃ x, n - 1 = x := ⟨_, rfl⟩
      have gp : (n : Int) - 1 = (p : Int) := by omega
      have gwp := IntWalk.i64_in (p : Int) (by omega)
      have hMab : a < M ∧ M < b ∧ M - a ≤ f ∧ b - M ≤ f := by omega
      obtain ⟨P, hP⟩ : ∃ P : Nat → Bool, (fun c => !ltR (gx d (M + m - 1 - c)) (gx d c)) = P := ⟨_, rfl⟩
      have HP := hid hP
      unfold syS at hR
      rw [hP] at hR
      clear hT hT' hM
      by_cases hmM : M < m
      · have q1 : decide ((M : Int) < (m : Int)) = true := by rw [decide_eq_true_iff]; omega
        have q2 : decide (M < m) = true := by rw [decide_eq_true_iff]; exact hmM
        obtain ⟨S0, hS0⟩ : ∃ x, sy0 m b M a = x := ⟨_, rfl⟩
        obtain ⟨S1, hS1⟩ : ∃ x, sy1 m M = x := ⟨_, rfl⟩
        rw [hS0, hS1] at hR
        have e0 : S0 = n - b := by rw [← hS0]; unfold sy0; rw [if_pos hmM]; omega
        have e1 : S1 = M := by rw [← hS1]; unfold sy1; rw [if_pos hmM]
        have gS : (n : Int) - (b : Int) = (S0 : Int) := by omega
        have gwS := IntWalk.i64_in (S0 : Int) (by omega)
        have hSS : S0 ≤ S1 ∧ S1 ≤ m ∧ n ≤ S0 + b ∧ S1 ≤ M := by omega
        have HI : Hid (∃ (i j fu : Nat), (Value.int .i64 (S0 : Int)) = .int .i64 (i : Int) ∧ (Value.int .i64 (M : Int)) = .int .i64 (j : Int) ∧ S0 ≤ i ∧ i ≤ j ∧ j ≤ S1 ∧ j - i ≤ fu ∧ bsF P fu i j = R ∧ SD base g cap w d ∧ Go1 g w w) := hid ⟨S0, M, S1 - S0, rfl, rfl, Nat.le_refl _, by omega, by omega, by omega, by rw [← hR, e1], HS.out, Go1.of (Gr.refl _)⟩
        clear hP hR hS0 hS1 e0 e1 HS hmM
        go_enter Tryd.func75, Tryd.ntmps75
        go_wp2_with fail
        go_loopw [20, 21] (fun si sj wr => ∃ (i j fu : Nat), si = .int .i64 (i : Int) ∧ sj = .int .i64 (j : Int) ∧ S0 ≤ i ∧ i ≤ j ∧ j ≤ S1 ∧ j - i ≤ fu ∧ bsF P fu i j = R ∧ SD base g cap wr d ∧ Go1 g w wr) (fun si sj _ => (intOf sj).toNat - (intOf si).toNat)
        case atStart => exact HI.out
        case round =>
          clear HI
          obtain ⟨i, j, fu, rfl, rfl, hmi, hij, hjb, hfu, hbs, hsd, hgo⟩ := hrel
          have HS := hid hsd
          have HG := hid hgo
          have HBS := hid hbs
          clear hsd hgo hbs
          by_cases hlt : i < j
          · have p1 : decide ((i : Int) < (j : Int)) = true := by rw [decide_eq_true_iff]; omega
            have p2 : decide (i < j) = true := by rw [decide_eq_true_iff]; exact hlt
            obtain ⟨fu, rfl⟩ : ∃ x, fu = x + 1 := ⟨fu - 1, by omega⟩
            have HB1 : Hid ((if P ((i + j) / 2) = true then bsF P fu ((i + j) / 2 + 1) j else bsF P fu i ((i + j) / 2)) = R) := hid (by have := HBS.out; unfold bsF at this; rw [if_pos hlt] at this; exact this)
            obtain ⟨h, hh⟩ : ∃ x, (i + j) / 2 = x := ⟨_, rfl⟩
            rw [hh] at HB1
            have hm2 : ((i : Int) + (j : Int)) / 2 = (h : Int) := by omega
            have hhi : i ≤ h ∧ h < j := by omega
            clear hh HBS
            obtain ⟨pc, hpc⟩ : ∃ x, p - h = x := ⟨_, rfl⟩
            have gpc : (p : Int) - (h : Int) = (pc : Int) := by omega
            have gwpc := IntWalk.i64_in (pc : Int) (by omega)
            have hpc2 : pc = M + m - 1 - h := by omega
            have hpN : pc < N := by omega
            have g4 : (h : Int) < (N : Int) := by omega
            have g5 : (0 : Int) ≤ (h : Int) := by omega
            have g6 : (pc : Int) < (N : Int) := by omega
            have g7 : (0 : Int) ≤ (pc : Int) := by omega
            have gwh := IntWalk.i64_in (h : Int) (by omega)
            have HPC := hid hpc2
            clear hpc hpc2
            have HPx : Hid (P h = !ltR (gx d pc) (gx d h)) := hid (by rw [← HP.out, HPC.out])
            have hx0 : pc < d.length := by have := HN.out; omega
            have hy0 : h < d.length := by have := HN.out; omega
            have c1 := HS.out.cell pc hx0
            have c0 := HS.out.cell h hy0
            have hx := HS.out.ok _ (get_mem! d pc hx0)
            have hy := HS.out.ok _ (get_mem! d h hy0)
            have CM : ∀ W, Rg.Up wr W → Calls Tryd.prog 21 #[.slice (gx d pc).oa (gx d pc).l.length (gx d pc).c, .slice (gx d h).oa (gx d h).l.length (gx d h).c] W fun e w' => e = .returned (.int .i64 (cmpR (gx d pc).l (gx d h).l)) ∧ Gr W w' := fun W hW => cmp_rw (hx.gr hW) (hy.gr hW)
            obtain ⟨CC, hCC⟩ : ∃ c, cmpR (gx d pc).l (gx d h).l = c := ⟨_, rfl⟩
            have HLT : Hid (ltR (gx d pc) (gx d h) = decide (CC < 0)) := hid (by rw [← hCC]; rfl)
            rw [hCC] at CM
            have zg := HS.out.lt.2
            clear hx hy hCC hx0 hy0
            by_cases hcc : CC < 0
            · have q1 : decide (CC < 0) = true := by rw [decide_eq_true_iff]; exact hcc
              have HB2 : Hid (bsF P fu i h = R) := hid (by have := HB1.out; rw [HPx.out, HLT.out, q1] at this; simpa using this)
              have FI0 : Hid (∀ W, Gr wr W → ∃ (i' j' fu' : Nat), (Value.int .i64 (i : Int)) = .int .i64 (i' : Int) ∧ (Value.int .i64 (h : Int)) = .int .i64 (j' : Int) ∧ S0 ≤ i' ∧ i' ≤ j' ∧ j' ≤ S1 ∧ j' - i' ≤ fu' ∧ bsF P fu' i' j' = R ∧ SD base g cap W d ∧ Go1 g w W) := hid (fun W hW => ⟨i, h, fu, by first | rfl | go_num, by first | rfl | go_num, by omega, by omega, by omega, by omega, HB2.out, HS.out.gr hW, HG.out.trans (Go1.of hW)⟩)
              clear hcc HB1 HLT HPx HS HG HB2
              go_upto_region 35 with (fail)
              refine Rg.region_text 13 (Below.drew (Below.refl _ _)) (by kernel_rfl) (by kernel_rfl) (fun _ _ d _ _ h => by cases d <;> exact h) ?_
              simp only [List.append_eq, List.cons_append, List.nil_append, List.take_succ_cons, List.take_zero, List.drop_succ_cons, List.drop_zero]
              repeat (first
                  | (refine Rg.wpDets_skip (by rfl) ?_; simp only [Act.put, List.setIfInBounds_toArray, List.set_cons_zero, List.set_cons_succ])
                  | (refine Rg.wpDets_step ?_ (by rfl) (fun w hS => ?_) ?_
                     rotate_left
                     · have hc := Gr.cells hS
                       have hf := Gr.frees hS
                       go_simp
                       first
                       | (refine ⟨?_, Below.refl _ _⟩; with_reducible rfl)
                       | ((with_reducible refine (CM _ hS).mono ?_); rintro e w' ⟨rfl, hg⟩; refine ⟨?_, hg⟩; with_reducible rfl)
                     simp only [Act.put, List.setIfInBounds_toArray, List.set_cons_zero, List.set_cons_succ]))
              refine Rg.wpDets_nil ?_
              refine Rg.wpFlts_nil ?_
              refine Rg.wpLays_nil ?_
              intro w9 hK
              have hg : Gr _ w9 := hK.up
              have hc := Gr.cells hg
              have hf := Gr.frees hg
              have hz := Gr.size hg
              try simp only [World.size_alloc, World.size_setCell, World.size_drew] at hz
              try have : 0 < w9.heap.size := by omega
              try have : w.heap.size < w9.heap.size := by omega
              try have : w.heap.size + 1 < w9.heap.size := by omega
              try have : w.heap.size + 1 + 1 < w9.heap.size := by omega
              try have : w.heap.size + 1 + 1 + 1 < w9.heap.size := by omega
              try have : w1.heap.size < w9.heap.size := by omega
              try have : w1.heap.size + 1 < w9.heap.size := by omega
              try have : w2.heap.size < w9.heap.size := by omega
              try have : w2.heap.size + 1 < w9.heap.size := by omega
              try have : w3.heap.size < w9.heap.size := by omega
              try have : w3.heap.size + 1 < w9.heap.size := by omega
              try have : w4.heap.size < w9.heap.size := by omega
              try have : w4.heap.size + 1 < w9.heap.size := by omega
              try have : w5.heap.size < w9.heap.size := by omega
              try have : w5.heap.size + 1 < w9.heap.size := by omega
              try have : w6.heap.size < w9.heap.size := by omega
              try have : w6.heap.size + 1 < w9.heap.size := by omega
              try have : w7.heap.size < w9.heap.size := by omega
              try have : w7.heap.size + 1 < w9.heap.size := by omega
              try have : w8.heap.size < w9.heap.size := by omega
              try have : w8.heap.size + 1 < w9.heap.size := by omega
              have FI := hid (FI0.out _ hg)
              clear FI0 CM hg c0 c1
              go_wp2
              exact ⟨FI.out, by simp [intOf]; omega⟩
            · have q1 : decide (CC < 0) = false := by rw [decide_eq_false_iff_not]; exact hcc
              have HB2 : Hid (bsF P fu (h + 1) j = R) := hid (by have := HB1.out; rw [HPx.out, HLT.out, q1] at this; simpa using this)
              have FI0 : Hid (∀ W, Gr wr W → ∃ (i' j' fu' : Nat), (Value.int .i64 ((h : Int) + 1)) = .int .i64 (i' : Int) ∧ (Value.int .i64 (j : Int)) = .int .i64 (j' : Int) ∧ S0 ≤ i' ∧ i' ≤ j' ∧ j' ≤ S1 ∧ j' - i' ≤ fu' ∧ bsF P fu' i' j' = R ∧ SD base g cap W d ∧ Go1 g w W) := hid (fun W hW => ⟨h + 1, j, fu, by first | rfl | go_num, by first | rfl | go_num, by omega, by omega, by omega, by omega, HB2.out, HS.out.gr hW, HG.out.trans (Go1.of hW)⟩)
              clear hcc HB1 HLT HPx HS HG HB2
              go_upto_region 35 with (fail)
              refine Rg.region_text 13 (Below.drew (Below.refl _ _)) (by kernel_rfl) (by kernel_rfl) (fun _ _ d _ _ h => by cases d <;> exact h) ?_
              simp only [List.append_eq, List.cons_append, List.nil_append, List.take_succ_cons, List.take_zero, List.drop_succ_cons, List.drop_zero]
              repeat (first
                  | (refine Rg.wpDets_skip (by rfl) ?_; simp only [Act.put, List.setIfInBounds_toArray, List.set_cons_zero, List.set_cons_succ])
                  | (refine Rg.wpDets_step ?_ (by rfl) (fun w hS => ?_) ?_
                     rotate_left
                     · have hc := Gr.cells hS
                       have hf := Gr.frees hS
                       go_simp
                       first
                       | (refine ⟨?_, Below.refl _ _⟩; with_reducible rfl)
                       | ((with_reducible refine (CM _ hS).mono ?_); rintro e w' ⟨rfl, hg⟩; refine ⟨?_, hg⟩; with_reducible rfl)
                     simp only [Act.put, List.setIfInBounds_toArray, List.set_cons_zero, List.set_cons_succ]))
              refine Rg.wpDets_nil ?_
              refine Rg.wpFlts_nil ?_
              refine Rg.wpLays_nil ?_
              intro w9 hK
              have hg : Gr _ w9 := hK.up
              have hc := Gr.cells hg
              have hf := Gr.frees hg
              have hz := Gr.size hg
              try simp only [World.size_alloc, World.size_setCell, World.size_drew] at hz
              try have : 0 < w9.heap.size := by omega
              try have : w.heap.size < w9.heap.size := by omega
              try have : w.heap.size + 1 < w9.heap.size := by omega
              try have : w.heap.size + 1 + 1 < w9.heap.size := by omega
              try have : w.heap.size + 1 + 1 + 1 < w9.heap.size := by omega
              try have : w1.heap.size < w9.heap.size := by omega
              try have : w1.heap.size + 1 < w9.heap.size := by omega
              try have : w2.heap.size < w9.heap.size := by omega
              try have : w2.heap.size + 1 < w9.heap.size := by omega
              try have : w3.heap.size < w9.heap.size := by omega
              try have : w3.heap.size + 1 < w9.heap.size := by omega
              try have : w4.heap.size < w9.heap.size := by omega
              try have : w4.heap.size + 1 < w9.heap.size := by omega
              try have : w5.heap.size < w9.heap.size := by omega
              try have : w5.heap.size + 1 < w9.heap.size := by omega
              try have : w6.heap.size < w9.heap.size := by omega
              try have : w6.heap.size + 1 < w9.heap.size := by omega
              try have : w7.heap.size < w9.heap.size := by omega
              try have : w7.heap.size + 1 < w9.heap.size := by omega
              try have : w8.heap.size < w9.heap.size := by omega
              try have : w8.heap.size + 1 < w9.heap.size := by omega
              have FI := hid (FI0.out _ hg)
              clear FI0 CM hg c0 c1
              go_wp2
              exact ⟨FI.out, by simp [intOf]; omega⟩
          · have p1 : decide ((i : Int) < (j : Int)) = false := by rw [decide_eq_false_iff_not]; omega
            have p2 : decide (i < j) = false := by rw [decide_eq_false_iff_not]; exact hlt
            have hiR : i = R := by
              have := HBS.out
              cases fu with
              | zero => exact this
              | succ fu => unfold bsF at this; rw [if_neg hlt] at this; exact this
            subst hiR
            obtain rfl : i = j := by omega
            clear HBS hlt
            have gE : (n : Int) - (i : Int) = (E : Int) := by omega
            have gwE := IntWalk.i64_in (E : Int) (by omega)
            have hEb : E ≤ b ∧ M ≤ E ∧ i ≤ m := by omega
            have HDL := hid HN.out
            clear p1 p2 gp gwp hm2 hE hmi hjb HP
            by_cases hB : i < m ∧ m < E
            · have HT2 := hid HT.out
              have HT := hid (show (if M < E ∧ E < b then symF f (if a < i ∧ i < M then symF f (rotF m (E - i) (m - i) (E - m) d) a i M else (rotF m (E - i) (m - i) (E - m) d)) M E b else (if a < i ∧ i < M then symF f (rotF m (E - i) (m - i) (E - m) d) a i M else (rotF m (E - i) (m - i) (E - m) d))) = T by have := HT2.out; rw [if_pos hB] at this; exact this)
              clear HT2
              have p1 : decide ((i : Int) < (m : Int)) = true := by rw [decide_eq_true_iff]; have := hB.1; omega
              have p2 : decide (i < m) = true := by rw [decide_eq_true_iff]; exact hB.1
              have p3 : decide ((m : Int) < (E : Int)) = true := by rw [decide_eq_true_iff]; have := hB.2; omega
              have p4 : decide (m < E) = true := by rw [decide_eq_true_iff]; exact hB.2
              have C := hid (rot_any base g cap i m E d wr HS.out hB.1 hB.2 (by have := HDL.out; omega) (by have := HDL.out; omega))
              rw [HDL.out] at C
              clear hB
              go_wp2_with fail
              refine C.out.mono ?_
              rintro e v1 ⟨rfl, hsd, hgo⟩
              clear C p1 p2 p3 p4
              have HDL2 : Hid ((rotF m (E - i) (m - i) (E - m) d).length = N) := hid (by rw [rotF_len]; exact HDL.out)
              have HS2 := hid hsd
              have HG2 := hid (HG.out.trans hgo)
              clear hsd hgo HS HG HDL
              obtain ⟨d1, hd2⟩ : ∃ x, rotF m (E - i) (m - i) (E - m) d = x := ⟨_, rfl⟩
              rw [hd2] at HS2 HDL2 HT
              have HS := hid HS2.out
              have HG := hid HG2.out
              have HDL := hid HDL2.out
              clear HS2 HG2 HDL2 hd2
              by_cases hB : a < i ∧ i < M
              · have HT2 := hid HT.out
                have HT := hid (show (if M < E ∧ E < b then symF f (symF f d1 a i M) M E b else (symF f d1 a i M)) = T by have := HT2.out; rw [if_pos hB] at this; exact this)
                clear HT2
                have p1 : decide ((a : Int) < (i : Int)) = true := by rw [decide_eq_true_iff]; have := hB.1; omega
                have p2 : decide (a < i) = true := by rw [decide_eq_true_iff]; exact hB.1
                have p3 : decide ((i : Int) < (M : Int)) = true := by rw [decide_eq_true_iff]; have := hB.2; omega
                have p4 : decide (i < M) = true := by rw [decide_eq_true_iff]; exact hB.2
                have C := hid (IH.out a i M d1 v1 HS.out hB.1 hB.2 (by have := HDL.out; omega) (by have := HDL.out; omega) (by omega))
                rw [HDL.out] at C
                clear hB
                go_wp2_with fail
                refine C.out.mono ?_
                rintro e v2 ⟨rfl, hsd, hgo⟩
                clear C p1 p2 p3 p4
                have HDL2 : Hid ((symF f d1 a i M).length = N) := hid (by rw [symF_len]; exact HDL.out)
                have HS2 := hid hsd
                have HG2 := hid (HG.out.trans hgo)
                clear hsd hgo HS HG HDL
                obtain ⟨d2, hd2⟩ : ∃ x, symF f d1 a i M = x := ⟨_, rfl⟩
                rw [hd2] at HS2 HDL2 HT
                have HS := hid HS2.out
                have HG := hid HG2.out
                have HDL := hid HDL2.out
                clear HS2 HG2 HDL2 hd2
                by_cases hB : M < E ∧ E < b
                · have HT2 := hid HT.out
                  have HT := hid (show (symF f d2 M E b) = T by have := HT2.out; rw [if_pos hB] at this; exact this)
                  clear HT2
                  have p1 : decide ((M : Int) < (E : Int)) = true := by rw [decide_eq_true_iff]; have := hB.1; omega
                  have p2 : decide (M < E) = true := by rw [decide_eq_true_iff]; exact hB.1
                  have p3 : decide ((E : Int) < (b : Int)) = true := by rw [decide_eq_true_iff]; have := hB.2; omega
                  have p4 : decide (E < b) = true := by rw [decide_eq_true_iff]; exact hB.2
                  have C := hid (IH.out M E b d2 v2 HS.out hB.1 hB.2 (by have := HDL.out; omega) (by have := HDL.out; omega) (by omega))
                  rw [HDL.out] at C
                  clear hB
                  go_wp2_with fail
                  refine C.out.mono ?_
                  rintro e v3 ⟨rfl, hsd, hgo⟩
                  clear C p1 p2 p3 p4
                  have HDL2 : Hid ((symF f d2 M E b).length = N) := hid (by rw [symF_len]; exact HDL.out)
                  have HS2 := hid hsd
                  have HG2 := hid (HG.out.trans hgo)
                  clear hsd hgo HS HG HDL
                  obtain ⟨d3, hd2⟩ : ∃ x, symF f d2 M E b = x := ⟨_, rfl⟩
                  rw [hd2] at HS2 HDL2 HT
                  have HS := hid HS2.out
                  have HG := hid HG2.out
                  have HDL := hid HDL2.out
                  clear HS2 HG2 HDL2 hd2
                  go_wp2
                  first | exact ⟨rfl, .tuple #[], by simp [results, Tryd.results75, go_sem], rfl, by rw [← HT.out]; exact HS.out, HG.out⟩ | (go_ret; exact ⟨rfl, by rw [← HT.out]; exact HS.out, HG.out⟩) | (trace_state; sorry)
                · have HT2 := hid HT.out
                  have HT := hid (show (d2) = T by have := HT2.out; rw [if_neg hB] at this; exact this)
                  clear HT2
                  go_upto_region 43 with (fail)
                  refine head8 206 (.bool false) ?_ ?_
                  · intro Q' HQ0
                    have HQ := hid HQ0
                    clear HQ0
                    by_cases hxy : M < E
                    · have hyz : ¬ E < b := fun h => hB ⟨hxy, h⟩
                      have p1 : decide ((M : Int) < (E : Int)) = true := by rw [decide_eq_true_iff]; omega
                      have p2 : decide (M < E) = true := by rw [decide_eq_true_iff]; exact hxy
                      have p3 : decide ((E : Int) < (b : Int)) = false := by rw [decide_eq_false_iff_not]; omega
                      have p4 : decide (E < b) = false := by rw [decide_eq_false_iff_not]; exact hyz
                      obtain ⟨f0, h0, h1, h2, h3, h4, h5, h6⟩ := nth7 (.int .i64 (M : Int)) (.int .i64 (E : Int)) (.bool true) (.bool true) (.int .i64 (E : Int)) (.int .i64 (b : Int)) (.bool false)
                      have HF9 := HQ.out f0
                      simp only [modT8, h0, h1, h2, h3, h4, h5, h6, Act.put, List.setIfInBounds_toArray, List.set_cons_zero, List.set_cons_succ, Nat.reduceAdd] at HF9
                      have HF8 := hid HF9
                      clear HF9 HQ h0 h1 h2 h3 h4 h5 h6 hB
                      go_wp2
                      exact HF8.out
                    · have p1 : decide ((M : Int) < (E : Int)) = false := by rw [decide_eq_false_iff_not]; omega
                      have p2 : decide (M < E) = false := by rw [decide_eq_false_iff_not]; exact hxy
                      obtain ⟨f0, h0, h1, h2, h3, h4, h5, h6⟩ := nth7 (.int .i64 (M : Int)) (.int .i64 (E : Int)) (.bool false) (.bool false) undef undef undef
                      have HF9 := HQ.out f0
                      simp only [modT8, h0, h1, h2, h3, h4, h5, h6, Act.put, List.setIfInBounds_toArray, List.set_cons_zero, List.set_cons_succ, Nat.reduceAdd] at HF9
                      have HF8 := hid HF9
                      clear HF9 HQ h0 h1 h2 h3 h4 h5 h6 hB
                      go_wp2
                      exact HF8.out
                  intro f0
                  simp only [modT8, Act.put, List.setIfInBounds_toArray, List.set_cons_zero, List.set_cons_succ, Nat.reduceAdd]
                  generalize f0 0 = z0, f0 1 = z1, f0 2 = z2, f0 3 = z3, f0 4 = z4, f0 5 = z5, f0 6 = z6
                  clear hB
                  go_wp2
                  first | exact ⟨rfl, .tuple #[], by simp [results, Tryd.results75, go_sem], rfl, by rw [← HT.out]; exact HS.out, HG.out⟩ | (go_ret; exact ⟨rfl, by rw [← HT.out]; exact HS.out, HG.out⟩) | (trace_state; sorry)
              · have HT2 := hid HT.out
                have HT := hid (show (if M < E ∧ E < b then symF f (d1) M E b else (d1)) = T by have := HT2.out; rw [if_neg hB] at this; exact this)
                clear HT2
                go_upto_region 41 with (fail)
                refine head8 192 (.bool false) ?_ ?_
                · intro Q' HQ0
                  have HQ := hid HQ0
                  clear HQ0
                  by_cases hxy : a < i
                  · have hyz : ¬ i < M := fun h => hB ⟨hxy, h⟩
                    have p1 : decide ((a : Int) < (i : Int)) = true := by rw [decide_eq_true_iff]; omega
                    have p2 : decide (a < i) = true := by rw [decide_eq_true_iff]; exact hxy
                    have p3 : decide ((i : Int) < (M : Int)) = false := by rw [decide_eq_false_iff_not]; omega
                    have p4 : decide (i < M) = false := by rw [decide_eq_false_iff_not]; exact hyz
                    obtain ⟨f0, h0, h1, h2, h3, h4, h5, h6⟩ := nth7 (.int .i64 (a : Int)) (.int .i64 (i : Int)) (.bool true) (.bool true) (.int .i64 (i : Int)) (.int .i64 (M : Int)) (.bool false)
                    have HF9 := HQ.out f0
                    simp only [modT8, h0, h1, h2, h3, h4, h5, h6, Act.put, List.setIfInBounds_toArray, List.set_cons_zero, List.set_cons_succ, Nat.reduceAdd] at HF9
                    have HF8 := hid HF9
                    clear HF9 HQ h0 h1 h2 h3 h4 h5 h6 hB
                    go_wp2
                    exact HF8.out
                  · have p1 : decide ((a : Int) < (i : Int)) = false := by rw [decide_eq_false_iff_not]; omega
                    have p2 : decide (a < i) = false := by rw [decide_eq_false_iff_not]; exact hxy
                    obtain ⟨f0, h0, h1, h2, h3, h4, h5, h6⟩ := nth7 (.int .i64 (a : Int)) (.int .i64 (i : Int)) (.bool false) (.bool false) undef undef undef
                    have HF9 := HQ.out f0
                    simp only [modT8, h0, h1, h2, h3, h4, h5, h6, Act.put, List.setIfInBounds_toArray, List.set_cons_zero, List.set_cons_succ, Nat.reduceAdd] at HF9
                    have HF8 := hid HF9
                    clear HF9 HQ h0 h1 h2 h3 h4 h5 h6 hB
                    go_wp2
                    exact HF8.out
                intro f0
                simp only [modT8, Act.put, List.setIfInBounds_toArray, List.set_cons_zero, List.set_cons_succ, Nat.reduceAdd]
                generalize f0 0 = z0, f0 1 = z1, f0 2 = z2, f0 3 = z3, f0 4 = z4, f0 5 = z5, f0 6 = z6
                clear hB
                by_cases hB : M < E ∧ E < b
                · have HT2 := hid HT.out
                  have HT := hid (show (symF f d1 M E b) = T by have := HT2.out; rw [if_pos hB] at this; exact this)
                  clear HT2
                  have p1 : decide ((M : Int) < (E : Int)) = true := by rw [decide_eq_true_iff]; have := hB.1; omega
                  have p2 : decide (M < E) = true := by rw [decide_eq_true_iff]; exact hB.1
                  have p3 : decide ((E : Int) < (b : Int)) = true := by rw [decide_eq_true_iff]; have := hB.2; omega
                  have p4 : decide (E < b) = true := by rw [decide_eq_true_iff]; exact hB.2
                  have C := hid (IH.out M E b d1 v1 HS.out hB.1 hB.2 (by have := HDL.out; omega) (by have := HDL.out; omega) (by omega))
                  rw [HDL.out] at C
                  clear hB
                  go_wp2_with fail
                  refine C.out.mono ?_
                  rintro e v3 ⟨rfl, hsd, hgo⟩
                  clear C p1 p2 p3 p4
                  have HDL2 : Hid ((symF f d1 M E b).length = N) := hid (by rw [symF_len]; exact HDL.out)
                  have HS2 := hid hsd
                  have HG2 := hid (HG.out.trans hgo)
                  clear hsd hgo HS HG HDL
                  obtain ⟨d3, hd2⟩ : ∃ x, symF f d1 M E b = x := ⟨_, rfl⟩
                  rw [hd2] at HS2 HDL2 HT
                  have HS := hid HS2.out
                  have HG := hid HG2.out
                  have HDL := hid HDL2.out
                  clear HS2 HG2 HDL2 hd2
                  go_wp2
                  first | exact ⟨rfl, .tuple #[], by simp [results, Tryd.results75, go_sem], rfl, by rw [← HT.out]; exact HS.out, HG.out⟩ | (go_ret; exact ⟨rfl, by rw [← HT.out]; exact HS.out, HG.out⟩) | (trace_state; sorry)
                · have HT2 := hid HT.out
                  have HT := hid (show (d1) = T by have := HT2.out; rw [if_neg hB] at this; exact this)
                  clear HT2
                  go_upto_region 43 with (fail)
                  refine head8 206 (.bool false) ?_ ?_
                  · intro Q' HQ0
                    have HQ := hid HQ0
                    clear HQ0
                    by_cases hxy : M < E
                    · have hyz : ¬ E < b := fun h => hB ⟨hxy, h⟩
                      have p1 : decide ((M : Int) < (E : Int)) = true := by rw [decide_eq_true_iff]; omega
                      have p2 : decide (M < E) = true := by rw [decide_eq_true_iff]; exact hxy
                      have p3 : decide ((E : Int) < (b : Int)) = false := by rw [decide_eq_false_iff_not]; omega
                      have p4 : decide (E < b) = false := by rw [decide_eq_false_iff_not]; exact hyz
                      obtain ⟨f0, h0, h1, h2, h3, h4, h5, h6⟩ := nth7 (.int .i64 (M : Int)) (.int .i64 (E : Int)) (.bool true) (.bool true) (.int .i64 (E : Int)) (.int .i64 (b : Int)) (.bool false)
                      have HF9 := HQ.out f0
                      simp only [modT8, h0, h1, h2, h3, h4, h5, h6, Act.put, List.setIfInBounds_toArray, List.set_cons_zero, List.set_cons_succ, Nat.reduceAdd] at HF9
                      have HF8 := hid HF9
                      clear HF9 HQ h0 h1 h2 h3 h4 h5 h6 hB
                      go_wp2
                      exact HF8.out
                    · have p1 : decide ((M : Int) < (E : Int)) = false := by rw [decide_eq_false_iff_not]; omega
                      have p2 : decide (M < E) = false := by rw [decide_eq_false_iff_not]; exact hxy
                      obtain ⟨f0, h0, h1, h2, h3, h4, h5, h6⟩ := nth7 (.int .i64 (M : Int)) (.int .i64 (E : Int)) (.bool false) (.bool false) undef undef undef
                      have HF9 := HQ.out f0
                      simp only [modT8, h0, h1, h2, h3, h4, h5, h6, Act.put, List.setIfInBounds_toArray, List.set_cons_zero, List.set_cons_succ, Nat.reduceAdd] at HF9
                      have HF8 := hid HF9
                      clear HF9 HQ h0 h1 h2 h3 h4 h5 h6 hB
                      go_wp2
                      exact HF8.out
                  intro f0
                  simp only [modT8, Act.put, List.setIfInBounds_toArray, List.set_cons_zero, List.set_cons_succ, Nat.reduceAdd]
                  generalize f0 0 = z0, f0 1 = z1, f0 2 = z2, f0 3 = z3, f0 4 = z4, f0 5 = z5, f0 6 = z6
                  clear hB
                  go_wp2
                  first | exact ⟨rfl, .tuple #[], by simp [results, Tryd.results75, go_sem], rfl, by rw [← HT.out]; exact HS.out, HG.out⟩ | (go_ret; exact ⟨rfl, by rw [← HT.out]; exact HS.out, HG.out⟩) | (trace_state; sorry)
            · have HT2 := hid HT.out
              have HT := hid (show (if M < E ∧ E < b then symF f (if a < i ∧ i < M then symF f (d) a i M else (d)) M E b else (if a < i ∧ i < M then symF f (d) a i M else (d))) = T by have := HT2.out; rw [if_neg hB] at this; exact this)
              clear HT2
              go_upto_region 39 with (fail)
              refine head8 178 (.bool false) ?_ ?_
              · intro Q' HQ0
                have HQ := hid HQ0
                clear HQ0
                by_cases hxy : i < m
                · have hyz : ¬ m < E := fun h => hB ⟨hxy, h⟩
                  have p1 : decide ((i : Int) < (m : Int)) = true := by rw [decide_eq_true_iff]; omega
                  have p2 : decide (i < m) = true := by rw [decide_eq_true_iff]; exact hxy
                  have p3 : decide ((m : Int) < (E : Int)) = false := by rw [decide_eq_false_iff_not]; omega
                  have p4 : decide (m < E) = false := by rw [decide_eq_false_iff_not]; exact hyz
                  obtain ⟨f0, h0, h1, h2, h3, h4, h5, h6⟩ := nth7 (.int .i64 (i : Int)) (.int .i64 (m : Int)) (.bool true) (.bool true) (.int .i64 (m : Int)) (.int .i64 (E : Int)) (.bool false)
                  have HF9 := HQ.out f0
                  simp only [modT8, h0, h1, h2, h3, h4, h5, h6, Act.put, List.setIfInBounds_toArray, List.set_cons_zero, List.set_cons_succ, Nat.reduceAdd] at HF9
                  have HF8 := hid HF9
                  clear HF9 HQ h0 h1 h2 h3 h4 h5 h6 hB
                  go_wp2
                  exact HF8.out
                · have p1 : decide ((i : Int) < (m : Int)) = false := by rw [decide_eq_false_iff_not]; omega
                  have p2 : decide (i < m) = false := by rw [decide_eq_false_iff_not]; exact hxy
                  obtain ⟨f0, h0, h1, h2, h3, h4, h5, h6⟩ := nth7 (.int .i64 (i : Int)) (.int .i64 (m : Int)) (.bool false) (.bool false) undef undef undef
                  have HF9 := HQ.out f0
                  simp only [modT8, h0, h1, h2, h3, h4, h5, h6, Act.put, List.setIfInBounds_toArray, List.set_cons_zero, List.set_cons_succ, Nat.reduceAdd] at HF9
                  have HF8 := hid HF9
                  clear HF9 HQ h0 h1 h2 h3 h4 h5 h6 hB
                  go_wp2
                  exact HF8.out
              intro f0
              simp only [modT8, Act.put, List.setIfInBounds_toArray, List.set_cons_zero, List.set_cons_succ, Nat.reduceAdd]
              generalize f0 0 = z0, f0 1 = z1, f0 2 = z2, f0 3 = z3, f0 4 = z4, f0 5 = z5, f0 6 = z6
              clear hB
              by_cases hB : a < i ∧ i < M
              · have HT2 := hid HT.out
                have HT := hid (show (if M < E ∧ E < b then symF f (symF f d a i M) M E b else (symF f d a i M)) = T by have := HT2.out; rw [if_pos hB] at this; exact this)
                clear HT2
                have p1 : decide ((a : Int) < (i : Int)) = true := by rw [decide_eq_true_iff]; have := hB.1; omega
                have p2 : decide (a < i) = true := by rw [decide_eq_true_iff]; exact hB.1
                have p3 : decide ((i : Int) < (M : Int)) = true := by rw [decide_eq_true_iff]; have := hB.2; omega
                have p4 : decide (i < M) = true := by rw [decide_eq_true_iff]; exact hB.2
                have C := hid (IH.out a i M d wr HS.out hB.1 hB.2 (by have := HDL.out; omega) (by have := HDL.out; omega) (by omega))
                rw [HDL.out] at C
                clear hB
                go_wp2_with fail
                refine C.out.mono ?_
                rintro e v2 ⟨rfl, hsd, hgo⟩
                clear C p1 p2 p3 p4
                have HDL2 : Hid ((symF f d a i M).length = N) := hid (by rw [symF_len]; exact HDL.out)
                have HS2 := hid hsd
                have HG2 := hid (HG.out.trans hgo)
                clear hsd hgo HS HG HDL
                obtain ⟨d2, hd2⟩ : ∃ x, symF f d a i M = x := ⟨_, rfl⟩
                rw [hd2] at HS2 HDL2 HT
                have HS := hid HS2.out
                have HG := hid HG2.out
                have HDL := hid HDL2.out
                clear HS2 HG2 HDL2 hd2
                by_cases hB : M < E ∧ E < b
                · have HT2 := hid HT.out
                  have HT := hid (show (symF f d2 M E b) = T by have := HT2.out; rw [if_pos hB] at this; exact this)
                  clear HT2
                  have p1 : decide ((M : Int) < (E : Int)) = true := by rw [decide_eq_true_iff]; have := hB.1; omega
                  have p2 : decide (M < E) = true := by rw [decide_eq_true_iff]; exact hB.1
                  have p3 : decide ((E : Int) < (b : Int)) = true := by rw [decide_eq_true_iff]; have := hB.2; omega
                  have p4 : decide (E < b) = true := by rw [decide_eq_true_iff]; exact hB.2
                  have C := hid (IH.out M E b d2 v2 HS.out hB.1 hB.2 (by have := HDL.out; omega) (by have := HDL.out; omega) (by omega))
                  rw [HDL.out] at C
                  clear hB
                  go_wp2_with fail
                  refine C.out.mono ?_
                  rintro e v3 ⟨rfl, hsd, hgo⟩
                  clear C p1 p2 p3 p4
                  have HDL2 : Hid ((symF f d2 M E b).length = N) := hid (by rw [symF_len]; exact HDL.out)
                  have HS2 := hid hsd
                  have HG2 := hid (HG.out.trans hgo)
                  clear hsd hgo HS HG HDL
                  obtain ⟨d3, hd2⟩ : ∃ x, symF f d2 M E b = x := ⟨_, rfl⟩
                  rw [hd2] at HS2 HDL2 HT
                  have HS := hid HS2.out
                  have HG := hid HG2.out
                  have HDL := hid HDL2.out
                  clear HS2 HG2 HDL2 hd2
                  go_wp2
                  first | exact ⟨rfl, .tuple #[], by simp [results, Tryd.results75, go_sem], rfl, by rw [← HT.out]; exact HS.out, HG.out⟩ | (go_ret; exact ⟨rfl, by rw [← HT.out]; exact HS.out, HG.out⟩) | (trace_state; sorry)
                · have HT2 := hid HT.out
                  have HT := hid (show (d2) = T by have := HT2.out; rw [if_neg hB] at this; exact this)
                  clear HT2
                  go_upto_region 43 with (fail)
                  refine head8 206 (.bool false) ?_ ?_
                  · intro Q' HQ0
                    have HQ := hid HQ0
                    clear HQ0
                    by_cases hxy : M < E
                    · have hyz : ¬ E < b := fun h => hB ⟨hxy, h⟩
                      have p1 : decide ((M : Int) < (E : Int)) = true := by rw [decide_eq_true_iff]; omega
                      have p2 : decide (M < E) = true := by rw [decide_eq_true_iff]; exact hxy
                      have p3 : decide ((E : Int) < (b : Int)) = false := by rw [decide_eq_false_iff_not]; omega
                      have p4 : decide (E < b) = false := by rw [decide_eq_false_iff_not]; exact hyz
                      obtain ⟨f0, h0, h1, h2, h3, h4, h5, h6⟩ := nth7 (.int .i64 (M : Int)) (.int .i64 (E : Int)) (.bool true) (.bool true) (.int .i64 (E : Int)) (.int .i64 (b : Int)) (.bool false)
                      have HF9 := HQ.out f0
                      simp only [modT8, h0, h1, h2, h3, h4, h5, h6, Act.put, List.setIfInBounds_toArray, List.set_cons_zero, List.set_cons_succ, Nat.reduceAdd] at HF9
                      have HF8 := hid HF9
                      clear HF9 HQ h0 h1 h2 h3 h4 h5 h6 hB
                      go_wp2
                      exact HF8.out
                    · have p1 : decide ((M : Int) < (E : Int)) = false := by rw [decide_eq_false_iff_not]; omega
                      have p2 : decide (M < E) = false := by rw [decide_eq_false_iff_not]; exact hxy
                      obtain ⟨f0, h0, h1, h2, h3, h4, h5, h6⟩ := nth7 (.int .i64 (M : Int)) (.int .i64 (E : Int)) (.bool false) (.bool false) undef undef undef
                      have HF9 := HQ.out f0
                      simp only [modT8, h0, h1, h2, h3, h4, h5, h6, Act.put, List.setIfInBounds_toArray, List.set_cons_zero, List.set_cons_succ, Nat.reduceAdd] at HF9
                      have HF8 := hid HF9
                      clear HF9 HQ h0 h1 h2 h3 h4 h5 h6 hB
                      go_wp2
                      exact HF8.out
                  intro f0
                  simp only [modT8, Act.put, List.setIfInBounds_toArray, List.set_cons_zero, List.set_cons_succ, Nat.reduceAdd]
                  generalize f0 0 = z0, f0 1 = z1, f0 2 = z2, f0 3 = z3, f0 4 = z4, f0 5 = z5, f0 6 = z6
                  clear hB
                  go_wp2
                  first | exact ⟨rfl, .tuple #[], by simp [results, Tryd.results75, go_sem], rfl, by rw [← HT.out]; exact HS.out, HG.out⟩ | (go_ret; exact ⟨rfl, by rw [← HT.out]; exact HS.out, HG.out⟩) | (trace_state; sorry)
              · have HT2 := hid HT.out
                have HT := hid (show (if M < E ∧ E < b then symF f (d) M E b else (d)) = T by have := HT2.out; rw [if_neg hB] at this; exact this)
                clear HT2
                go_upto_region 41 with (fail)
                refine head8 192 (.bool false) ?_ ?_
                · intro Q' HQ0
                  have HQ := hid HQ0
                  clear HQ0
                  by_cases hxy : a < i
                  · have hyz : ¬ i < M := fun h => hB ⟨hxy, h⟩
                    have p1 : decide ((a : Int) < (i : Int)) = true := by rw [decide_eq_true_iff]; omega
                    have p2 : decide (a < i) = true := by rw [decide_eq_true_iff]; exact hxy
                    have p3 : decide ((i : Int) < (M : Int)) = false := by rw [decide_eq_false_iff_not]; omega
                    have p4 : decide (i < M) = false := by rw [decide_eq_false_iff_not]; exact hyz
                    obtain ⟨f0, h0, h1, h2, h3, h4, h5, h6⟩ := nth7 (.int .i64 (a : Int)) (.int .i64 (i : Int)) (.bool true) (.bool true) (.int .i64 (i : Int)) (.int .i64 (M : Int)) (.bool false)
                    have HF9 := HQ.out f0
                    simp only [modT8, h0, h1, h2, h3, h4, h5, h6, Act.put, List.setIfInBounds_toArray, List.set_cons_zero, List.set_cons_succ, Nat.reduceAdd] at HF9
                    have HF8 := hid HF9
                    clear HF9 HQ h0 h1 h2 h3 h4 h5 h6 hB
                    go_wp2
                    exact HF8.out
                  · have p1 : decide ((a : Int) < (i : Int)) = false := by rw [decide_eq_false_iff_not]; omega
                    have p2 : decide (a < i) = false := by rw [decide_eq_false_iff_not]; exact hxy
                    obtain ⟨f0, h0, h1, h2, h3, h4, h5, h6⟩ := nth7 (.int .i64 (a : Int)) (.int .i64 (i : Int)) (.bool false) (.bool false) undef undef undef
                    have HF9 := HQ.out f0
                    simp only [modT8, h0, h1, h2, h3, h4, h5, h6, Act.put, List.setIfInBounds_toArray, List.set_cons_zero, List.set_cons_succ, Nat.reduceAdd] at HF9
                    have HF8 := hid HF9
                    clear HF9 HQ h0 h1 h2 h3 h4 h5 h6 hB
                    go_wp2
                    exact HF8.out
                intro f0
                simp only [modT8, Act.put, List.setIfInBounds_toArray, List.set_cons_zero, List.set_cons_succ, Nat.reduceAdd]
                generalize f0 0 = z0, f0 1 = z1, f0 2 = z2, f0 3 = z3, f0 4 = z4, f0 5 = z5, f0 6 = z6
                clear hB
                by_cases hB : M < E ∧ E < b
                · have HT2 := hid HT.out
                  have HT := hid (show (symF f d M E b) = T by have := HT2.out; rw [if_pos hB] at this; exact this)
                  clear HT2
                  have p1 : decide ((M : Int) < (E : Int)) = true := by rw [decide_eq_true_iff]; have := hB.1; omega
                  have p2 : decide (M < E) = true := by rw [decide_eq_true_iff]; exact hB.1
                  have p3 : decide ((E : Int) < (b : Int)) = true := by rw [decide_eq_true_iff]; have := hB.2; omega
                  have p4 : decide (E < b) = true := by rw [decide_eq_true_iff]; exact hB.2
                  have C := hid (IH.out M E b d wr HS.out hB.1 hB.2 (by have := HDL.out; omega) (by have := HDL.out; omega) (by omega))
                  rw [HDL.out] at C
                  clear hB
                  go_wp2_with fail
                  refine C.out.mono ?_
                  rintro e v3 ⟨rfl, hsd, hgo⟩
                  clear C p1 p2 p3 p4
                  have HDL2 : Hid ((symF f d M E b).length = N) := hid (by rw [symF_len]; exact HDL.out)
                  have HS2 := hid hsd
                  have HG2 := hid (HG.out.trans hgo)
                  clear hsd hgo HS HG HDL
                  obtain ⟨d3, hd2⟩ : ∃ x, symF f d M E b = x := ⟨_, rfl⟩
                  rw [hd2] at HS2 HDL2 HT
                  have HS := hid HS2.out
                  have HG := hid HG2.out
                  have HDL := hid HDL2.out
                  clear HS2 HG2 HDL2 hd2
                  go_wp2
                  first | exact ⟨rfl, .tuple #[], by simp [results, Tryd.results75, go_sem], rfl, by rw [← HT.out]; exact HS.out, HG.out⟩ | (go_ret; exact ⟨rfl, by rw [← HT.out]; exact HS.out, HG.out⟩) | (trace_state; sorry)
                · have HT2 := hid HT.out
                  have HT := hid (show (d) = T by have := HT2.out; rw [if_neg hB] at this; exact this)
                  clear HT2
                  go_upto_region 43 with (fail)
                  refine head8 206 (.bool false) ?_ ?_
                  · intro Q' HQ0
                    have HQ := hid HQ0
                    clear HQ0
                    by_cases hxy : M < E
                    · have hyz : ¬ E < b := fun h => hB ⟨hxy, h⟩
                      have p1 : decide ((M : Int) < (E : Int)) = true := by rw [decide_eq_true_iff]; omega
                      have p2 : decide (M < E) = true := by rw [decide_eq_true_iff]; exact hxy
                      have p3 : decide ((E : Int) < (b : Int)) = false := by rw [decide_eq_false_iff_not]; omega
                      have p4 : decide (E < b) = false := by rw [decide_eq_false_iff_not]; exact hyz
                      obtain ⟨f0, h0, h1, h2, h3, h4, h5, h6⟩ := nth7 (.int .i64 (M : Int)) (.int .i64 (E : Int)) (.bool true) (.bool true) (.int .i64 (E : Int)) (.int .i64 (b : Int)) (.bool false)
                      have HF9 := HQ.out f0
                      simp only [modT8, h0, h1, h2, h3, h4, h5, h6, Act.put, List.setIfInBounds_toArray, List.set_cons_zero, List.set_cons_succ, Nat.reduceAdd] at HF9
                      have HF8 := hid HF9
                      clear HF9 HQ h0 h1 h2 h3 h4 h5 h6 hB
                      go_wp2
                      exact HF8.out
                    · have p1 : decide ((M : Int) < (E : Int)) = false := by rw [decide_eq_false_iff_not]; omega
                      have p2 : decide (M < E) = false := by rw [decide_eq_false_iff_not]; exact hxy
                      obtain ⟨f0, h0, h1, h2, h3, h4, h5, h6⟩ := nth7 (.int .i64 (M : Int)) (.int .i64 (E : Int)) (.bool false) (.bool false) undef undef undef
                      have HF9 := HQ.out f0
                      simp only [modT8, h0, h1, h2, h3, h4, h5, h6, Act.put, List.setIfInBounds_toArray, List.set_cons_zero, List.set_cons_succ, Nat.reduceAdd] at HF9
                      have HF8 := hid HF9
                      clear HF9 HQ h0 h1 h2 h3 h4 h5 h6 hB
                      go_wp2
                      exact HF8.out
                  intro f0
                  simp only [modT8, Act.put, List.setIfInBounds_toArray, List.set_cons_zero, List.set_cons_succ, Nat.reduceAdd]
                  generalize f0 0 = z0, f0 1 = z1, f0 2 = z2, f0 3 = z3, f0 4 = z4, f0 5 = z5, f0 6 = z6
                  clear hB
                  go_wp2
                  first | exact ⟨rfl, .tuple #[], by simp [results, Tryd.results75, go_sem], rfl, by rw [← HT.out]; exact HS.out, HG.out⟩ | (go_ret; exact ⟨rfl, by rw [← HT.out]; exact HS.out, HG.out⟩) | (trace_state; sorry)
      · have q1 : decide ((M : Int) < (m : Int)) = false := by rw [decide_eq_false_iff_not]; omega
        have q2 : decide (M < m) = false := by rw [decide_eq_false_iff_not]; exact hmM
        obtain ⟨S0, hS0⟩ : ∃ x, sy0 m b M a = x := ⟨_, rfl⟩
        obtain ⟨S1, hS1⟩ : ∃ x, sy1 m M = x := ⟨_, rfl⟩
        rw [hS0, hS1] at hR
        have e0 : S0 = a := by rw [← hS0]; unfold sy0; rw [if_neg hmM]
        have e1 : S1 = m := by rw [← hS1]; unfold sy1; rw [if_neg hmM]
        have hSS : S0 ≤ S1 ∧ S1 ≤ m ∧ n ≤ S0 + b ∧ m ≤ M := by omega
        have HI : Hid (∃ (i j fu : Nat), (Value.int .i64 (a : Int)) = .int .i64 (i : Int) ∧ (Value.int .i64 (m : Int)) = .int .i64 (j : Int) ∧ S0 ≤ i ∧ i ≤ j ∧ j ≤ S1 ∧ j - i ≤ fu ∧ bsF P fu i j = R ∧ SD base g cap w d ∧ Go1 g w w) := hid ⟨a, m, m - a, rfl, rfl, by omega, by omega, by omega, Nat.le_refl _, by rw [← hR, e0, e1], HS.out, Go1.of (Gr.refl _)⟩
        clear hP hR hS0 hS1 e0 e1 HS hmM
        go_enter Tryd.func75, Tryd.ntmps75
        go_wp2_with fail
        go_loopw [20, 21] (fun si sj wr => ∃ (i j fu : Nat), si = .int .i64 (i : Int) ∧ sj = .int .i64 (j : Int) ∧ S0 ≤ i ∧ i ≤ j ∧ j ≤ S1 ∧ j - i ≤ fu ∧ bsF P fu i j = R ∧ SD base g cap wr d ∧ Go1 g w wr) (fun si sj _ => (intOf sj).toNat - (intOf si).toNat)
        case atStart => exact HI.out
        case round =>
          clear HI
          obtain ⟨i, j, fu, rfl, rfl, hmi, hij, hjb, hfu, hbs, hsd, hgo⟩ := hrel
          have HS := hid hsd
          have HG := hid hgo
          have HBS := hid hbs
          clear hsd hgo hbs
          by_cases hlt : i < j
          · have p1 : decide ((i : Int) < (j : Int)) = true := by rw [decide_eq_true_iff]; omega
            have p2 : decide (i < j) = true := by rw [decide_eq_true_iff]; exact hlt
            obtain ⟨fu, rfl⟩ : ∃ x, fu = x + 1 := ⟨fu - 1, by omega⟩
            have HB1 : Hid ((if P ((i + j) / 2) = true then bsF P fu ((i + j) / 2 + 1) j else bsF P fu i ((i + j) / 2)) = R) := hid (by have := HBS.out; unfold bsF at this; rw [if_pos hlt] at this; exact this)
            obtain ⟨h, hh⟩ : ∃ x, (i + j) / 2 = x := ⟨_, rfl⟩
            rw [hh] at HB1
            have hm2 : ((i : Int) + (j : Int)) / 2 = (h : Int) := by omega
            have hhi : i ≤ h ∧ h < j := by omega
            clear hh HBS
            obtain ⟨pc, hpc⟩ : ∃ x, p - h = x := ⟨_, rfl⟩
            have gpc : (p : Int) - (h : Int) = (pc : Int) := by omega
            have gwpc := IntWalk.i64_in (pc : Int) (by omega)
            have hpc2 : pc = M + m - 1 - h := by omega
            have hpN : pc < N := by omega
            have g4 : (h : Int) < (N : Int) := by omega
            have g5 : (0 : Int) ≤ (h : Int) := by omega
            have g6 : (pc : Int) < (N : Int) := by omega
            have g7 : (0 : Int) ≤ (pc : Int) := by omega
            have gwh := IntWalk.i64_in (h : Int) (by omega)
            have HPC := hid hpc2
            clear hpc hpc2
            have HPx : Hid (P h = !ltR (gx d pc) (gx d h)) := hid (by rw [← HP.out, HPC.out])
            have hx0 : pc < d.length := by have := HN.out; omega
            have hy0 : h < d.length := by have := HN.out; omega
            have c1 := HS.out.cell pc hx0
            have c0 := HS.out.cell h hy0
            have hx := HS.out.ok _ (get_mem! d pc hx0)
            have hy := HS.out.ok _ (get_mem! d h hy0)
            have CM : ∀ W, Rg.Up wr W → Calls Tryd.prog 21 #[.slice (gx d pc).oa (gx d pc).l.length (gx d pc).c, .slice (gx d h).oa (gx d h).l.length (gx d h).c] W fun e w' => e = .returned (.int .i64 (cmpR (gx d pc).l (gx d h).l)) ∧ Gr W w' := fun W hW => cmp_rw (hx.gr hW) (hy.gr hW)
            obtain ⟨CC, hCC⟩ : ∃ c, cmpR (gx d pc).l (gx d h).l = c := ⟨_, rfl⟩
            have HLT : Hid (ltR (gx d pc) (gx d h) = decide (CC < 0)) := hid (by rw [← hCC]; rfl)
            rw [hCC] at CM
            have zg := HS.out.lt.2
            clear hx hy hCC hx0 hy0
            by_cases hcc : CC < 0
            · have q1 : decide (CC < 0) = true := by rw [decide_eq_true_iff]; exact hcc
              have HB2 : Hid (bsF P fu i h = R) := hid (by have := HB1.out; rw [HPx.out, HLT.out, q1] at this; simpa using this)
              have FI0 : Hid (∀ W, Gr wr W → ∃ (i' j' fu' : Nat), (Value.int .i64 (i : Int)) = .int .i64 (i' : Int) ∧ (Value.int .i64 (h : Int)) = .int .i64 (j' : Int) ∧ S0 ≤ i' ∧ i' ≤ j' ∧ j' ≤ S1 ∧ j' - i' ≤ fu' ∧ bsF P fu' i' j' = R ∧ SD base g cap W d ∧ Go1 g w W) := hid (fun W hW => ⟨i, h, fu, by first | rfl | go_num, by first | rfl | go_num, by omega, by omega, by omega, by omega, HB2.out, HS.out.gr hW, HG.out.trans (Go1.of hW)⟩)
              clear hcc HB1 HLT HPx HS HG HB2
              go_upto_region 35 with (fail)
              refine Rg.region_text 13 (Below.drew (Below.refl _ _)) (by kernel_rfl) (by kernel_rfl) (fun _ _ d _ _ h => by cases d <;> exact h) ?_
              simp only [List.append_eq, List.cons_append, List.nil_append, List.take_succ_cons, List.take_zero, List.drop_succ_cons, List.drop_zero]
              repeat (first
                  | (refine Rg.wpDets_skip (by rfl) ?_; simp only [Act.put, List.setIfInBounds_toArray, List.set_cons_zero, List.set_cons_succ])
                  | (refine Rg.wpDets_step ?_ (by rfl) (fun w hS => ?_) ?_
                     rotate_left
                     · have hc := Gr.cells hS
                       have hf := Gr.frees hS
                       go_simp
                       first
                       | (refine ⟨?_, Below.refl _ _⟩; with_reducible rfl)
                       | ((with_reducible refine (CM _ hS).mono ?_); rintro e w' ⟨rfl, hg⟩; refine ⟨?_, hg⟩; with_reducible rfl)
                     simp only [Act.put, List.setIfInBounds_toArray, List.set_cons_zero, List.set_cons_succ]))
              refine Rg.wpDets_nil ?_
              refine Rg.wpFlts_nil ?_
              refine Rg.wpLays_nil ?_
              intro w9 hK
              have hg : Gr _ w9 := hK.up
              have hc := Gr.cells hg
              have hf := Gr.frees hg
              have hz := Gr.size hg
              try simp only [World.size_alloc, World.size_setCell, World.size_drew] at hz
              try have : 0 < w9.heap.size := by omega
              try have : w.heap.size < w9.heap.size := by omega
              try have : w.heap.size + 1 < w9.heap.size := by omega
              try have : w.heap.size + 1 + 1 < w9.heap.size := by omega
              try have : w.heap.size + 1 + 1 + 1 < w9.heap.size := by omega
              try have : w1.heap.size < w9.heap.size := by omega
              try have : w1.heap.size + 1 < w9.heap.size := by omega
              try have : w2.heap.size < w9.heap.size := by omega
              try have : w2.heap.size + 1 < w9.heap.size := by omega
              try have : w3.heap.size < w9.heap.size := by omega
              try have : w3.heap.size + 1 < w9.heap.size := by omega
              try have : w4.heap.size < w9.heap.size := by omega
              try have : w4.heap.size + 1 < w9.heap.size := by omega
              try have : w5.heap.size < w9.heap.size := by omega
              try have : w5.heap.size + 1 < w9.heap.size := by omega
              try have : w6.heap.size < w9.heap.size := by omega
              try have : w6.heap.size + 1 < w9.heap.size := by omega
              try have : w7.heap.size < w9.heap.size := by omega
              try have : w7.heap.size + 1 < w9.heap.size := by omega
              try have : w8.heap.size < w9.heap.size := by omega
              try have : w8.heap.size + 1 < w9.heap.size := by omega
              have FI := hid (FI0.out _ hg)
              clear FI0 CM hg c0 c1
              go_wp2
              exact ⟨FI.out, by simp [intOf]; omega⟩
            · have q1 : decide (CC < 0) = false := by rw [decide_eq_false_iff_not]; exact hcc
              have HB2 : Hid (bsF P fu (h + 1) j = R) := hid (by have := HB1.out; rw [HPx.out, HLT.out, q1] at this; simpa using this)
              have FI0 : Hid (∀ W, Gr wr W → ∃ (i' j' fu' : Nat), (Value.int .i64 ((h : Int) + 1)) = .int .i64 (i' : Int) ∧ (Value.int .i64 (j : Int)) = .int .i64 (j' : Int) ∧ S0 ≤ i' ∧ i' ≤ j' ∧ j' ≤ S1 ∧ j' - i' ≤ fu' ∧ bsF P fu' i' j' = R ∧ SD base g cap W d ∧ Go1 g w W) := hid (fun W hW => ⟨h + 1, j, fu, by first | rfl | go_num, by first | rfl | go_num, by omega, by omega, by omega, by omega, HB2.out, HS.out.gr hW, HG.out.trans (Go1.of hW)⟩)
              clear hcc HB1 HLT HPx HS HG HB2
              go_upto_region 35 with (fail)
              refine Rg.region_text 13 (Below.drew (Below.refl _ _)) (by kernel_rfl) (by kernel_rfl) (fun _ _ d _ _ h => by cases d <;> exact h) ?_
              simp only [List.append_eq, List.cons_append, List.nil_append, List.take_succ_cons, List.take_zero, List.drop_succ_cons, List.drop_zero]
              repeat (first
                  | (refine Rg.wpDets_skip (by rfl) ?_; simp only [Act.put, List.setIfInBounds_toArray, List.set_cons_zero, List.set_cons_succ])
                  | (refine Rg.wpDets_step ?_ (by rfl) (fun w hS => ?_) ?_
                     rotate_left
                     · have hc := Gr.cells hS
                       have hf := Gr.frees hS
                       go_simp
                       first
                       | (refine ⟨?_, Below.refl _ _⟩; with_reducible rfl)
                       | ((with_reducible refine (CM _ hS).mono ?_); rintro e w' ⟨rfl, hg⟩; refine ⟨?_, hg⟩; with_reducible rfl)
                     simp only [Act.put, List.setIfInBounds_toArray, List.set_cons_zero, List.set_cons_succ]))
              refine Rg.wpDets_nil ?_
              refine Rg.wpFlts_nil ?_
              refine Rg.wpLays_nil ?_
              intro w9 hK
              have hg : Gr _ w9 := hK.up
              have hc := Gr.cells hg
              have hf := Gr.frees hg
              have hz := Gr.size hg
              try simp only [World.size_alloc, World.size_setCell, World.size_drew] at hz
              try have : 0 < w9.heap.size := by omega
              try have : w.heap.size < w9.heap.size := by omega
              try have : w.heap.size + 1 < w9.heap.size := by omega
              try have : w.heap.size + 1 + 1 < w9.heap.size := by omega
              try have : w.heap.size + 1 + 1 + 1 < w9.heap.size := by omega
              try have : w1.heap.size < w9.heap.size := by omega
              try have : w1.heap.size + 1 < w9.heap.size := by omega
              try have : w2.heap.size < w9.heap.size := by omega
              try have : w2.heap.size + 1 < w9.heap.size := by omega
              try have : w3.heap.size < w9.heap.size := by omega
              try have : w3.heap.size + 1 < w9.heap.size := by omega
              try have : w4.heap.size < w9.heap.size := by omega
              try have : w4.heap.size + 1 < w9.heap.size := by omega
              try have : w5.heap.size < w9.heap.size := by omega
              try have : w5.heap.size + 1 < w9.heap.size := by omega
              try have : w6.heap.size < w9.heap.size := by omega
              try have : w6.heap.size + 1 < w9.heap.size := by omega
              try have : w7.heap.size < w9.heap.size := by omega
              try have : w7.heap.size + 1 < w9.heap.size := by omega
              try have : w8.heap.size < w9.heap.size := by omega
              try have : w8.heap.size + 1 < w9.heap.size := by omega
              have FI := hid (FI0.out _ hg)
              clear FI0 CM hg c0 c1
              go_wp2
              exact ⟨FI.out, by simp [intOf]; omega⟩
          · have p1 : decide ((i : Int) < (j : Int)) = false := by rw [decide_eq_false_iff_not]; omega
            have p2 : decide (i < j) = false := by rw [decide_eq_false_iff_not]; exact hlt
            have hiR : i = R := by
              have := HBS.out
              cases fu with
              | zero => exact this
              | succ fu => unfold bsF at this; rw [if_neg hlt] at this; exact this
            subst hiR
            obtain rfl : i = j := by omega
            clear HBS hlt
            have gE : (n : Int) - (i : Int) = (E : Int) := by omega
            have gwE := IntWalk.i64_in (E : Int) (by omega)
            have hEb : E ≤ b ∧ M ≤ E ∧ i ≤ m := by omega
            have HDL := hid HN.out
            clear p1 p2 gp gwp hm2 hE hmi hjb HP
            by_cases hB : i < m ∧ m < E
            · have HT2 := hid HT.out
              have HT := hid (show (if M < E ∧ E < b then symF f (if a < i ∧ i < M then symF f (rotF m (E - i) (m - i) (E - m) d) a i M else (rotF m (E - i) (m - i) (E - m) d)) M E b else (if a < i ∧ i < M then symF f (rotF m (E - i) (m - i) (E - m) d) a i M else (rotF m (E - i) (m - i) (E - m) d))) = T by have := HT2.out; rw [if_pos hB] at this; exact this)
              clear HT2
              have p1 : decide ((i : Int) < (m : Int)) = true := by rw [decide_eq_true_iff]; have := hB.1; omega
              have p2 : decide (i < m) = true := by rw [decide_eq_true_iff]; exact hB.1
              have p3 : decide ((m : Int) < (E : Int)) = true := by rw [decide_eq_true_iff]; have := hB.2; omega
              have p4 : decide (m < E) = true := by rw [decide_eq_true_iff]; exact hB.2
              have C := hid (rot_any base g cap i m E d wr HS.out hB.1 hB.2 (by have := HDL.out; omega) (by have := HDL.out; omega))
              rw [HDL.out] at C
              clear hB
              go_wp2_with fail
              refine C.out.mono ?_
              rintro e v1 ⟨rfl, hsd, hgo⟩
              clear C p1 p2 p3 p4
              have HDL2 : Hid ((rotF m (E - i) (m - i) (E - m) d).length = N) := hid (by rw [rotF_len]; exact HDL.out)
              have HS2 := hid hsd
              have HG2 := hid (HG.out.trans hgo)
              clear hsd hgo HS HG HDL
              obtain ⟨d1, hd2⟩ : ∃ x, rotF m (E - i) (m - i) (E - m) d = x := ⟨_, rfl⟩
              rw [hd2] at HS2 HDL2 HT
              have HS := hid HS2.out
              have HG := hid HG2.out
              have HDL := hid HDL2.out
              clear HS2 HG2 HDL2 hd2
              by_cases hB : a < i ∧ i < M
              · have HT2 := hid HT.out
                have HT := hid (show (if M < E ∧ E < b then symF f (symF f d1 a i M) M E b else (symF f d1 a i M)) = T by have := HT2.out; rw [if_pos hB] at this; exact this)
                clear HT2
                have p1 : decide ((a : Int) < (i : Int)) = true := by rw [decide_eq_true_iff]; have := hB.1; omega
                have p2 : decide (a < i) = true := by rw [decide_eq_true_iff]; exact hB.1
                have p3 : decide ((i : Int) < (M : Int)) = true := by rw [decide_eq_true_iff]; have := hB.2; omega
                have p4 : decide (i < M) = true := by rw [decide_eq_true_iff]; exact hB.2
                have C := hid (IH.out a i M d1 v1 HS.out hB.1 hB.2 (by have := HDL.out; omega) (by have := HDL.out; omega) (by omega))
                rw [HDL.out] at C
                clear hB
                go_wp2_with fail
                refine C.out.mono ?_
                rintro e v2 ⟨rfl, hsd, hgo⟩
                clear C p1 p2 p3 p4
                have HDL2 : Hid ((symF f d1 a i M).length = N) := hid (by rw [symF_len]; exact HDL.out)
                have HS2 := hid hsd
                have HG2 := hid (HG.out.trans hgo)
                clear hsd hgo HS HG HDL
                obtain ⟨d2, hd2⟩ : ∃ x, symF f d1 a i M = x := ⟨_, rfl⟩
                rw [hd2] at HS2 HDL2 HT
                have HS := hid HS2.out
                have HG := hid HG2.out
                have HDL := hid HDL2.out
                clear HS2 HG2 HDL2 hd2
                by_cases hB : M < E ∧ E < b
                · have HT2 := hid HT.out
                  have HT := hid (show (symF f d2 M E b) = T by have := HT2.out; rw [if_pos hB] at this; exact this)
                  clear HT2
                  have p1 : decide ((M : Int) < (E : Int)) = true := by rw [decide_eq_true_iff]; have := hB.1; omega
                  have p2 : decide (M < E) = true := by rw [decide_eq_true_iff]; exact hB.1
                  have p3 : decide ((E : Int) < (b : Int)) = true := by rw [decide_eq_true_iff]; have := hB.2; omega
                  have p4 : decide (E < b) = true := by rw [decide_eq_true_iff]; exact hB.2
                  have C := hid (IH.out M E b d2 v2 HS.out hB.1 hB.2 (by have := HDL.out; omega) (by have := HDL.out; omega) (by omega))
                  rw [HDL.out] at C
                  clear hB
                  go_wp2_with fail
                  refine C.out.mono ?_
                  rintro e v3 ⟨rfl, hsd, hgo⟩
                  clear C p1 p2 p3 p4
                  have HDL2 : Hid ((symF f d2 M E b).length = N) := hid (by rw [symF_len]; exact HDL.out)
                  have HS2 := hid hsd
                  have HG2 := hid (HG.out.trans hgo)
                  clear hsd hgo HS HG HDL
                  obtain ⟨d3, hd2⟩ : ∃ x, symF f d2 M E b = x := ⟨_, rfl⟩
                  rw [hd2] at HS2 HDL2 HT
                  have HS := hid HS2.out
                  have HG := hid HG2.out
                  have HDL := hid HDL2.out
                  clear HS2 HG2 HDL2 hd2
                  go_wp2
                  first | exact ⟨rfl, .tuple #[], by simp [results, Tryd.results75, go_sem], rfl, by rw [← HT.out]; exact HS.out, HG.out⟩ | (go_ret; exact ⟨rfl, by rw [← HT.out]; exact HS.out, HG.out⟩) | (trace_state; sorry)
                · have HT2 := hid HT.out
                  have HT := hid (show (d2) = T by have := HT2.out; rw [if_neg hB] at this; exact this)
                  clear HT2
                  go_upto_region 43 with (fail)
                  refine head8 206 (.bool false) ?_ ?_
                  · intro Q' HQ0
                    have HQ := hid HQ0
                    clear HQ0
                    by_cases hxy : M < E
                    · have hyz : ¬ E < b := fun h => hB ⟨hxy, h⟩
                      have p1 : decide ((M : Int) < (E : Int)) = true := by rw [decide_eq_true_iff]; omega
                      have p2 : decide (M < E) = true := by rw [decide_eq_true_iff]; exact hxy
                      have p3 : decide ((E : Int) < (b : Int)) = false := by rw [decide_eq_false_iff_not]; omega
                      have p4 : decide (E < b) = false := by rw [decide_eq_false_iff_not]; exact hyz
                      obtain ⟨f0, h0, h1, h2, h3, h4, h5, h6⟩ := nth7 (.int .i64 (M : Int)) (.int .i64 (E : Int)) (.bool true) (.bool true) (.int .i64 (E : Int)) (.int .i64 (b : Int)) (.bool false)
                      have HF9 := HQ.out f0
                      simp only [modT8, h0, h1, h2, h3, h4, h5, h6, Act.put, List.setIfInBounds_toArray, List.set_cons_zero, List.set_cons_succ, Nat.reduceAdd] at HF9
                      have HF8 := hid HF9
                      clear HF9 HQ h0 h1 h2 h3 h4 h5 h6 hB
                      go_wp2
                      exact HF8.out
                    · have p1 : decide ((M : Int) < (E : Int)) = false := by rw [decide_eq_false_iff_not]; omega
                      have p2 : decide (M < E) = false := by rw [decide_eq_false_iff_not]; exact hxy
                      obtain ⟨f0, h0, h1, h2, h3, h4, h5, h6⟩ := nth7 (.int .i64 (M : Int)) (.int .i64 (E : Int)) (.bool false) (.bool false) undef undef undef
                      have HF9 := HQ.out f0
                      simp only [modT8, h0, h1, h2, h3, h4, h5, h6, Act.put, List.setIfInBounds_toArray, List.set_cons_zero, List.set_cons_succ, Nat.reduceAdd] at HF9
                      have HF8 := hid HF9
                      clear HF9 HQ h0 h1 h2 h3 h4 h5 h6 hB
                      go_wp2
                      exact HF8.out
                  intro f0
                  simp only [modT8, Act.put, List.setIfInBounds_toArray, List.set_cons_zero, List.set_cons_succ, Nat.reduceAdd]
                  generalize f0 0 = z0, f0 1 = z1, f0 2 = z2, f0 3 = z3, f0 4 = z4, f0 5 = z5, f0 6 = z6
                  clear hB
                  go_wp2
                  first | exact ⟨rfl, .tuple #[], by simp [results, Tryd.results75, go_sem], rfl, by rw [← HT.out]; exact HS.out, HG.out⟩ | (go_ret; exact ⟨rfl, by rw [← HT.out]; exact HS.out, HG.out⟩) | (trace_state; sorry)
              · have HT2 := hid HT.out
                have HT := hid (show (if M < E ∧ E < b then symF f (d1) M E b else (d1)) = T by have := HT2.out; rw [if_neg hB] at this; exact this)
                clear HT2
                go_upto_region 41 with (fail)
                refine head8 192 (.bool false) ?_ ?_
                · intro Q' HQ0
                  have HQ := hid HQ0
                  clear HQ0
                  by_cases hxy : a < i
                  · have hyz : ¬ i < M := fun h => hB ⟨hxy, h⟩
                    have p1 : decide ((a : Int) < (i : Int)) = true := by rw [decide_eq_true_iff]; omega
                    have p2 : decide (a < i) = true := by rw [decide_eq_true_iff]; exact hxy
                    have p3 : decide ((i : Int) < (M : Int)) = false := by rw [decide_eq_false_iff_not]; omega
                    have p4 : decide (i < M) = false := by rw [decide_eq_false_iff_not]; exact hyz
                    obtain ⟨f0, h0, h1, h2, h3, h4, h5, h6⟩ := nth7 (.int .i64 (a : Int)) (.int .i64 (i : Int)) (.bool true) (.bool true) (.int .i64 (i : Int)) (.int .i64 (M : Int)) (.bool false)
                    have HF9 := HQ.out f0
                    simp only [modT8, h0, h1, h2, h3, h4, h5, h6, Act.put, List.setIfInBounds_toArray, List.set_cons_zero, List.set_cons_succ, Nat.reduceAdd] at HF9
                    have HF8 := hid HF9
                    clear HF9 HQ h0 h1 h2 h3 h4 h5 h6 hB
                    go_wp2
                    exact HF8.out
                  · have p1 : decide ((a : Int) < (i : Int)) = false := by rw [decide_eq_false_iff_not]; omega
                    have p2 : decide (a < i) = false := by rw [decide_eq_false_iff_not]; exact hxy
                    obtain ⟨f0, h0, h1, h2, h3, h4, h5, h6⟩ := nth7 (.int .i64 (a : Int)) (.int .i64 (i : Int)) (.bool false) (.bool false) undef undef undef
                    have HF9 := HQ.out f0
                    simp only [modT8, h0, h1, h2, h3, h4, h5, h6, Act.put, List.setIfInBounds_toArray, List.set_cons_zero, List.set_cons_succ, Nat.reduceAdd] at HF9
                    have HF8 := hid HF9
                    clear HF9 HQ h0 h1 h2 h3 h4 h5 h6 hB
                    go_wp2
                    exact HF8.out
                intro f0
                simp only [modT8, Act.put, List.setIfInBounds_toArray, List.set_cons_zero, List.set_cons_succ, Nat.reduceAdd]
                generalize f0 0 = z0, f0 1 = z1, f0 2 = z2, f0 3 = z3, f0 4 = z4, f0 5 = z5, f0 6 = z6
                clear hB
                by_cases hB : M < E ∧ E < b
                · have HT2 := hid HT.out
                  have HT := hid (show (symF f d1 M E b) = T by have := HT2.out; rw [if_pos hB] at this; exact this)
                  clear HT2
                  have p1 : decide ((M : Int) < (E : Int)) = true := by rw [decide_eq_true_iff]; have := hB.1; omega
                  have p2 : decide (M < E) = true := by rw [decide_eq_true_iff]; exact hB.1
                  have p3 : decide ((E : Int) < (b : Int)) = true := by rw [decide_eq_true_iff]; have := hB.2; omega
                  have p4 : decide (E < b) = true := by rw [decide_eq_true_iff]; exact hB.2
                  have C := hid (IH.out M E b d1 v1 HS.out hB.1 hB.2 (by have := HDL.out; omega) (by have := HDL.out; omega) (by omega))
                  rw [HDL.out] at C
                  clear hB
                  go_wp2_with fail
                  refine C.out.mono ?_
                  rintro e v3 ⟨rfl, hsd, hgo⟩
                  clear C p1 p2 p3 p4
                  have HDL2 : Hid ((symF f d1 M E b).length = N) := hid (by rw [symF_len]; exact HDL.out)
                  have HS2 := hid hsd
                  have HG2 := hid (HG.out.trans hgo)
                  clear hsd hgo HS HG HDL
                  obtain ⟨d3, hd2⟩ : ∃ x, symF f d1 M E b = x := ⟨_, rfl⟩
                  rw [hd2] at HS2 HDL2 HT
                  have HS := hid HS2.out
                  have HG := hid HG2.out
                  have HDL := hid HDL2.out
                  clear HS2 HG2 HDL2 hd2
                  go_wp2
                  first | exact ⟨rfl, .tuple #[], by simp [results, Tryd.results75, go_sem], rfl, by rw [← HT.out]; exact HS.out, HG.out⟩ | (go_ret; exact ⟨rfl, by rw [← HT.out]; exact HS.out, HG.out⟩) | (trace_state; sorry)
                · have HT2 := hid HT.out
                  have HT := hid (show (d1) = T by have := HT2.out; rw [if_neg hB] at this; exact this)
                  clear HT2
                  go_upto_region 43 with (fail)
                  refine head8 206 (.bool false) ?_ ?_
                  · intro Q' HQ0
                    have HQ := hid HQ0
                    clear HQ0
                    by_cases hxy : M < E
                    · have hyz : ¬ E < b := fun h => hB ⟨hxy, h⟩
                      have p1 : decide ((M : Int) < (E : Int)) = true := by rw [decide_eq_true_iff]; omega
                      have p2 : decide (M < E) = true := by rw [decide_eq_true_iff]; exact hxy
                      have p3 : decide ((E : Int) < (b : Int)) = false := by rw [decide_eq_false_iff_not]; omega
                      have p4 : decide (E < b) = false := by rw [decide_eq_false_iff_not]; exact hyz
                      obtain ⟨f0, h0, h1, h2, h3, h4, h5, h6⟩ := nth7 (.int .i64 (M : Int)) (.int .i64 (E : Int)) (.bool true) (.bool true) (.int .i64 (E : Int)) (.int .i64 (b : Int)) (.bool false)
                      have HF9 := HQ.out f0
                      simp only [modT8, h0, h1, h2, h3, h4, h5, h6, Act.put, List.setIfInBounds_toArray, List.set_cons_zero, List.set_cons_succ, Nat.reduceAdd] at HF9
                      have HF8 := hid HF9
                      clear HF9 HQ h0 h1 h2 h3 h4 h5 h6 hB
                      go_wp2
                      exact HF8.out
                    · have p1 : decide ((M : Int) < (E : Int)) = false := by rw [decide_eq_false_iff_not]; omega
                      have p2 : decide (M < E) = false := by rw [decide_eq_false_iff_not]; exact hxy
                      obtain ⟨f0, h0, h1, h2, h3, h4, h5, h6⟩ := nth7 (.int .i64 (M : Int)) (.int .i64 (E : Int)) (.bool false) (.bool false) undef undef undef
                      have HF9 := HQ.out f0
                      simp only [modT8, h0, h1, h2, h3, h4, h5, h6, Act.put, List.setIfInBounds_toArray, List.set_cons_zero, List.set_cons_succ, Nat.reduceAdd] at HF9
                      have HF8 := hid HF9
                      clear HF9 HQ h0 h1 h2 h3 h4 h5 h6 hB
                      go_wp2
                      exact HF8.out
                  intro f0
                  simp only [modT8, Act.put, List.setIfInBounds_toArray, List.set_cons_zero, List.set_cons_succ, Nat.reduceAdd]
                  generalize f0 0 = z0, f0 1 = z1, f0 2 = z2, f0 3 = z3, f0 4 = z4, f0 5 = z5, f0 6 = z6
                  clear hB
                  go_wp2
                  first | exact ⟨rfl, .tuple #[], by simp [results, Tryd.results75, go_sem], rfl, by rw [← HT.out]; exact HS.out, HG.out⟩ | (go_ret; exact ⟨rfl, by rw [← HT.out]; exact HS.out, HG.out⟩) | (trace_state; sorry)
            · have HT2 := hid HT.out
              have HT := hid (show (if M < E ∧ E < b then symF f (if a < i ∧ i < M then symF f (d) a i M else (d)) M E b else (if a < i ∧ i < M then symF f (d) a i M else (d))) = T by have := HT2.out; rw [if_neg hB] at this; exact this)
              clear HT2
              go_upto_region 39 with (fail)
              refine head8 178 (.bool false) ?_ ?_
              · intro Q' HQ0
                have HQ := hid HQ0
                clear HQ0
                by_cases hxy : i < m
                · have hyz : ¬ m < E := fun h => hB ⟨hxy, h⟩
                  have p1 : decide ((i : Int) < (m : Int)) = true := by rw [decide_eq_true_iff]; omega
                  have p2 : decide (i < m) = true := by rw [decide_eq_true_iff]; exact hxy
                  have p3 : decide ((m : Int) < (E : Int)) = false := by rw [decide_eq_false_iff_not]; omega
                  have p4 : decide (m < E) = false := by rw [decide_eq_false_iff_not]; exact hyz
                  obtain ⟨f0, h0, h1, h2, h3, h4, h5, h6⟩ := nth7 (.int .i64 (i : Int)) (.int .i64 (m : Int)) (.bool true) (.bool true) (.int .i64 (m : Int)) (.int .i64 (E : Int)) (.bool false)
                  have HF9 := HQ.out f0
                  simp only [modT8, h0, h1, h2, h3, h4, h5, h6, Act.put, List.setIfInBounds_toArray, List.set_cons_zero, List.set_cons_succ, Nat.reduceAdd] at HF9
                  have HF8 := hid HF9
                  clear HF9 HQ h0 h1 h2 h3 h4 h5 h6 hB
                  go_wp2
                  exact HF8.out
                · have p1 : decide ((i : Int) < (m : Int)) = false := by rw [decide_eq_false_iff_not]; omega
                  have p2 : decide (i < m) = false := by rw [decide_eq_false_iff_not]; exact hxy
                  obtain ⟨f0, h0, h1, h2, h3, h4, h5, h6⟩ := nth7 (.int .i64 (i : Int)) (.int .i64 (m : Int)) (.bool false) (.bool false) undef undef undef
                  have HF9 := HQ.out f0
                  simp only [modT8, h0, h1, h2, h3, h4, h5, h6, Act.put, List.setIfInBounds_toArray, List.set_cons_zero, List.set_cons_succ, Nat.reduceAdd] at HF9
                  have HF8 := hid HF9
                  clear HF9 HQ h0 h1 h2 h3 h4 h5 h6 hB
                  go_wp2
                  exact HF8.out
              intro f0
              simp only [modT8, Act.put, List.setIfInBounds_toArray, List.set_cons_zero, List.set_cons_succ, Nat.reduceAdd]
              generalize f0 0 = z0, f0 1 = z1, f0 2 = z2, f0 3 = z3, f0 4 = z4, f0 5 = z5, f0 6 = z6
              clear hB
              by_cases hB : a < i ∧ i < M
              · have HT2 := hid HT.out
                have HT := hid (show (if M < E ∧ E < b then symF f (symF f d a i M) M E b else (symF f d a i M)) = T by have := HT2.out; rw [if_pos hB] at this; exact this)
                clear HT2
                have p1 : decide ((a : Int) < (i : Int)) = true := by rw [decide_eq_true_iff]; have := hB.1; omega
                have p2 : decide (a < i) = true := by rw [decide_eq_true_iff]; exact hB.1
                have p3 : decide ((i : Int) < (M : Int)) = true := by rw [decide_eq_true_iff]; have := hB.2; omega
                have p4 : decide (i < M) = true := by rw [decide_eq_true_iff]; exact hB.2
                have C := hid (IH.out a i M d wr HS.out hB.1 hB.2 (by have := HDL.out; omega) (by have := HDL.out; omega) (by omega))
                rw [HDL.out] at C
                clear hB
                go_wp2_with fail
                refine C.out.mono ?_
                rintro e v2 ⟨rfl, hsd, hgo⟩
                clear C p1 p2 p3 p4
                have HDL2 : Hid ((symF f d a i M).length = N) := hid (by rw [symF_len]; exact HDL.out)
                have HS2 := hid hsd
                have HG2 := hid (HG.out.trans hgo)
                clear hsd hgo HS HG HDL
                obtain ⟨d2, hd2⟩ : ∃ x, symF f d a i M = x := ⟨_, rfl⟩
                rw [hd2] at HS2 HDL2 HT
                have HS := hid HS2.out
                have HG := hid HG2.out
                have HDL := hid HDL2.out
                clear HS2 HG2 HDL2 hd2
                by_cases hB : M < E ∧ E < b
                · have HT2 := hid HT.out
                  have HT := hid (show (symF f d2 M E b) = T by have := HT2.out; rw [if_pos hB] at this; exact this)
                  clear HT2
                  have p1 : decide ((M : Int) < (E : Int)) = true := by rw [decide_eq_true_iff]; have := hB.1; omega
                  have p2 : decide (M < E) = true := by rw [decide_eq_true_iff]; exact hB.1
                  have p3 : decide ((E : Int) < (b : Int)) = true := by rw [decide_eq_true_iff]; have := hB.2; omega
                  have p4 : decide (E < b) = true := by rw [decide_eq_true_iff]; exact hB.2
                  have C := hid (IH.out M E b d2 v2 HS.out hB.1 hB.2 (by have := HDL.out; omega) (by have := HDL.out; omega) (by omega))
                  rw [HDL.out] at C
                  clear hB
                  go_wp2_with fail
                  refine C.out.mono ?_
                  rintro e v3 ⟨rfl, hsd, hgo⟩
                  clear C p1 p2 p3 p4
                  have HDL2 : Hid ((symF f d2 M E b).length = N) := hid (by rw [symF_len]; exact HDL.out)
                  have HS2 := hid hsd
                  have HG2 := hid (HG.out.trans hgo)
                  clear hsd hgo HS HG HDL
                  obtain ⟨d3, hd2⟩ : ∃ x, symF f d2 M E b = x := ⟨_, rfl⟩
                  rw [hd2] at HS2 HDL2 HT
                  have HS := hid HS2.out
                  have HG := hid HG2.out
                  have HDL := hid HDL2.out
                  clear HS2 HG2 HDL2 hd2
                  go_wp2
                  first | exact ⟨rfl, .tuple #[], by simp [results, Tryd.results75, go_sem], rfl, by rw [← HT.out]; exact HS.out, HG.out⟩ | (go_ret; exact ⟨rfl, by rw [← HT.out]; exact HS.out, HG.out⟩) | (trace_state; sorry)
                · have HT2 := hid HT.out
                  have HT := hid (show (d2) = T by have := HT2.out; rw [if_neg hB] at this; exact this)
                  clear HT2
                  go_upto_region 43 with (fail)
                  refine head8 206 (.bool false) ?_ ?_
                  · intro Q' HQ0
                    have HQ := hid HQ0
                    clear HQ0
                    by_cases hxy : M < E
                    · have hyz : ¬ E < b := fun h => hB ⟨hxy, h⟩
                      have p1 : decide ((M : Int) < (E : Int)) = true := by rw [decide_eq_true_iff]; omega
                      have p2 : decide (M < E) = true := by rw [decide_eq_true_iff]; exact hxy
                      have p3 : decide ((E : Int) < (b : Int)) = false := by rw [decide_eq_false_iff_not]; omega
                      have p4 : decide (E < b) = false := by rw [decide_eq_false_iff_not]; exact hyz
                      obtain ⟨f0, h0, h1, h2, h3, h4, h5, h6⟩ := nth7 (.int .i64 (M : Int)) (.int .i64 (E : Int)) (.bool true) (.bool true) (.int .i64 (E : Int)) (.int .i64 (b : Int)) (.bool false)
                      have HF9 := HQ.out f0
                      simp only [modT8, h0, h1, h2, h3, h4, h5, h6, Act.put, List.setIfInBounds_toArray, List.set_cons_zero, List.set_cons_succ, Nat.reduceAdd] at HF9
                      have HF8 := hid HF9
                      clear HF9 HQ h0 h1 h2 h3 h4 h5 h6 hB
                      go_wp2
                      exact HF8.out
                    · have p1 : decide ((M : Int) < (E : Int)) = false := by rw [decide_eq_false_iff_not]; omega
                      have p2 : decide (M < E) = false := by rw [decide_eq_false_iff_not]; exact hxy
                      obtain ⟨f0, h0, h1, h2, h3, h4, h5, h6⟩ := nth7 (.int .i64 (M : Int)) (.int .i64 (E : Int)) (.bool false) (.bool false) undef undef undef
                      have HF9 := HQ.out f0
                      simp only [modT8, h0, h1, h2, h3, h4, h5, h6, Act.put, List.setIfInBounds_toArray, List.set_cons_zero, List.set_cons_succ, Nat.reduceAdd] at HF9
                      have HF8 := hid HF9
                      clear HF9 HQ h0 h1 h2 h3 h4 h5 h6 hB
                      go_wp2
                      exact HF8.out
                  intro f0
                  simp only [modT8, Act.put, List.setIfInBounds_toArray, List.set_cons_zero, List.set_cons_succ, Nat.reduceAdd]
                  generalize f0 0 = z0, f0 1 = z1, f0 2 = z2, f0 3 = z3, f0 4 = z4, f0 5 = z5, f0 6 = z6
                  clear hB
                  go_wp2
                  first | exact ⟨rfl, .tuple #[], by simp [results, Tryd.results75, go_sem], rfl, by rw [← HT.out]; exact HS.out, HG.out⟩ | (go_ret; exact ⟨rfl, by rw [← HT.out]; exact HS.out, HG.out⟩) | (trace_state; sorry)
              · have HT2 := hid HT.out
                have HT := hid (show (if M < E ∧ E < b then symF f (d) M E b else (d)) = T by have := HT2.out; rw [if_neg hB] at this; exact this)
                clear HT2
                go_upto_region 41 with (fail)
                refine head8 192 (.bool false) ?_ ?_
                · intro Q' HQ0
                  have HQ := hid HQ0
                  clear HQ0
                  by_cases hxy : a < i
                  · have hyz : ¬ i < M := fun h => hB ⟨hxy, h⟩
                    have p1 : decide ((a : Int) < (i : Int)) = true := by rw [decide_eq_true_iff]; omega
                    have p2 : decide (a < i) = true := by rw [decide_eq_true_iff]; exact hxy
                    have p3 : decide ((i : Int) < (M : Int)) = false := by rw [decide_eq_false_iff_not]; omega
                    have p4 : decide (i < M) = false := by rw [decide_eq_false_iff_not]; exact hyz
                    obtain ⟨f0, h0, h1, h2, h3, h4, h5, h6⟩ := nth7 (.int .i64 (a : Int)) (.int .i64 (i : Int)) (.bool true) (.bool true) (.int .i64 (i : Int)) (.int .i64 (M : Int)) (.bool false)
                    have HF9 := HQ.out f0
                    simp only [modT8, h0, h1, h2, h3, h4, h5, h6, Act.put, List.setIfInBounds_toArray, List.set_cons_zero, List.set_cons_succ, Nat.reduceAdd] at HF9
                    have HF8 := hid HF9
                    clear HF9 HQ h0 h1 h2 h3 h4 h5 h6 hB
                    go_wp2
                    exact HF8.out
                  · have p1 : decide ((a : Int) < (i : Int)) = false := by rw [decide_eq_false_iff_not]; omega
                    have p2 : decide (a < i) = false := by rw [decide_eq_false_iff_not]; exact hxy
                    obtain ⟨f0, h0, h1, h2, h3, h4, h5, h6⟩ := nth7 (.int .i64 (a : Int)) (.int .i64 (i : Int)) (.bool false) (.bool false) undef undef undef
                    have HF9 := HQ.out f0
                    simp only [modT8, h0, h1, h2, h3, h4, h5, h6, Act.put, List.setIfInBounds_toArray, List.set_cons_zero, List.set_cons_succ, Nat.reduceAdd] at HF9
                    have HF8 := hid HF9
                    clear HF9 HQ h0 h1 h2 h3 h4 h5 h6 hB
                    go_wp2
                    exact HF8.out
                intro f0
                simp only [modT8, Act.put, List.setIfInBounds_toArray, List.set_cons_zero, List.set_cons_succ, Nat.reduceAdd]
                generalize f0 0 = z0, f0 1 = z1, f0 2 = z2, f0 3 = z3, f0 4 = z4, f0 5 = z5, f0 6 = z6
                clear hB
                by_cases hB : M < E ∧ E < b
                · have HT2 := hid HT.out
                  have HT := hid (show (symF f d M E b) = T by have := HT2.out; rw [if_pos hB] at this; exact this)
                  clear HT2
                  have p1 : decide ((M : Int) < (E : Int)) = true := by rw [decide_eq_true_iff]; have := hB.1; omega
                  have p2 : decide (M < E) = true := by rw [decide_eq_true_iff]; exact hB.1
                  have p3 : decide ((E : Int) < (b : Int)) = true := by rw [decide_eq_true_iff]; have := hB.2; omega
                  have p4 : decide (E < b) = true := by rw [decide_eq_true_iff]; exact hB.2
                  have C := hid (IH.out M E b d wr HS.out hB.1 hB.2 (by have := HDL.out; omega) (by have := HDL.out; omega) (by omega))
                  rw [HDL.out] at C
                  clear hB
                  go_wp2_with fail
                  refine C.out.mono ?_
                  rintro e v3 ⟨rfl, hsd, hgo⟩
                  clear C p1 p2 p3 p4
                  have HDL2 : Hid ((symF f d M E b).length = N) := hid (by rw [symF_len]; exact HDL.out)
                  have HS2 := hid hsd
                  have HG2 := hid (HG.out.trans hgo)
                  clear hsd hgo HS HG HDL
                  obtain ⟨d3, hd2⟩ : ∃ x, symF f d M E b = x := ⟨_, rfl⟩
                  rw [hd2] at HS2 HDL2 HT
                  have HS := hid HS2.out
                  have HG := hid HG2.out
                  have HDL := hid HDL2.out
                  clear HS2 HG2 HDL2 hd2
                  go_wp2
                  first | exact ⟨rfl, .tuple #[], by simp [results, Tryd.results75, go_sem], rfl, by rw [← HT.out]; exact HS.out, HG.out⟩ | (go_ret; exact ⟨rfl, by rw [← HT.out]; exact HS.out, HG.out⟩) | (trace_state; sorry)
                · have HT2 := hid HT.out
                  have HT := hid (show (d) = T by have := HT2.out; rw [if_neg hB] at this; exact this)
                  clear HT2
                  go_upto_region 43 with (fail)
                  refine head8 206 (.bool false) ?_ ?_
                  · intro Q' HQ0
                    have HQ := hid HQ0
                    clear HQ0
                    by_cases hxy : M < E
                    · have hyz : ¬ E < b := fun h => hB ⟨hxy, h⟩
                      have p1 : decide ((M : Int) < (E : Int)) = true := by rw [decide_eq_true_iff]; omega
                      have p2 : decide (M < E) = true := by rw [decide_eq_true_iff]; exact hxy
                      have p3 : decide ((E : Int) < (b : Int)) = false := by rw [decide_eq_false_iff_not]; omega
                      have p4 : decide (E < b) = false := by rw [decide_eq_false_iff_not]; exact hyz
                      obtain ⟨f0, h0, h1, h2, h3, h4, h5, h6⟩ := nth7 (.int .i64 (M : Int)) (.int .i64 (E : Int)) (.bool true) (.bool true) (.int .i64 (E : Int)) (.int .i64 (b : Int)) (.bool false)
                      have HF9 := HQ.out f0
                      simp only [modT8, h0, h1, h2, h3, h4, h5, h6, Act.put, List.setIfInBounds_toArray, List.set_cons_zero, List.set_cons_succ, Nat.reduceAdd] at HF9
                      have HF8 := hid HF9
                      clear HF9 HQ h0 h1 h2 h3 h4 h5 h6 hB
                      go_wp2
                      exact HF8.out
                    · have p1 : decide ((M : Int) < (E : Int)) = false := by rw [decide_eq_false_iff_not]; omega
                      have p2 : decide (M < E) = false := by rw [decide_eq_false_iff_not]; exact hxy
                      obtain ⟨f0, h0, h1, h2, h3, h4, h5, h6⟩ := nth7 (.int .i64 (M : Int)) (.int .i64 (E : Int)) (.bool false) (.bool false) undef undef undef
                      have HF9 := HQ.out f0
                      simp only [modT8, h0, h1, h2, h3, h4, h5, h6, Act.put, List.setIfInBounds_toArray, List.set_cons_zero, List.set_cons_succ, Nat.reduceAdd] at HF9
                      have HF8 := hid HF9
                      clear HF9 HQ h0 h1 h2 h3 h4 h5 h6 hB
                      go_wp2
                      exact HF8.out
                  intro f0
                  simp only [modT8, Act.put, List.setIfInBounds_toArray, List.set_cons_zero, List.set_cons_succ, Nat.reduceAdd]
                  generalize f0 0 = z0, f0 1 = z1, f0 2 = z2, f0 3 = z3, f0 4 = z4, f0 5 = z5, f0 6 = z6
                  clear hB
                  go_wp2
                  first | exact ⟨rfl, .tuple #[], by simp [results, Tryd.results75, go_sem], rfl, by rw [← HT.out]; exact HS.out, HG.out⟩ | (go_ret; exact ⟨rfl, by rw [← HT.out]; exact HS.out, HG.out⟩) | (trace_state; sorry)
end Go.Proofs.YtacbhkmkknicoaaDoor

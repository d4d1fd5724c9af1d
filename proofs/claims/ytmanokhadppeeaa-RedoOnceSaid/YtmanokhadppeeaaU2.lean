/- redo: Undo: one pass from the label. (By mkU2.py.) -/
import Derived.Test.YtmanokhadppeeaaU1
namespace Go.Proofs.Ytmanokhadppeeaa
open Go.RowKit
set_option linter.unusedSimpArgs false
set_option linter.unusedVariables false
attribute [local go_sem] Rg.leads_value Rg.leads_skip Rg.leads_enter Rg.brings_value Rg.brings_skip Rg.brings_enter Rg.bringsG_value Rg.bringsG_enter
theorem frame_out (t : Array Value) (n : Nat) (h : t.size = n) : t = ((List.range n).map fun i => t.getD i undef).toArray := by
  apply Array.ext
  · simp [h]
  · intro i h1 h2
    simp [Array.getD, h1]
def UFrame (ol : Option Addr) (n cl : Nat) (out lov : Value) (f : Nat → Value) : Act := { tmps := #[.slice ol n cl, f 1, f 2, f 3, .slice none 0 0, out, lov, f 7, f 8, f 9, f 10, f 11, f 12, f 13, f 14, f 15, f 16, f 17, f 18, f 19, f 20, f 21, f 22, f 23, f 24, f 25, f 26, f 27, f 28, f 29, f 30, f 31, f 32, f 33, f 34, f 35, f 36, f 37, f 38, f 39, f 40, f 41, f 42, f 43, f 44, f 45, f 46, f 47, f 48, f 49, f 50, f 51, f 52, f 53, f 54, f 55, f 56, f 57, f 58, f 59, f 60, f 61, f 62, f 63, f 64, f 65, f 66, f 67, f 68, f 69, f 70, f 71, f 72, f 73, f 74, f 75, f 76, f 77, f 78, f 79, f 80, f 81, f 82, f 83, f 84, f 85, f 86, f 87, f 88, f 89, f 90, f 91, f 92, f 93, f 94, f 95, f 96, f 97, f 98, f 99, f 100, f 101, f 102, f 103, f 104, f 105, f 106, f 107, f 108, f 109, f 110, f 111, f 112, f 113, f 114, f 115, f 116, f 117, f 118, f 119, f 120, f 121, f 122, f 123, f 124, f 125, f 126, f 127, f 128, f 129, f 130, f 131, f 132, f 133, f 134, f 135, f 136, f 137, f 138, f 139, f 140, f 141, f 142, f 143, f 144, f 145, f 146, f 147, f 148, f 149, f 150, f 151, f 152, f 153, f 154, f 155, f 156, f 157], defers := [] }
set_option maxRecDepth 100000 in
theorem UFrame_of {ol : Option Addr} {n cl : Nat} {out lov : Value} (a : Act) (hd : a.defers = []) (hs : a.tmps.size = 158) (h0 : a.tmps.getD 0 undef = .slice ol n cl) (h4 : a.tmps.getD 4 undef = .slice none 0 0) (h5 : a.tmps.getD 5 undef = out) (h6 : a.tmps.getD 6 undef = lov) :
    a = UFrame ol n cl out lov (fun i => a.tmps.getD i undef) := by
  obtain ⟨t, d⟩ := a
  subst hd
  have h := frame_out t 158 hs
  unfold UFrame
  rw [← h0, ← h4, ← h5, ← h6]
  exact congrArg (fun t => Act.mk t []) h
def scopeOf : Code → Option Code
  | .scope c => some c
  | .seq a b => match scopeOf a with
    | some c => some c
    | none => scopeOf b
  | .block _ c => scopeOf c
  | _ => none
noncomputable def scopeC : Code := (Try.f15.body.bind scopeOf).getD .skip
noncomputable def restC : Code := (findLabel scopeC 0).getD .skip
def behindSkip : Code → Code
  | .seq .skip b => b
  | c => c
noncomputable def restB : Code := behindSkip restC
set_option maxRecDepth 100000 in
theorem find0 : findLabel scopeC 0 = some restC := by kernel_rfl
theorem rest0 : restC = .seq .skip restB := by kernel_rfl
theorem r_info : (Try.prog.info? 32).map (fun i => (i.zero, i.size, i.bytes)) = some (some (.agg #[.int .i64 0, .int .i64 0, .int .i64 0, .int .i64 0, .int .i64 0, .int .i64 0, .slice none 0 0, .slice none 0 0, .slice none 0 0, .slice none 0 0, .int .i64 0]), 11, 152) := by kernel_rfl
def BOk (w : World) (oa : Option Addr) (l : List Int) : Prop := BAt w oa l ∧ ∀ b o q, oa = some ⟨b, o, q⟩ → l ≠ [] → Ty 5 w b
/-- what Undo hands back -/
def UndoP (w : World) (os : List Oc) (e : Ending) (w' : World) : Prop :=
  ∃ (oa : Option Addr) (zs : List (Oc × Option Addr × Nat)), e = .returned (.slice oa os.length os.length) ∧ zs.map Prod.fst = os ∧ AtF rF 11 w' oa (zs.map fun z : Oc × Option Addr × Nat => zLn z.1 z.2.1 z.2.2) ∧ ((∀ z ∈ zs, BOk w' z.2.1 z.1.es) ∧ ∀ g o q, oa = some ⟨g, o, q⟩ → Ty 32 w' g) ∧ Gr w w'
structure UJ (ol : Option Addr) (cl : Nat) (l : List Ln) (w : World) (R : List Oc) (n : Nat) (out lov : Value) (wr : World) (lo : List Lo) (os : List Oc) : Prop where
  out : OutOk wr w.heap.size out os
  own : wr.ownsRow w.heap.size 82 2 lov lo.length (cellsF lF lo)
  pos : ∀ x ∈ lo, 0 < x.next
  mu : loMu lo < n
  eq : undoR l n lo os = R
  up : Gr w wr
  len : lo.length ≤ 1000000
  bd : os.length + 2 * loMu lo ≤ 1000000000
def UG (ol : Option Addr) (cl : Nat) (l : List Ln) (w : World) (R : List Oc) (n : Nat) (a : Act) (wr : World) : Prop := ∃ f out lov lo os, a = UFrame ol l.length cl out lov f ∧ UJ ol cl l w R n out lov wr lo os
noncomputable def UQ (ol : Option Addr) (cl : Nat) (l : List Ln) (w : World) (R : List Oc) (n : Nat) : Exit → Act → World → Prop :=
  Exit.jump 0 (fun a' w' => ∃ m, m < n ∧ UG ol cl l w R m a' w') (bodyPost Try.prog Try.f15 (UndoP w R))
theorem own_ty {w : World} {base e n k c' m g o : Nat} {q : Option Nat} {xs : List Value} (h : w.ownsRow base e n (.slice (some ⟨g, o, q⟩) k c') m xs) : Ty e w g := by
  rcases h.2 with ⟨h1, _⟩ | ⟨g', cap, cur, h1, _, hg', _⟩
  · cases h1
  · cases h1; exact ⟨cur, _, hg'⟩
theorem OutOk.gr {w w' : World} {base : Nat} {v : Value} {os : List Oc} (h : OutOk w base v os) (hg : Gr w w') : OutOk w' base v os := by
  obtain ⟨zs, h1, h2, h3⟩ := h.ex
  exact ⟨zs, h1, own_keep h2 hg, fun z hz => ⟨(h3 z hz).1.keep hg, fun b o q e hne => ((h3 z hz).2 b o q e hne).gr hg⟩⟩
def GC (base : Nat) (l : List Int) (u : Value) (w : World) : Prop := w.ownsRow base 5 1 u l.length (cellsF bF l)
theorem BOk.gr {w w' : World} {oa : Option Addr} {l : List Int} (h : BOk w oa l) (hg : Gr w w') : BOk w' oa l := ⟨h.1.keep hg, fun b o q e hne => (h.2 b o q e hne).gr hg⟩
def GB (l : List Int) (u : Value) (w : World) : Prop := ∃ oa, u = .slice oa l.length l.length ∧ BOk w oa l
def GR (o : Oc) (u : Value) (w : World) : Prop := ∃ oa, u = .agg (rF (zLn o oa o.es.length)).toArray ∧ BOk w oa o.es
def GS (o : Oc) (u : Value) (w : World) : Prop := ∃ oa gg, u = .slice (some ⟨gg, 0, none⟩) 1 1 ∧ (∀ q v, (rF (zLn o oa o.es.length))[q]? = some v → w.cell? ⟨gg, q, none⟩ = some v) ∧ BOk w oa o.es
theorem u_keep (base : Nat) (l : List Int) (o : Oc) : ∀ k u w w', Rg.Gat [(11, GC base l), (12, GB l), (15, GR o), (16, GS o)] k u w → Rg.Up w w' → Rg.Gat [(11, GC base l), (12, GB l), (15, GR o), (16, GS o)] k u w' := by
  intro k u w w' h hu
  unfold Rg.Gat at h ⊢
  split at h
  · rename_i hk; rw [if_pos hk]; exact own_keep h hu
  · rename_i hk; rw [if_neg hk]
    unfold Rg.Gat at h ⊢
    split at h
    · rename_i hk; rw [if_pos hk]
      obtain ⟨oa, h1, h2⟩ := h
      exact ⟨oa, h1, h2.gr hu⟩
    · rename_i hk; rw [if_neg hk]
      unfold Rg.Gat at h ⊢
      split at h
      · rename_i hk; rw [if_pos hk]
        obtain ⟨oa, h1, h2⟩ := h
        exact ⟨oa, h1, h2.gr hu⟩
      · rename_i hk; rw [if_neg hk]
        unfold Rg.Gat at h ⊢
        split at h
        · rename_i hk; rw [if_pos hk]
          obtain ⟨oa, gg, h1, h2, h3⟩ := h
          exact ⟨oa, gg, h1, fun q v hv => Gr.keep hu (h2 q v hv), h3.gr hu⟩
        · rename_i hk; rw [if_neg hk]; trivial
theorem gc_at {w : World} {base : Nat} {l : List Int} {u : Value} (h : GC base l u w) : ∃ oa c, u = .slice oa l.length c ∧ l.length ≤ c ∧ BOk w oa l := by
  have h' := h
  obtain ⟨oa, c, rfl, hat, hc, _⟩ := own_at bE h
  refine ⟨oa, c, rfl, hc, hat, fun b o q e hne => ?_⟩
  subst e
  rcases h'.2 with ⟨hv, h0⟩ | ⟨g, cap, cur, hv, _, hg, _⟩
  · exact absurd (List.eq_nil_of_length_eq_zero h0) hne
  · cases hv
    exact ⟨cur, _, hg⟩
/-- a record more -/
theorem OutOk.snoc {w w' : World} {base : Nat} {v v' : Value} {os : List Oc} {o : Oc} {oa : Option Addr} (zs : List (Oc × Option Addr × Nat)) (h1 : zs.map Prod.fst = os) (h2 : w.ownsRow base 32 11 v (zs.map fun z => zLn z.1 z.2.1 z.2.2).length (cellsF rF (zs.map fun z => zLn z.1 z.2.1 z.2.2)))
    (h3 : ∀ z ∈ zs, BOk w z.2.1 z.1.es) (hb : BOk w oa o.es)
    (h4 : w'.ownsRow base 32 11 v' ((zs.map fun z => zLn z.1 z.2.1 z.2.2).length + 1) (cellsF rF (zs.map fun z => zLn z.1 z.2.1 z.2.2) ++ rF (zLn o oa o.es.length))) (hg : w.grownBy w' v.ownBlock) : OutOk w' base v' (os ++ [o]) := by
  have keep : ∀ (l : List Int) (ob : Option Addr), BOk w ob l → BOk w' ob l := fun l ob hB => by
    by_cases hne : l = []
    · subst hne
      exact ⟨.inl rfl, fun _ _ _ _ h => absurd rfl h⟩
    · rcases hB.1 with h | ⟨b, off, e, hlt, hr⟩
      · exact absurd h hne
      · have hT := hB.2 _ _ _ e hne
        have hnb := hT.ne h2 (by decide)
        refine ⟨.inr ⟨b, off, e, Nat.lt_of_lt_of_le hlt hg.size, fun k hk j u hu => World.grownBy.cell hg (hr k hk j u hu) (fun x => hnb x.symm)⟩, fun b' o' q' e' hne' => ?_⟩
        exact Ty.gz (hB.2 _ _ _ e' hne') hg ((hB.2 _ _ _ e' hne').ne h2 (by decide))
  refine ⟨zs ++ [(o, oa, o.es.length)], by rw [List.map_append, h1]; rfl, ?_, fun z hz => ?_⟩
  · rw [List.map_append, List.length_append, cellsF_append]
    simpa [cellsF] using h4
  · rcases List.mem_append.1 hz with hz | hz
    · exact keep _ _ (h3 z hz)
    · rw [List.mem_singleton] at hz
      subst hz
      exact keep _ _ hb
theorem OutOk.gz {w w' : World} {base base2 e n m : Nat} {v u : Value} {os : List Oc} {ys : List Value} (h : OutOk w base v os) (hg : Gz u w w') (ho : w.ownsRow base2 e n u m ys) (he : 32 ≠ e) (he5 : 5 ≠ e) : OutOk w' base v os := by
  obtain ⟨zs, h1, h2, h3⟩ := h.ex
  refine ⟨zs, h1, h2.kept hg (own_apart h2 ho he), fun z hz => ?_⟩
  have hB := h3 z hz
  by_cases hne : z.1.es = []
  · exact ⟨.inl hne, fun _ _ _ _ h => absurd hne h⟩
  · rcases hB.1 with h | ⟨b, off, e, hlt, hr⟩
    · exact absurd h hne
    · have hnb := (hB.2 _ _ _ e hne).ne ho he5
      refine ⟨.inr ⟨b, off, e, Nat.lt_of_lt_of_le hlt (World.grownBy.size hg), fun k hk j u hu => World.grownBy.cell hg (hr k hk j u hu) (fun x => hnb x.symm)⟩, fun b' o' q' e' hne' => ?_⟩
      exact Ty.gz (hB.2 _ _ _ e' hne') hg ((hB.2 _ _ _ e' hne').ne ho he5)
theorem undoR_step {l : List Ln} {f : Nat} {lo : List Lo} {out : List Oc} {j : Nat} (hj : j < lo.length) (hb : bestI lo = (j : Int)) : undoR l (f + 1) lo out = if (nxtR l lo[j]).1 ≤ 0 ∨ lo[j].next ≤ (nxtR l lo[j]).1 then undoR l f (lo.eraseIdx j) (out ++ (nxtR l lo[j]).2 ++ [ocE lo[j].id]) else undoR l f (lo.set j ⟨lo[j].id, (nxtR l lo[j]).1⟩) (out ++ (nxtR l lo[j]).2) := by
  rw [undoR, hb, if_neg (by omega), Int.toNat_natCast, List.getElem?_eq_getElem hj]
theorem nxt2_len (l : List Ln) (x : Lo) : (nxtR l x).2.length ≤ 1 := by
  unfold nxtR nxtK
  split
  · simp
  · split
    · simp
    · dsimp only; split <;> simp
theorem UJ.ended {ol : Option Addr} {cl : Nat} {l : List Ln} {w : World} {R : List Oc} {n : Nat} {out lov v' lov' : Value} {wr w8 : World} {lo : List Lo} {os : List Oc} (J : UJ ol cl l w R n out lov wr lo os) (j : Nat) (hj : j < lo.length) (hb : bestI lo = (j : Int))
    (hnx : (nxtR l lo[j]).1 ≤ 0 ∨ lo[j].next ≤ (nxtR l lo[j]).1) (hO : OutOk w8 w.heap.size v' (os ++ (nxtR l lo[j]).2 ++ [ocE lo[j].id])) (hown : w8.ownsRow w.heap.size 82 2 lov' (lo.eraseIdx j).length (cellsF lF (lo.eraseIdx j))) (hG : Gr w w8) :
    ∃ m, m < n ∧ UJ ol cl l w R m v' lov' w8 (lo.eraseIdx j) (os ++ (nxtR l lo[j]).2 ++ [ocE lo[j].id]) := by
  obtain ⟨m, rfl⟩ : ∃ m, n = m + 1 := ⟨n - 1, by have := J.mu; omega⟩
  have h1 := mu_erase lo j hj
  have h2 := J.mu
  have h3 := J.bd
  have h4 := nxt2_len l lo[j]
  refine ⟨m, by omega, hO, hown, fun x hx => J.pos x (List.mem_of_mem_eraseIdx hx), by omega, ?_, hG, by have := J.len; have := List.length_eraseIdx_le lo j; omega, by simp only [List.length_append, List.length_singleton]; omega⟩
  rw [← J.eq, undoR_step hj hb, if_pos hnx]
theorem UJ.on {ol : Option Addr} {cl : Nat} {l : List Ln} {w : World} {R : List Oc} {n : Nat} {out lov v' lov' : Value} {wr w8 : World} {lo : List Lo} {os : List Oc} (J : UJ ol cl l w R n out lov wr lo os) (j : Nat) (hj : j < lo.length) (hb : bestI lo = (j : Int))
    (hnx : ¬ ((nxtR l lo[j]).1 ≤ 0 ∨ lo[j].next ≤ (nxtR l lo[j]).1)) (hO : OutOk w8 w.heap.size v' (os ++ (nxtR l lo[j]).2)) (hown : w8.ownsRow w.heap.size 82 2 lov' (lo.set j ⟨lo[j].id, (nxtR l lo[j]).1⟩).length (cellsF lF (lo.set j ⟨lo[j].id, (nxtR l lo[j]).1⟩))) (hG : Gr w w8) :
    ∃ m, m < n ∧ UJ ol cl l w R m v' lov' w8 (lo.set j ⟨lo[j].id, (nxtR l lo[j]).1⟩) (os ++ (nxtR l lo[j]).2) := by
  obtain ⟨m, rfl⟩ : ∃ m, n = m + 1 := ⟨n - 1, by have := J.mu; omega⟩
  have h1 := mu_set lo j hj ⟨lo[j].id, (nxtR l lo[j]).1⟩
  have h2 := J.mu
  have h3 := J.bd
  have h4 := nxt2_len l lo[j]
  dsimp only at h1
  refine ⟨m, by omega, hO, hown, fun x hx => ?_, by omega, ?_, hG, by rw [List.length_set]; exact J.len, by simp only [List.length_append]; omega⟩
  · rcases List.mem_or_eq_of_mem_set hx with h | h
    · exact J.pos x h
    · subst h; dsimp only; omega
  · rw [← J.eq, undoR_step hj hb, if_neg hnx]
def BRel (wr : World) (lo : List Lo) (B : Int) (s9 s47 : Value) (wq : World) : Prop := ∃ (i : Nat) (b : Int), s47 = .int .i64 i ∧ s9 = .int .i64 b ∧ i ≤ lo.length ∧ Gr wr wq ∧ bst lo (lo.drop i) i b = B ∧ (i = 0 ∧ b = -1 ∨ 0 ≤ b ∧ b < i)
set_option maxHeartbeats 4000000 in
set_option maxRecDepth 100000 in
theorem undo_pass (ol : Option Addr) (cl : Nat) (l : List Ln) (w : World) (R : List Oc) (hl : l.length ≤ 1000000) (hL : LAt w ol l) (hbs : ∀ x ∈ l, x.bs.length ≤ 1000000) (n : Nat) (f : Nat → Value) (out lov : Value) (wr : World) (lo : List Lo) (os : List Oc) (hJ : UJ ol cl l w R n out lov wr lo os) :
    Code.wp Try.prog restB (UQ ol cl l w R n) (UFrame ol l.length cl out lov f) wr := by
  have HJ := hid hJ
  have HL := hid hL
  have HBS := hid hbs
  obtain ⟨oo, co, eo, hlo, hco, _⟩ := own_at lE hJ.own
  subst eo
  have hlen := hJ.len
  have hb0 : BRel wr lo (bestI lo) (.int .i64 (-1)) (.int .i64 0) wr := ⟨0, -1, rfl, rfl, Nat.zero_le _, Gr.refl _, rfl, .inl ⟨rfl, rfl⟩⟩
  have hbb := best_bd lo
  generalize hBB : bestI lo = B at *
  have HBB := hid hBB
  clear hBB
  have HLO := hid hlo
  clear hJ hL hbs hlo
  unfold UFrame
  conv => arg 2; whnf
  go_wp2_with fail
  go_loopw [9, 47] (fun s9 s47 wq => BRel wr lo B s9 s47 wq) (fun _ s47 _ => lo.length - (intOf s47).toNat)
  case atStart => exact hb0
  case round =>
    clear hb0
    obtain ⟨i, b, rfl, rfl, hi, hg, hB, hib⟩ := hrel
    have HB := hid hB
    clear hB
    by_cases hlt : i < lo.length
    · obtain ⟨bb, off, e, hbl, hcc⟩ := (HLO.out.keep hg).get i hlt
      have c0 : wr.cell? ⟨bb, off + i * 2, none⟩ = some (.int .i64 lo[i].id) := by simpa using hcc 0 _ rfl
      have c1 : wr.cell? ⟨bb, off + i * 2 + 1, none⟩ = some (.int .i64 lo[i].next) := hcc 1 _ rfl
      subst e
      have HB2 := HB.out
      rw [bst_step hlt] at HB2
      have gi1 : decide ((lo.length : Int) ≤ (i : Int)) = false := by rw [decide_eq_false_iff_not]; omega
      have gi2 : (i : Int) < (lo.length : Int) := by omega
      have gi3 : (0 : Int) ≤ (i : Int) := by omega
      have zc := lt_of_cell c0
      have FIN : ∀ (b' : Int) (wn : World), (i + 1 = 0 ∧ b' = -1 ∨ 0 ≤ b' ∧ b' < (i + 1 : Nat)) → Gr wr wn → bst lo (lo.drop (i + 1)) (i + 1) b' = B → BRel _ lo B (.int .i64 b') (.int .i64 ((i : Int) + 1)) wn := fun b' wn h1 h2 h3 => ⟨i + 1, b', by go_num, rfl, by omega, hg.trans h2, h3, h1⟩
      by_cases hb : b < 0
      · have gb : decide (b < 0) = true := by simpa using hb
        rw [if_pos hb] at HB2
        have FI := fun wn hw => FIN (i : Int) wn (.inr ⟨by omega, by omega⟩) hw HB2
        have HFI := hid FI
        clear HB2 FIN FI HB
        generalize lo[i].id = x0 at *
        generalize lo[i].next = x1 at *
        go_wp2_with fail
        go_quiet (fail)
        go_wp2
        exact ⟨HFI.out _ (((Gr.refl _).alloc _).drewN _), by simp [intOf]; omega⟩
      · have gb : decide (b < 0) = false := by simpa using hb
        rw [if_neg hb] at HB2
        obtain ⟨j, rfl⟩ : ∃ j : Nat, b = (j : Int) := ⟨b.toNat, by omega⟩
        have hj : j < lo.length := by omega
        obtain ⟨bb2, off2, e2, _, hdd⟩ := (HLO.out.keep hg).get j hj
        cases e2
        have d0 : wr.cell? ⟨bb, off + j * 2, none⟩ = some (.int .i64 lo[j].id) := by simpa using hdd 0 _ rfl
        have d1 : wr.cell? ⟨bb, off + j * 2 + 1, none⟩ = some (.int .i64 lo[j].next) := hdd 1 _ rfl
        rw [Int.toNat_natCast, List.getElem?_eq_getElem hj] at HB2
        simp only at HB2
        have gj1 : decide ((lo.length : Int) ≤ (j : Int)) = false := by rw [decide_eq_false_iff_not]; omega
        have gj2 : (j : Int) < (lo.length : Int) := by omega
        have gj3 : (0 : Int) ≤ (j : Int) := by omega
        have hji : j < i := by omega
        generalize lo[i].id = x0 at *
        generalize lo[i].next = x1 at *
        generalize lo[j].id = y0 at *
        generalize lo[j].next = y1 at *
        clear hcc hdd HB
        by_cases q1 : y1 < x1
        · have g1 : decide (y1 < x1) = true := by simpa using q1
          rw [if_pos (.inl q1)] at HB2
          have FI := fun wn hw => FIN (i : Int) wn (.inr ⟨by omega, by omega⟩) hw HB2
          have HFI := hid FI
          clear HB2 FIN FI
          go_wp2_with fail
          go_quiet (fail)
          go_wp2
          exact ⟨HFI.out _ (((Gr.refl _).alloc _).drewN _), by simp [intOf]; omega⟩
        · have g1 : decide (y1 < x1) = false := by simpa using q1
          by_cases q2 : x1 = y1
          · have g2 : (x1 == y1) = true := by simpa using q2
            by_cases q3 : x0 < y0
            · have g3 : decide (x0 < y0) = true := by simpa using q3
              rw [if_pos (.inr ⟨q2, q3⟩)] at HB2
              have FI := fun wn hw => FIN (i : Int) wn (.inr ⟨by omega, by omega⟩) hw HB2
              have HFI := hid FI
              have hq2 := hid q2
              clear HB2 FIN FI q2
              go_wp2_with fail
              go_quiet (fail)
              go_wp2
              exact ⟨HFI.out _ (((Gr.refl _).alloc _).drewN _), by simp [intOf]; omega⟩
            · have g3 : decide (x0 < y0) = false := by simpa using q3
              rw [if_neg (fun h => by rcases h with h | h <;> omega)] at HB2
              have FI := fun wn hw => FIN (j : Int) wn (.inr ⟨by omega, by omega⟩) hw HB2
              have HFI := hid FI
              clear HB2 FIN FI q2
              go_wp2_with fail
              go_quiet (fail)
              go_wp2
              exact ⟨HFI.out _ (((Gr.refl _).alloc _).drewN _), by simp [intOf]; omega⟩
          · have g2 : (x1 == y1) = false := by simpa using q2
            rw [if_neg (fun h => by rcases h with h | h <;> omega)] at HB2
            have FI := fun wn hw => FIN (j : Int) wn (.inr ⟨by omega, by omega⟩) hw HB2
            have HFI := hid FI
            clear HB2 FIN FI
            go_wp2_with fail
            go_quiet (fail)
            go_wp2
            exact ⟨HFI.out _ (((Gr.refl _).alloc _).drewN _), by simp [intOf]; omega⟩
    · obtain rfl : i = lo.length := by omega
      have hbB : b = B := by rw [← HB.out, List.drop_length]; rfl
      subst hbB
      clear HB
      have HO := hid (HJ.out.out.gr hg)
      have HW := hid (own_keep HJ.out.own hg)
      have GU := HJ.out.up.trans hg
      rcases hbb with ⟨hnil, hb1⟩ | hbb
      · subst hb1
        have hR : os = R := by
          have h1 := HJ.out.eq
          have h2 := HJ.out.mu
          obtain ⟨m, rfl⟩ : ∃ m, n = m + 1 := ⟨n - 1, by omega⟩
          subst hnil
          exact h1
        obtain ⟨zs, hz1, hz2, hz3⟩ := HO.out.ex
        obtain ⟨oa, c, e, hat, hc, _⟩ := own_at rE hz2
        have hzl : (zs.map fun z : Oc × Option Addr × Nat => zLn z.1 z.2.1 z.2.2).length = R.length := by rw [← hR, ← hz1]; simp
        rw [hzl] at e hc
        subst e
        have CL := fun W => rclip oa R.length c W hc
        have FIN : Hid (UndoP w R (.returned (.slice oa R.length R.length)) wr) := hid ⟨oa, zs, rfl, by rw [hz1, hR], hat, ⟨fun z hz => hz3 z hz, fun g o q e => by subst e; exact own_ty hz2⟩, GU⟩
        clear HO HW HJ hz1 hz2 hz3 hat hzl hR
        go_wp2_with fail
        refine (CL _).mono ?_
        rintro e w' ⟨rfl, rfl⟩
        go_wp2
        show bodyPost Try.prog Try.f15 (UndoP w R) Exit.ret _ _
        refine bodyPost_ret (by simp [results, Try.results15, go_sem]; try rfl) rfl FIN.out
      · obtain ⟨j, rfl⟩ : ∃ j : Nat, b = (j : Int) := ⟨b.toNat, by omega⟩
        have hj : j < lo.length := by omega
        obtain ⟨g, cap, eg, hgb, hgl, hgc⟩ := own_form HW.out (by omega)
        cases eg
        have d0 : wr.cell? ⟨g, j * 2, none⟩ = some (.int .i64 lo[j].id) := by
          have h0 := lE.cells_get lo j hj 0 (by omega)
          rw [Nat.add_zero] at h0
          rw [HW.out.cellAt _ (by omega), h0]; rfl
        have d1 : wr.cell? ⟨g, j * 2 + 1, none⟩ = some (.int .i64 lo[j].next) := by rw [HW.out.cellAt _ (by omega), lE.cells_get lo j hj 1 (by omega)]; rfl
        have hpx := HJ.out.pos _ (List.getElem_mem hj)
        have gj0 : decide ((j : Int) < 0) = false := by rw [decide_eq_false_iff_not]; omega
        have gj1 : decide ((lo.length : Int) ≤ (j : Int)) = false := by rw [decide_eq_false_iff_not]; omega
        have gj2 : (j : Int) < (lo.length : Int) := by omega
        have gj3 : (0 : Int) ≤ (j : Int) := by omega
        have LX := fun gp (W : World) (h : Gr wr W) (h1 : W.cell? ⟨gp, 0, none⟩ = some (.pointer (some ⟨g, j * 2, none⟩))) => lindex ol cl l lo[j].next gp g (j * 2) W (by omega) (HL.out.keep (GU.trans h)) h1 (h.keep d1)
        have HLX := hid LX
        obtain ⟨kx, hkx⟩ : ∃ k, idxB (fun y : Ln => y.lsn == lo[j].next) l 0 = k := ⟨_, rfl⟩
        rw [hkx] at HLX
        have hnx : nxtR l lo[j] = nxtK l lo[j] kx := by unfold nxtR; rw [hkx]
        have hkb := idx_bd (p := fun y : Ln => y.lsn == lo[j].next) l 0
        rw [hkx] at hkb
        go_upto_region 22 with (fail)
        obtain ⟨W2, hW2⟩ : ∃ W2, W2 = wr.alloc (.cells #[.pointer (some ⟨g, j * 2, none⟩)] 84) := ⟨_, rfl⟩
        have g2 : Gr wr W2 := by rw [hW2]; exact (Gr.refl _).alloc _
        have p0 : W2.cell? ⟨wr.heap.size, 0, none⟩ = some (.pointer (some ⟨g, j * 2, none⟩)) := by rw [hW2]; go_simp
        have TP : Ty 84 W2 wr.heap.size := by rw [hW2]; exact Ty.new _ _ _
        rw [← hW2]
        clear hW2
        have zp := lt_of_cell p0
        have HNX := hid hnx
        have HKB := hid hkb
        generalize hP : wr.heap.size = P at *
        have hPg : g < P := by omega
        obtain ⟨nx, hnxx⟩ : ∃ v, (nxtR l lo[j]).1 = v := ⟨_, rfl⟩
        obtain ⟨o1, ho1⟩ : ∃ v, (nxtR l lo[j]).2 = v := ⟨_, rfl⟩
        have HPR : Hid (nxtK l lo[j] kx = (nx, o1)) := hid (by rw [← hnx, ← hnxx, ← ho1])
        have HNX2 := hid hnxx
        have HO1 := hid ho1
        clear LX hkx hnx hkb hnxx ho1
        go_wp2_with fail
        refine (HLX.out P W2 g2 p0).mono ?_
        rintro e w3 ⟨rfl, hg3⟩
        have G3 := g2.trans hg3
        have p0 := hg3.keep p0
        have TP := TP.gr hg3
        have d0 := G3.keep d0
        have d1 := G3.keep d1
        have GU3 := GU.trans G3
        have HO3 := hid (HO.out.gr G3)
        have HW3 := hid (own_keep HW.out G3)
        have zp := lt_of_cell p0
        have zg := lt_of_cell d0
        clear HO HW GU g2 hg3 G3 HLX HLO hg
        go_upto_if 97 with (fail)
        go_cut [5, 13] from 98 to 130 (fun s5 s13 wx => s13 = .int .i64 nx ∧ Hid (OutOk wx w.heap.size s5 (os ++ o1)) ∧ Hid (Gz out w3 wx))
        case first =>
          by_cases hk0 : kx < 0
          · have gk : decide ((0 : Int) ≤ kx) = false := by rw [decide_eq_false_iff_not]; omega
            have e := HPR.out
            rw [nxtK_neg hk0] at e
            obtain ⟨rfl, rfl⟩ : nx = 0 ∧ o1 = [] := by cases e; exact ⟨rfl, rfl⟩
            have HX : Hid (OutOk w3 w.heap.size out (os ++ [])) := hid (by rw [List.append_nil]; exact HO3.out)
            clear e
            go_wp2
            go_meet
            exact ⟨rfl, HX, hid (Gz.refl _ _)⟩
          · obtain ⟨k, rfl⟩ : ∃ k : Nat, kx = (k : Int) := ⟨kx.toNat, by omega⟩
            have hkl : k < l.length := by
              rcases HKB.out with h | ⟨k', hk', h, _⟩
              · omega
              · omega
            have gk : decide ((0 : Int) ≤ (k : Int)) = true := by rw [decide_eq_true_eq]; omega
            have gk1 : decide ((l.length : Int) ≤ (k : Int)) = false := by rw [decide_eq_false_iff_not]; omega
            have gk2 : (k : Int) < (l.length : Int) := by omega
            have gk3 : (0 : Int) ≤ (k : Int) := by omega
            have e := HPR.out
            rw [nxtK_get hkl] at e
            have HE := hid e
            obtain ⟨b, off, rfl, c0, c1, c2, c3, c4, c5, c6, c7, c8, c9, c10, c11⟩ := n_get (HL.out.keep GU3) k hkl
            have hok := hid ((HL.out.ok _ (List.getElem_mem hkl)).keep GU3)
            have hbl := HBS.out _ (List.getElem_mem hkl)
            have zb := lt_of_cell c0
            clear e HPR HKB HNX HNX2 HO1
            generalize l[k] = r at *
            have LT : Hid (∀ g', out.ownBlock = some g' → g' < w3.heap.size) := hid (by
              obtain ⟨zs0, _, h2, _⟩ := HO3.out.ex
              exact fun g' hg' => (World.ownsRow.lt h2 g' hg').2)
            go_upto_region 26 with (fail)
            obtain ⟨Wr, hWr⟩ : ∃ W', W' = w3.alloc (.cells #[.int .i64 r.kind, .int .i64 r.txn, .int .i64 r.prev, .int .i64 r.next, .int .i64 r.page, .int .i64 r.off, .slice r.ob r.bs.length r.cb, .slice r.oa r.es.length r.ca, .slice r.ot r.ts.length r.ct, .slice r.od r.ds.length r.cd, .int .i64 r.cnt] 32) := ⟨_, rfl⟩
            have gr : Gr w3 Wr := by rw [hWr]; exact (Gr.refl _).alloc _
            have q0 : Wr.cell? ⟨w3.heap.size, 0, none⟩ = some (.int .i64 r.kind) := by rw [hWr]; go_simp
            have q2 : Wr.cell? ⟨w3.heap.size, 2, none⟩ = some (.int .i64 r.prev) := by rw [hWr]; go_simp
            have q3 : Wr.cell? ⟨w3.heap.size, 3, none⟩ = some (.int .i64 r.next) := by rw [hWr]; go_simp
            have q4 : Wr.cell? ⟨w3.heap.size, 4, none⟩ = some (.int .i64 r.page) := by rw [hWr]; go_simp
            have q5 : Wr.cell? ⟨w3.heap.size, 5, none⟩ = some (.int .i64 r.off) := by rw [hWr]; go_simp
            have q6 : Wr.cell? ⟨w3.heap.size, 6, none⟩ = some (.slice r.ob r.bs.length r.cb) := by rw [hWr]; go_simp
            rw [← hWr]
            have hPr : P < w3.heap.size := zp
            have p0 := gr.keep p0
            have TP := TP.gr gr
            have d0 := gr.keep d0
            have d1 := gr.keep d1
            have HO4 := hid (HO3.out.gr gr)
            have HOK := hid (hok.out.keep gr)
            have GU4 := GU3.trans gr
            have zr := lt_of_cell q0
            have zp := lt_of_cell p0
            have zg := lt_of_cell d0
            clear hWr c0 c1 c2 c3 c4 c5 c6 c7 c8 c9 c10 c11 hok zb HO3 GU3
            generalize hRB : w3.heap.size = rb at *
            obtain ⟨bk2, hbk2⟩ : ∃ b, (r.kind == 2) = b := ⟨_, rfl⟩
            have Hbk2 := hid hbk2
            have ho1 : o1 = if bk2 = true then [ocC lo[j].id r] else [] := by
              have h9 : (if r.kind = 2 then [ocC lo[j].id r] else []) = o1 := congrArg Prod.snd HE.out
              rw [← h9, ← hbk2]
              simp only [beq_iff_eq]
            have HO1 := hid ho1
            clear ho1
            go_upto_if 107 with (fail)
            go_cut [5] from 108 to 125 (fun s5 wx => Hid (OutOk wx w.heap.size s5 (os ++ o1)) ∧ Hid (Gz out Wr wx))
            case first =>
              cases bk2
              · have e : o1 = [] := HO1.out
                have HX : Hid (OutOk Wr w.heap.size out (os ++ o1)) := hid (by rw [e, List.append_nil]; exact HO4.out)
                clear e
                go_wp2
                go_meet
                exact ⟨HX, hid (Gz.refl _ _)⟩
              · have e : o1 = [ocC lo[j].id r] := HO1.out
                have BC := fun (W : World) (h : Rg.Up Wr W) => bclone r.ob r.cb r.bs W (by omega) (HOK.out.b.keep h)
                have HBC := hid BC
                have BP := fun (oa : Option Addr) (c : Nat) (W : World) (h : r.bs.length ≤ c) => bclip oa r.bs.length c W h
                have HBP := hid BP
                have hoc : Hid (ocC lo[j].id r = ⟨3, lo[j].id, r.prev, r.page, r.off, r.bs⟩) := hid rfl
                generalize ocC lo[j].id r = oc at *
                have HEq := hid e
                have hoces : Hid (oc.es = r.bs) := hid (by rw [hoc.out])
                clear BC BP e
                go_upto_region 27 with (fail)
                refine Rg.region_facts (W := Wr) 17 [] [(12, [11]), (15, [12]), (16, [15])] [(11, GC w.heap.size r.bs), (12, GB r.bs), (15, GR oc), (16, GS oc)] (fun _ => false) [11, 12, 15, 16]
                  [some out, some (.pointer (some ⟨g, j * 2, none⟩)), some (.pointer (some ⟨g, j * 2, none⟩)), some (.pointer (some ⟨g, j * 2, none⟩)), some (.int .i64 lo[j].id), some (.pointer (some ⟨rb, 4, none⟩)), some (.int .i64 r.page), some (.pointer (some ⟨rb, 5, none⟩)), some (.int .i64 r.off),
                   some (.pointer (some ⟨rb, 6, none⟩)), some (.slice r.ob r.bs.length r.cb), none, none, some (.pointer (some ⟨rb, 2, none⟩)), some (.int .i64 r.prev), none, none]
                  (Below.drew (Below.refl _ _)) (by kernel_rfl) (by kernel_rfl) ⟨rfl, rfl, rfl, rfl, trivial⟩ (u_keep _ _ _) (fun _ _ d _ _ h => by cases d <;> exact h) ?_
                intro v
                simp only [List.take_succ_cons, List.take_zero, Rg.wpF, Option.getD_some, Option.getD_none, Act.put, List.setIfInBounds_toArray, List.set_cons_zero, List.set_cons_succ]
                refine ⟨?_, ?_, ?_, ?_, ?_, ?_, ?_, ?_, ?_, ?_, ?_, ?_, ?_, ?_, ?_, ?_, ?_, ?_⟩
                all_goals first
                  | (refine sf_det (by rfl) (by rfl) (fun w' hS hF => ?_)
                     have hc := Gr.cells hS
                     have hf := Gr.frees hS
                     go_simp
                     first
                     | exact Below.refl _ _
                     | (refine ⟨?_, Below.refl _ _⟩; with_reducible rfl))
                  | (refine sf_free (by rfl) (by rfl) (fun w' hS hF => ?_)
                     go_simp
                     first
                     | ((with_reducible refine (HBC.out _ hS).mono ?_)
                        rintro e w'' ⟨u, rfl, ho, hg⟩
                        exact ⟨u, rfl, own_mono ho (Nat.le_trans GU4.size (Gr.size hS)), hg⟩)
                     | (obtain ⟨oa, c, e, hc, hB⟩ := gc_at hF.1
                        rw [e]
                        refine (HBP.out oa c _ hc).mono ?_
                        rintro e' w'' ⟨rfl, rfl⟩
                        exact ⟨_, rfl, ⟨oa, rfl, hB⟩, Below.refl _ _⟩)
                     | (obtain ⟨oa, e, hB⟩ := hF.1
                        rw [e]
                        go_simp
                        exact ⟨⟨oa, by rw [hoc.out]; rfl, by rw [hoces.out]; exact hB⟩, Below.refl _ _⟩)
                     | (obtain ⟨oa, e, hB⟩ := hF.1
                        have e : v 15 = .agg #[.int .i64 oc.kind, .int .i64 oc.txn, .int .i64 0, .int .i64 oc.next, .int .i64 oc.page, .int .i64 oc.off, .slice none 0 0, .slice oa oc.es.length oc.es.length, .slice none 0 0, .slice none 0 0, .int .i64 0] := e
                        rw [e]
                        go_simp
                        exact ⟨⟨oa, _, rfl, fun q v hv => by rw [Rg.blk_cells (heap_alloc_new w' _) q]; simpa [rF, zLn] using hv, hB.gr ((Gr.refl _).alloc _)⟩, (Gr.refl _).alloc _⟩))
                  | skip
                intro w6 hK
                have hup : Gr Wr w6 := hK.up
                obtain ⟨oa, gg, e16, hcell, hB⟩ : GS oc (v 16) w6 := hK.fact 16 (by decide) rfl rfl
                rw [e16]
                have HO6 := hid (HO4.out.gr hup)
                have GU6 := GU4.trans hup
                clear hK e16 HBC HBP
                generalize v 11 = v11 at *
                generalize v 12 = v12 at *
                generalize v 15 = v15 at *
                obtain ⟨i0, hi0, hz0, hz1, hz2⟩ := info_parts r_info
                obtain ⟨zs, hzs1, hzs2, hzs3⟩ := HO6.out.ex
                have hzl : (zs.map fun z : Oc × Option Addr × Nat => zLn z.1 z.2.1 z.2.2).length = os.length := by rw [← hzs1]; simp
                have hosb : os.length ≤ 1000000000 := by have := HJ.out.bd; omega
                have hwb := GU6.size
                simp only [List.drop_succ_cons, List.drop_zero]
                go_wp2_with (at_builtin; refine wpList_append_own _ rfl _ _ 50 rfl w.heap.size 32 i0 (.agg #[.int .i64 0, .int .i64 0, .int .i64 0, .int .i64 0, .int .i64 0, .int .i64 0, .slice none 0 0, .slice none 0 0, .slice none 0 0, .slice none 0 0, .int .i64 0]) 11 152 Try.underlying50 hi0 hz0 hz1 hz2 rfl (by decide) _ _ _ rfl hzs2 ⟨gg, 0, none⟩ 1 1 (rF (zLn oc oa oc.es.length)) rfl rfl ?e1 ?e2 ?e3 ?e4 ?e5 ?_)
                case e1 => intro q u hu; exact hcell q u (by simpa [addN] using hu)
                case e2 => exact rE.one _
                case e3 => first | (rw [hzl]; unfold maxLen; omega) | (unfold maxLen; omega)
                case e4 => first | (rw [hzl]; omega) | omega
                intro v' w7 hown hg7 _
                have HX : Hid (OutOk w7 w.heap.size v' (os ++ o1)) := hid (by rw [HEq.out]; exact OutOk.snoc zs hzs1 hzs2 hzs3 hB (by rw [hzl]; exact hown) hg7)
                have HG : Hid (Gz out Wr w7) := hid (Gz.trans (.of hup) hg7)
                clear hown hg7 hzs1 hzs2 hzs3 hzl hcell hB HO6 HEq
                go_wp2
                go_meet
                exact ⟨HX, HG⟩
            case rest =>
              obtain ⟨HO5, HG5⟩ := hcut
              have q0 := HG5.out.cell q0 (fun g' hg' => by have := LT.out g' hg'; omega)
              have q3 := HG5.out.cell q3 (fun g' hg' => by have := LT.out g' hg'; omega)
              have zr := lt_of_cell q0
              have HG : Hid (Gz out w3 wc) := hid (Gz.trans (.of gr) HG5.out)
              have ENX : (if r.kind = 3 then r.next else r.prev) = nx := congrArg Prod.fst HE.out
              clear q2 q4 q5 q6 p0 TP d0 d1 HO4 HOK GU4 zp zg HE
              by_cases k3 : r.kind = 3
              · have g3 : (r.kind == 3) = true := by simpa using k3
                have EN : r.next = nx := by rwa [if_pos k3] at ENX
                have HEN := hid EN
                clear EN ENX k3
                go_wp2
                go_meet
                exact ⟨by rw [HEN.out], HO5, HG⟩
              · have g3 : (r.kind == 3) = false := by simpa using k3
                have EN : r.prev = nx := by rwa [if_neg k3] at ENX
                have HEN := hid EN
                clear EN ENX k3
                go_wp2
                go_meet
                exact ⟨by rw [HEN.out], HO5, HG⟩
        case rest =>
          obtain ⟨rfl, HO9, HG9⟩ := hcut
          obtain ⟨zs0, hy1, hy2, hy3⟩ := HO3.out.ex
          have p0 := HG9.out.cell p0 (fun g' hg' e => TP.ne hy2 (by decide) (by rw [hg', e]))
          have TP := TP.gz HG9.out (TP.ne hy2 (by decide))
          have HW9 := hid (HW3.out.kept HG9.out (own_apart HW3.out hy2 (by decide)))
          have GU9 := Gz.up GU3 HG9.out hy2
          have d0 : wc.cell? ⟨g, j * 2, none⟩ = some (.int .i64 lo[j].id) := by
            have h0 := lE.cells_get lo j hj 0 (by omega)
            rw [Nat.add_zero] at h0
            rw [HW9.out.cellAt _ (by omega), h0]; rfl
          have d1 : wc.cell? ⟨g, j * 2 + 1, none⟩ = some (.int .i64 lo[j].next) := by rw [HW9.out.cellAt _ (by omega), lE.cells_get lo j hj 1 (by omega)]; rfl
          have zp := lt_of_cell p0
          have zg := lt_of_cell d0
          have hcom : co ≤ 9223372036854775807 := by
            rcases HW9.out.2 with ⟨h, _⟩ | ⟨_, _, _, h, _, _, _, h2, _⟩
            · cases h
            · cases h; exact h2
          have ENDJ := fun (v' lov' : Value) (w8 : World) (hnx : nx ≤ 0 ∨ lo[j].next ≤ nx) (hO : OutOk w8 w.heap.size v' (os ++ o1 ++ [ocE lo[j].id])) (hw : w8.ownsRow w.heap.size 82 2 lov' (lo.eraseIdx j).length (cellsF lF (lo.eraseIdx j))) (hG : Gr w w8) =>
            HJ.out.ended j hj HBB.out (by rw [HNX2.out]; exact hnx) (by rw [HO1.out]; exact hO) hw hG
          have HEND := hid ENDJ
          have ONJ := fun (v' lov' : Value) (w8 : World) (hnx : ¬ (nx ≤ 0 ∨ lo[j].next ≤ nx)) (hO : OutOk w8 w.heap.size v' (os ++ o1)) (hw : w8.ownsRow w.heap.size 82 2 lov' (lo.set j ⟨lo[j].id, nx⟩).length (cellsF lF (lo.set j ⟨lo[j].id, nx⟩))) (hG : Gr w w8) =>
            HJ.out.on (v' := v') (lov' := lov') j hj HBB.out (by rw [HNX2.out]; exact hnx) (by rw [HO1.out]; exact hO) (by rw [HNX2.out]; exact hw) hG
          have HON := hid ONJ
          clear HG9 HO3 HW3 GU3 hy1 hy2 hy3 HPR HNX HKB ENDJ ONJ
          by_cases qa : nx ≤ 0
          · have ga : decide (nx ≤ 0) = true := by simpa using qa
            have HQ : Hid (nx ≤ 0 ∨ lo[j].next ≤ nx) := hid (.inl qa)
            go_upto_if 140 with (fail)
            have HOa := fun cs => OutOk.gr HO9.out ((Gr.refl wc).alloc cs)
            obtain ⟨i0, hi0, hz0, hz1, hz2⟩ := info_parts r_info
            obtain ⟨zs, hzs1, hzs2, hzs3⟩ := HO9.out.ex
            have hzl : (zs.map fun z : Oc × Option Addr × Nat => zLn z.1 z.2.1 z.2.2).length = os.length + o1.length := by rw [← List.length_append, ← hzs1]; simp
            have hosb : os.length + o1.length ≤ 1000000001 := by have := HJ.out.bd; have := nxt2_len l lo[j]; rw [HO1.out] at this; omega
            have HLD := hid (fun (W : World) (h : W.ownsRow w.heap.size 82 2 (.slice (some ⟨g, 0, none⟩) lo.length co) lo.length (cellsF lF lo)) => ldelete w.heap.size g co lo j W hj (by omega) hcom h)
            have hwj : IntKind.i64.wrap ((j : Int) + 1) = (j : Int) + 1 := by rw [IntKind.wrap_i64]; omega
            have hwj2 : wrap64 ((j : Int) + 1) = (j : Int) + 1 := by unfold wrap64; omega
            have hwb := GU9.size
            have h2a := fun cs => hzs2.alloc cs
            go_wp2_with (at_builtin; refine wpList_append_own _ rfl _ _ 50 rfl w.heap.size 32 i0 (.agg #[.int .i64 0, .int .i64 0, .int .i64 0, .int .i64 0, .int .i64 0, .int .i64 0, .slice none 0 0, .slice none 0 0, .slice none 0 0, .slice none 0 0, .int .i64 0]) 11 152 Try.underlying50 hi0 hz0 hz1 hz2 rfl (by decide) _ _ _ rfl (hzs2.alloc _) ⟨wc.heap.size, 0, none⟩ 1 1 (rF (zLn (ocE lo[j].id) none 0)) rfl rfl ?ja1 ?ja2 ?ja3 ?ja4 ?ja5 ?_)
            case ja1 =>
              intro q u hu
              first
              | (rw [addN, Nat.zero_add, Rg.blk_cells (heap_alloc_new wc _) q]; simpa [rF, zLn, ocE] using hu)
              | simpa [rF, zLn, ocE] using hu
            case ja2 => exact rE.one _
            case ja3 => first | (rw [hzl]; unfold maxLen; omega) | (unfold maxLen; omega)
            case ja4 => first | (rw [hzl]; omega) | omega
            case ja5 => first | omega | (simp; omega)
            intro v' w7 hown hg7 _
            have G7 : Gz u5 wc w7 := Gz.trans (.of ((Gr.refl wc).alloc _)) hg7
            have HO7 : Hid (OutOk w7 w.heap.size v' (os ++ o1 ++ [ocE lo[j].id])) := hid (OutOk.snoc zs hzs1 (hzs2.alloc _) (fun z hz => BOk.gr (hzs3 z hz) ((Gr.refl wc).alloc _)) (oa := none) ⟨.inl rfl, fun _ _ _ h => by cases h⟩ (by first | exact hown | (rw [hzl]; exact hown)) hg7)
            have HW7 := hid (HW9.out.kept G7 (own_apart HW9.out hzs2 (by decide)))
            have GU7 := Gz.up GU9 G7 hzs2
            clear hown hg7 hzs1 hzs2 hzs3 hzl G7 GU9 HO9 HW9 HOa h2a p0 d0 d1 TP zp zg hi0 hz0 hz1 hz2
            go_wp2_with fail
            refine (HLD.out _ HW7.out).mono ?_
            rintro e w8 ⟨rfl, h8, G8⟩
            have HO8 := HO7.out.gz G8 HW7.out (by decide) (by decide)
            have GU8 := Gz.up GU7 G8 HW7.out
            obtain ⟨m, hm, hJ⟩ := HEND.out v' _ w8 HQ.out HO8 h8 GU8
            have HJ8 := hid hJ
            clear hJ h8 G8 HO8 GU8 HO7 HW7
            go_wp2
            refine wp_goto ?_
            show UQ ol cl l w R n (Exit.goto 0) _ _
            exact ⟨rfl, m, hm, _, _, _, _, _, UFrame_of _ rfl rfl rfl rfl rfl rfl, HJ8.out⟩
          · have ga : decide (nx ≤ 0) = false := by simpa using qa
            by_cases qb : lo[j].next ≤ nx
            · have gb : decide (lo[j].next ≤ nx) = true := by simpa using qb
              have HQ : Hid (nx ≤ 0 ∨ lo[j].next ≤ nx) := hid (.inr qb)
              go_upto_if 140 with (fail)
              have HOa := fun cs => OutOk.gr HO9.out ((Gr.refl wc).alloc cs)
              obtain ⟨i0, hi0, hz0, hz1, hz2⟩ := info_parts r_info
              obtain ⟨zs, hzs1, hzs2, hzs3⟩ := HO9.out.ex
              have hzl : (zs.map fun z : Oc × Option Addr × Nat => zLn z.1 z.2.1 z.2.2).length = os.length + o1.length := by rw [← List.length_append, ← hzs1]; simp
              have hosb : os.length + o1.length ≤ 1000000001 := by have := HJ.out.bd; have := nxt2_len l lo[j]; rw [HO1.out] at this; omega
              have HLD := hid (fun (W : World) (h : W.ownsRow w.heap.size 82 2 (.slice (some ⟨g, 0, none⟩) lo.length co) lo.length (cellsF lF lo)) => ldelete w.heap.size g co lo j W hj (by omega) hcom h)
              have hwj : IntKind.i64.wrap ((j : Int) + 1) = (j : Int) + 1 := by rw [IntKind.wrap_i64]; omega
              have hwj2 : wrap64 ((j : Int) + 1) = (j : Int) + 1 := by unfold wrap64; omega
              have hwb := GU9.size
              have h2a := fun cs => hzs2.alloc cs
              go_wp2_with (at_builtin; refine wpList_append_own _ rfl _ _ 50 rfl w.heap.size 32 i0 (.agg #[.int .i64 0, .int .i64 0, .int .i64 0, .int .i64 0, .int .i64 0, .int .i64 0, .slice none 0 0, .slice none 0 0, .slice none 0 0, .slice none 0 0, .int .i64 0]) 11 152 Try.underlying50 hi0 hz0 hz1 hz2 rfl (by decide) _ _ _ rfl (hzs2.alloc _) ⟨wc.heap.size, 0, none⟩ 1 1 (rF (zLn (ocE lo[j].id) none 0)) rfl rfl ?jb1 ?jb2 ?jb3 ?jb4 ?jb5 ?_)
              case jb1 =>
                intro q u hu
                first
                | (rw [addN, Nat.zero_add, Rg.blk_cells (heap_alloc_new wc _) q]; simpa [rF, zLn, ocE] using hu)
                | simpa [rF, zLn, ocE] using hu
              case jb2 => exact rE.one _
              case jb3 => first | (rw [hzl]; unfold maxLen; omega) | (unfold maxLen; omega)
              case jb4 => first | (rw [hzl]; omega) | omega
              case jb5 => first | omega | (simp; omega)
              intro v' w7 hown hg7 _
              have G7 : Gz u5 wc w7 := Gz.trans (.of ((Gr.refl wc).alloc _)) hg7
              have HO7 : Hid (OutOk w7 w.heap.size v' (os ++ o1 ++ [ocE lo[j].id])) := hid (OutOk.snoc zs hzs1 (hzs2.alloc _) (fun z hz => BOk.gr (hzs3 z hz) ((Gr.refl wc).alloc _)) (oa := none) ⟨.inl rfl, fun _ _ _ h => by cases h⟩ (by first | exact hown | (rw [hzl]; exact hown)) hg7)
              have HW7 := hid (HW9.out.kept G7 (own_apart HW9.out hzs2 (by decide)))
              have GU7 := Gz.up GU9 G7 hzs2
              clear hown hg7 hzs1 hzs2 hzs3 hzl G7 GU9 HO9 HW9 HOa h2a p0 d0 d1 TP zp zg hi0 hz0 hz1 hz2
              go_wp2_with fail
              refine (HLD.out _ HW7.out).mono ?_
              rintro e w8 ⟨rfl, h8, G8⟩
              have HO8 := HO7.out.gz G8 HW7.out (by decide) (by decide)
              have GU8 := Gz.up GU7 G8 HW7.out
              obtain ⟨m, hm, hJ⟩ := HEND.out v' _ w8 HQ.out HO8 h8 GU8
              have HJ8 := hid hJ
              clear hJ h8 G8 HO8 GU8 HO7 HW7
              go_wp2
              refine wp_goto ?_
              show UQ ol cl l w R n (Exit.goto 0) _ _
              exact ⟨rfl, m, hm, _, _, _, _, _, UFrame_of _ rfl rfl rfl rfl rfl rfl, HJ8.out⟩
            · have gb : decide (lo[j].next ≤ nx) = false := by simpa using qb
              have HQ : Hid (¬ (nx ≤ 0 ∨ lo[j].next ≤ nx)) := hid (fun h => by rcases h with h | h <;> contradiction)
              have f1 := HW9.out.frozenAt (j * 2 + 1)
              have cj := (own_room HW9.out (j * 2 + 1) (by omega)).1
              obtain ⟨uo, hcu⟩ := Option.isSome_iff_exists.1 cj
              obtain ⟨S10, G10⟩ := own_store lE HW9.out j hj ⟨lo[j].id, nx⟩ 1 (by omega) (.int .i64 nx) (by simp [lF])
              have HO10 := HO9.out.gz (u := .slice (some ⟨g, 0, none⟩) lo.length co) G10 HW9.out (by decide) (by decide)
              have GU10 := Gz.up GU9 (v := .slice (some ⟨g, 0, none⟩) lo.length co) G10 HW9.out
              rw [List.length_set] at S10
              obtain ⟨m, hm, hJ⟩ := HON.out u5 (.slice (some ⟨g, 0, none⟩) lo.length co) _ HQ.out HO10 (by rw [List.length_set]; exact S10) GU10
              have HJ8 := hid hJ
              clear hJ S10 G10 HO10 GU10 cj
              go_wp2
              refine wp_goto ?_
              show UQ ol cl l w R n (Exit.goto 0) _ _
              exact ⟨rfl, m, hm, _, _, _, _, _, UFrame_of _ rfl rfl rfl rfl rfl rfl, by first | exact HJ8.out | (rw [← List.length_set (i := j) (a := ⟨lo[j].id, nx⟩)]; exact HJ8.out)⟩
end Go.Proofs.Ytmanokhadppeeaa

/- Texts of this claim, put together: walks of functions and plain laws, of no condition. -/
import Derived.Test.YtbeinfhgfflneaaGreatNs5
import Derived.ChangeSame
import Derived.ProofKit
import Derived.OpenShut
import Derived.Lib.SmallJoins
import Derived.SizedLaws
section
namespace Go.Proofs.YtbeinfhgfflneaaGreat
open Go.RowKit
set_option linter.unusedSimpArgs false
set_option linter.unusedVariables false
attribute [local go_sem] Rg.leads_value Rg.leads_skip Rg.leads_enter Rg.brings_value Rg.brings_skip Rg.brings_enter Rg.bringsG_value Rg.bringsG_enter Rg.once_normal Rg.once_exit Rg.once_ret Rg.once_panic Rg.once_goto
set_option maxHeartbeats 4000000 in
set_option maxRecDepth 100000 in
theorem lit_s (v : V) (w : World) : Calls Tryz.prog 12 #[v.val] w fun e w' => e = .returned (XR.val (xlR v)) ∧ Gr w w' := by
  obtain ⟨tv, nv, sv, bv⟩ := v
  have H0 : Hid (∀ o : Obj, ((w.alloc o).alloc (.cells zeroX 26)).heap[w.heap.size + 1]? = some (.cells zeroX 26 (0, 0))) := hid (fun o => alloc_two _ _ _)
  have HG : Hid (∀ o W5, Go1 (w.heap.size + 1) ((w.alloc o).alloc (.cells zeroX 26)) W5 → Gr w W5) := hid (fun o W5 h5 => (((Gr.refl w).alloc _).alloc _).grown h5 (fun g e => by cases e; exact Nat.le_succ _))
  unfold XR.val V.val xlR
  go_enter Tryz.func12, Tryz.ntmps12
  go_wp2_with (guard_target =~ wpList _ _ _ (Oper.mk _ (Op.store 26 _ _) _ _ _ _ :: _) _ _; refine st_row (ty := 26) rfl rfl (w.heap.size + 1) (XR.cells (xlR ⟨tv, nv, sv, bv⟩)) rfl rfl 26 _ (H0.out _) (by kernel_rfl) rfl (by kernel_rfl) ?_; intro W5 hW5 gW5 zW5; have hg := HG.out _ W5 gW5; have cW := Rg.blk_cells hW5; clear gW5 zW5)
  (try change bodyPost _ _ _ _ _ _)
  refine bodyPost_ret (v := XR.val (xlR ⟨tv, nv, sv, bv⟩)) (by simp [results, Tryz.results12, go_sem, XR.val, xlR, nul, cW]; try rfl) rfl ⟨rfl, hg⟩
def divE : Ex := .mk { op := 21 } [xlE (numV 1), xlE (numV 0)]
def badE : Ex := .mk { op := 9 } [divE, xlE (numV 1)]
def trE (t nt : Bool) : Ex := if nt then .mk { op := 8 } [xlE (boolV (!t))] else xlE (boolV t)
def kidsE (t left nt : Bool) : List Ex := if left then [badE, trE t nt] else [trE t nt, badE]
def andV (t left nt : Bool) : V × Int := if !left && !t then (boolV false, 0) else (nul, 162)
def orV (t left nt : Bool) : V × Int := if !left && t then (boolV true, 0) else (nul, 162)
theorem and_ev : ∀ t left nt : Bool, evX [] agN (.mk { op := 7 } (kidsE t left nt)) = andV t left nt := by
  intro t left nt
  cases t <;> cases left <;> cases nt <;> kernel_rfl
theorem or_ev : ∀ t left nt : Bool, evX [] agN (.mk { op := 6 } (kidsE t left nt)) = orV t left nt := by
  intro t left nt
  cases t <;> cases left <;> cases nt <;> kernel_rfl
theorem sh_ok (o : Int) (ho : o = 7 ∨ o = 6) (t left nt : Bool) : Ex.noAgg (.mk { op := o } (kidsE t left nt)) = true ∧ Ex.fitB 0 (.mk { op := o } (kidsE t left nt)) = true := by
  rcases ho with rfl | rfl <;> cases t <;> cases left <;> cases nt <;> exact ⟨by kernel_rfl, by kernel_rfl⟩
theorem sh_call (o : Int) (ho : o = 7 ∨ o = 6) (t left nt : Bool) (rs : List XR) (W : World) (g : Nat) (cs : Array Value) (hg : W.heap[g]? = some (.cells cs 26 (0, 0))) (hcs : cs.toList = cellsF xF rs) (hx : Exs.At Al W (kidsE t left nt) rs) (R : V × Int) (hR : evX [] agN (.mk { op := o } (kidsE t left nt)) = R) :
    Calls Tryz.prog 8 #[XR.val ⟨{ op := o }, some ⟨g, 0, none⟩, 2, 2⟩, .slice none 0 0, .slice none 0 0] W (Vp R W) := by
  have h := eexpr_any (.mk { op := o } (kidsE t left nt)) _ none 0 [] 0 W (form_at hg hcs hx (by unfold kidsE; cases left <;> rfl) (Nat.le_of_ble_eq_true rfl)) (sh_ok o ho t left nt).1 (.inl rfl) (fit_of _ _ (sh_ok o ho t left nt).2) (fun l hl => by simp at hl) (by omega)
  rw [hR] at h
  exact h
set_option maxHeartbeats 64000000 in
set_option maxRecDepth 100000 in
theorem sh_000 (w : World) (m : Int) (hm : w.cell? ⟨0, 0, none⟩ = some (.int .i64 m)) : Calls Tryz.prog 4 #[.bool false, .bool false, .bool false] w fun e w' => e = .returned (.bool true) ∧ Gr w w' := by
  have N1 : Hid (∀ W, _) := hid (fun W => lit_s (numV 1) W)
  have N0 : Hid (∀ W, _) := hid (fun W => lit_s (numV 0) W)
  have I1 : Hid (∀ W, _) := hid (fun W => lint_any 1 W)
  have I0 : Hid (∀ W, _) := hid (fun W => lint_any 0 W)
  have B1 : Hid (∀ W, _) := hid (fun W => lit_s (boolV false) W)
  have B0 : Hid (∀ W, _) := hid (fun W => lit_s (boolV true) W)
  have T1 : Hid (∀ W, _) := hid (fun W => ltruth_any false W)
  have T0 : Hid (∀ W, _) := hid (fun W => ltruth_any true W)
  have AW : Hid (∀ W, Gr w W → _) := hid (fun W h => eawake_any W m (Gr.keep h hm))
  clear hm
  unfold numV boolV V.val XR.val xlR at *
  go_enter Tryz.func4, Tryz.ntmps4
  go_wp2_with fail
  refine (I1.out _).mono ?_
  rintro e w1 ⟨rfl, g1⟩
  go_wp2_with fail
  refine (N1.out _).mono ?_
  rintro e w2 ⟨rfl, g2⟩
  go_wp2_with fail
  refine (I0.out _).mono ?_
  rintro e w3 ⟨rfl, g3⟩
  go_wp2_with fail
  refine (N0.out _).mono ?_
  rintro e w4 ⟨rfl, g4⟩
  have HG4 := hid ((g1.trans g2).trans (g3.trans g4))
  clear g1 g2 g3 g4
  go_wp2_with fail
  refine (I1.out _).mono ?_
  rintro e w5 ⟨rfl, g5⟩
  go_wp2_with fail
  refine (N1.out _).mono ?_
  rintro e w6 ⟨rfl, g6⟩
  have HG6 := hid ((HG4.out.alloc _).trans (g5.trans g6))
  have HD6 : Hid (w6.heap[w4.heap.size]? = some (.cells #[.int .i64 1, .int .i64 1, .int .i64 1, .string ⟨#[]⟩, .bool false, .string ⟨#[]⟩, .string ⟨#[]⟩, .int .i64 0, .int .i64 0, .bool false, .bool false, .slice none 0 0, .int .i64 1, .int .i64 1, .int .i64 0, .string ⟨#[]⟩, .bool false, .string ⟨#[]⟩, .string ⟨#[]⟩, .int .i64 0, .int .i64 0, .bool false, .bool false, .slice none 0 0] 26 (0, 0))) := hid (((g5.trans g6).block _ (lt_blk (alloc_at _ _))).trans (alloc_at _ _))
  clear g5 g6 HG4 I1 N1 I0 N0
  generalize w4.heap.size = gA at *
  go_wp2_with fail
  refine (T1.out _).mono ?_
  rintro e w7 ⟨rfl, g7⟩
  have HG7 : Hid (Gr w w7) := hid (((HG6.out.alloc _).alloc _).trans g7)
  have HD7 : Hid (w7.heap[gA]? = some (.cells #[.int .i64 1, .int .i64 1, .int .i64 1, .string ⟨#[]⟩, .bool false, .string ⟨#[]⟩, .string ⟨#[]⟩, .int .i64 0, .int .i64 0, .bool false, .bool false, .slice none 0 0, .int .i64 1, .int .i64 1, .int .i64 0, .string ⟨#[]⟩, .bool false, .string ⟨#[]⟩, .string ⟨#[]⟩, .int .i64 0, .int .i64 0, .bool false, .bool false, .slice none 0 0] 26 (0, 0))) := hid (((((Gr.refl w6).alloc _).alloc _).trans g7 |>.block _ (lt_blk HD6.out)).trans HD6.out)
  have HB7 : Hid (w7.heap[w6.heap.size]? = some (.cells #[.int .i64 21, .int .i64 0, .int .i64 0, .string ⟨#[]⟩, .bool false, .string ⟨#[]⟩, .string ⟨#[]⟩, .int .i64 0, .int .i64 0, .bool false, .bool false, .slice (some ⟨gA, 0, none⟩) 2 2, .int .i64 1, .int .i64 1, .int .i64 1, .string ⟨#[]⟩, .bool false, .string ⟨#[]⟩, .string ⟨#[]⟩, .int .i64 0, .int .i64 0, .bool false, .bool false, .slice none 0 0] 26 (0, 0))) := hid ((g7.block _ (by rw [World.size_alloc, World.size_alloc]; exact Nat.lt_succ_of_lt (Nat.lt_succ_self _))).trans ((((Gr.refl _).alloc _).block _ (by rw [World.size_alloc]; exact Nat.lt_succ_self _)).trans (alloc_at _ _)))
  have HX7 : Hid (w7.heap[w6.heap.size + 1]? = some (.cells #[.int .i64 9, .int .i64 0, .int .i64 0, .string ⟨#[]⟩, .bool false, .string ⟨#[]⟩, .string ⟨#[]⟩, .int .i64 0, .int .i64 0, .bool false, .bool false, .slice (some ⟨w6.heap.size, 0, none⟩) 2 2] 26 (0, 0))) := hid ((g7.block _ (by rw [World.size_alloc, World.size_alloc]; exact Nat.lt_succ_self _)).trans (alloc_two _ _ _))
  clear g7 HG6 HD6 T1
  generalize w6.heap.size + 1 = g8 at *
  generalize w6.heap.size = gB at *
  have HAT : Hid (Ex.At Al w7 badE (⟨{ op := 9 }, some ⟨gB, 0, none⟩, 2, 2⟩ : XR)) := hid (form_at HB7.out rfl (Exs.At.cons (form_at HD7.out rfl (Exs.At.cons (lit_at (numV 1) w7) (Exs.At.cons (lit_at (numV 0) w7) Exs.At.nil)) rfl (by decide)) (Exs.At.cons (lit_at (numV 1) w7) Exs.At.nil)) rfl (by decide))
  clear HD7 HB7
  go_wp2_with fail
  refine (B1.out _).mono ?_
  rintro e w8 ⟨rfl, g8'⟩
  have HG8 := hid (HG7.out.trans g8')
  have HAT8 := hid (at_gr HAT.out g8')
  have HX8 := hid ((g8'.block _ (lt_blk HX7.out)).trans HX7.out)
  clear g8' HG7 HAT HX7 B1
  have HGU := hid (HG8.out.alloc (.cells #[.int .i64 1, .int .i64 3, .int .i64 0, .string ⟨#[]⟩, .bool false, .string ⟨#[]⟩, .string ⟨#[]⟩, .int .i64 0, .int .i64 0, .bool false, .bool false, .slice none 0 0] 26))
  have HAU := hid (at_gr HAT8.out ((Gr.refl w8).alloc (.cells #[.int .i64 1, .int .i64 3, .int .i64 0, .string ⟨#[]⟩, .bool false, .string ⟨#[]⟩, .string ⟨#[]⟩, .int .i64 0, .int .i64 0, .bool false, .bool false, .slice none 0 0] 26)))
  have HTU : Hid (Ex.At Al (w8.alloc (.cells #[.int .i64 1, .int .i64 3, .int .i64 0, .string ⟨#[]⟩, .bool false, .string ⟨#[]⟩, .string ⟨#[]⟩, .int .i64 0, .int .i64 0, .bool false, .bool false, .slice none 0 0] 26)) (trE false false) (xlR (boolV false))) := hid (lit_at _ _)
  have c8c := Rg.blk_cells HX8.out
  have l8 := lt_blk HX8.out
  clear HG8 HAT8 HX8 T0 B0
  go_wp2_with fail
  have KX : Hid (∀ W g cs, Gr (w8.alloc (.cells #[.int .i64 1, .int .i64 3, .int .i64 0, .string ⟨#[]⟩, .bool false, .string ⟨#[]⟩, .string ⟨#[]⟩, .int .i64 0, .int .i64 0, .bool false, .bool false, .slice none 0 0] 26)) W → W.heap[g]? = some (.cells cs 26 (0, 0)) → cs.toList = cellsF xF [(xlR (boolV false)), (⟨{ op := 9 }, some ⟨gB, 0, none⟩, 2, 2⟩ : XR)] → Calls Tryz.prog 8 #[XR.val ⟨{ op := 7 }, some ⟨g, 0, none⟩, 2, 2⟩, .slice none 0 0, .slice none 0 0] W (Vp (⟨3, 0, ⟨#[]⟩, false⟩, 0) W) ∧ Calls Tryz.prog 8 #[XR.val ⟨{ op := 6 }, some ⟨g, 0, none⟩, 2, 2⟩, .slice none 0 0, .slice none 0 0] W (Vp (⟨0, 0, ⟨#[]⟩, false⟩, 162) W)) := hid (fun W g cs G hg hcs => ⟨sh_call 7 (.inl rfl) false false false [(xlR (boolV false)), (⟨{ op := 9 }, some ⟨gB, 0, none⟩, 2, 2⟩ : XR)] W g cs hg hcs (Exs.At.cons (at_gr HTU.out G) (Exs.At.cons (at_gr HAU.out G) Exs.At.nil)) _ (and_ev false false false), sh_call 6 (.inr rfl) false false false [(xlR (boolV false)), (⟨{ op := 9 }, some ⟨gB, 0, none⟩, 2, 2⟩ : XR)] W g cs hg hcs (Exs.At.cons (at_gr HTU.out G) (Exs.At.cons (at_gr HAU.out G) Exs.At.nil)) _ (or_ev false false false)⟩)
  clear HAU HTU
  have HGX : Hid ((((w8.alloc (.cells #[.int .i64 1, .int .i64 3, .int .i64 0, .string ⟨#[]⟩, .bool false, .string ⟨#[]⟩, .string ⟨#[]⟩, .int .i64 0, .int .i64 0, .bool false, .bool false, .slice none 0 0] 26)).alloc (.cells #[.int .i64 1, .int .i64 3, .int .i64 0, .string ⟨#[]⟩, .bool false, .string ⟨#[]⟩, .string ⟨#[]⟩, .int .i64 0, .int .i64 0, .bool false, .bool false, .slice none 0 0, .int .i64 9, .int .i64 0, .int .i64 0, .string ⟨#[]⟩, .bool false, .string ⟨#[]⟩, .string ⟨#[]⟩, .int .i64 0, .int .i64 0, .bool false, .bool false, .slice (some ⟨gB, 0, none⟩) 2 2] 26))).heap[w8.heap.size + 1]? = some (.cells #[.int .i64 1, .int .i64 3, .int .i64 0, .string ⟨#[]⟩, .bool false, .string ⟨#[]⟩, .string ⟨#[]⟩, .int .i64 0, .int .i64 0, .bool false, .bool false, .slice none 0 0, .int .i64 9, .int .i64 0, .int .i64 0, .string ⟨#[]⟩, .bool false, .string ⟨#[]⟩, .string ⟨#[]⟩, .int .i64 0, .int .i64 0, .bool false, .bool false, .slice (some ⟨gB, 0, none⟩) 2 2] 26 (0, 0))) := hid (alloc_two _ _ _)
  have HGW : Hid (Gr w ((w8.alloc (.cells #[.int .i64 1, .int .i64 3, .int .i64 0, .string ⟨#[]⟩, .bool false, .string ⟨#[]⟩, .string ⟨#[]⟩, .int .i64 0, .int .i64 0, .bool false, .bool false, .slice none 0 0] 26)).alloc (.cells #[.int .i64 1, .int .i64 3, .int .i64 0, .string ⟨#[]⟩, .bool false, .string ⟨#[]⟩, .string ⟨#[]⟩, .int .i64 0, .int .i64 0, .bool false, .bool false, .slice none 0 0, .int .i64 9, .int .i64 0, .int .i64 0, .string ⟨#[]⟩, .bool false, .string ⟨#[]⟩, .string ⟨#[]⟩, .int .i64 0, .int .i64 0, .bool false, .bool false, .slice (some ⟨gB, 0, none⟩) 2 2] 26))) := hid (HGU.out.alloc _)
  have KA := hid (KX.out ((w8.alloc (.cells #[.int .i64 1, .int .i64 3, .int .i64 0, .string ⟨#[]⟩, .bool false, .string ⟨#[]⟩, .string ⟨#[]⟩, .int .i64 0, .int .i64 0, .bool false, .bool false, .slice none 0 0] 26)).alloc (.cells #[.int .i64 1, .int .i64 3, .int .i64 0, .string ⟨#[]⟩, .bool false, .string ⟨#[]⟩, .string ⟨#[]⟩, .int .i64 0, .int .i64 0, .bool false, .bool false, .slice none 0 0, .int .i64 9, .int .i64 0, .int .i64 0, .string ⟨#[]⟩, .bool false, .string ⟨#[]⟩, .string ⟨#[]⟩, .int .i64 0, .int .i64 0, .bool false, .bool false, .slice (some ⟨gB, 0, none⟩) 2 2] 26)) (w8.heap.size + 1) #[.int .i64 1, .int .i64 3, .int .i64 0, .string ⟨#[]⟩, .bool false, .string ⟨#[]⟩, .string ⟨#[]⟩, .int .i64 0, .int .i64 0, .bool false, .bool false, .slice none 0 0, .int .i64 9, .int .i64 0, .int .i64 0, .string ⟨#[]⟩, .bool false, .string ⟨#[]⟩, .string ⟨#[]⟩, .int .i64 0, .int .i64 0, .bool false, .bool false, .slice (some ⟨gB, 0, none⟩) 2 2] ((Gr.refl _).alloc _) HGX.out rfl).1
  unfold XR.val Vp pairR at KA
  refine KA.out.mono ?_
  rintro e w12 ⟨rfl, g12⟩
  have G12 : Gr ((w8.alloc (.cells #[.int .i64 1, .int .i64 3, .int .i64 0, .string ⟨#[]⟩, .bool false, .string ⟨#[]⟩, .string ⟨#[]⟩, .int .i64 0, .int .i64 0, .bool false, .bool false, .slice none 0 0] 26)).alloc (.cells #[.int .i64 1, .int .i64 3, .int .i64 0, .string ⟨#[]⟩, .bool false, .string ⟨#[]⟩, .string ⟨#[]⟩, .int .i64 0, .int .i64 0, .bool false, .bool false, .slice none 0 0, .int .i64 9, .int .i64 0, .int .i64 0, .string ⟨#[]⟩, .bool false, .string ⟨#[]⟩, .string ⟨#[]⟩, .int .i64 0, .int .i64 0, .bool false, .bool false, .slice (some ⟨gB, 0, none⟩) 2 2] 26)) (w12.alloc (.cells #[.int .i64 3, .int .i64 0, .string ⟨#[]⟩, .bool false] 23)) := g12.alloc _
  have HX2 : Hid ((w12.alloc (.cells #[.int .i64 3, .int .i64 0, .string ⟨#[]⟩, .bool false] 23)).heap[w8.heap.size + 1]? = some (.cells #[.int .i64 1, .int .i64 3, .int .i64 0, .string ⟨#[]⟩, .bool false, .string ⟨#[]⟩, .string ⟨#[]⟩, .int .i64 0, .int .i64 0, .bool false, .bool false, .slice none 0 0, .int .i64 9, .int .i64 0, .int .i64 0, .string ⟨#[]⟩, .bool false, .string ⟨#[]⟩, .string ⟨#[]⟩, .int .i64 0, .int .i64 0, .bool false, .bool false, .slice (some ⟨gB, 0, none⟩) 2 2] 26 (0, 0))) := hid ((G12.block _ (lt_blk HGX.out)).trans HGX.out)
  have KB := hid (KX.out (w12.alloc (.cells #[.int .i64 3, .int .i64 0, .string ⟨#[]⟩, .bool false] 23)) (w8.heap.size + 1) #[.int .i64 1, .int .i64 3, .int .i64 0, .string ⟨#[]⟩, .bool false, .string ⟨#[]⟩, .string ⟨#[]⟩, .int .i64 0, .int .i64 0, .bool false, .bool false, .slice none 0 0, .int .i64 9, .int .i64 0, .int .i64 0, .string ⟨#[]⟩, .bool false, .string ⟨#[]⟩, .string ⟨#[]⟩, .int .i64 0, .int .i64 0, .bool false, .bool false, .slice (some ⟨gB, 0, none⟩) 2 2] (((Gr.refl _).alloc _).trans G12) HX2.out rfl).2
  have HGV := hid (HGW.out.trans G12)
  unfold XR.val Vp pairR at KB
  clear KA KX HGX HX2 G12 g12 HGW
  go_wp2_with fail
  refine KB.out.mono ?_
  rintro e w13 ⟨rfl, g13⟩
  have HG13 := hid (HGV.out.trans g13)
  have h11 : w13.heap[w12.heap.size]? = some (.cells #[.int .i64 3, .int .i64 0, .string ⟨#[]⟩, .bool false] 23 (0, 0)) := (g13.block _ (lt_blk (alloc_at _ _))).trans (alloc_at _ _)
  have d11 := Rg.blk_cells h11
  have l11 := lt_blk h11
  have l11' : w12.heap.size < w13.heap.size + 1 := Nat.lt_succ_of_lt l11
  clear h11 KB HGV g13
  generalize w12.heap.size = g11 at *
  have s2 := v_same 3 0 ⟨#[]⟩ false
  have s3 := v_same 3 0 ⟨#[]⟩ true
  have tg := v_guard
  have TF := hid (fun W => ltruth_any false W)
  have TT := hid (fun W => ltruth_any true W)
  go_wp2_with fail
  refine Rg.region_text 17 (Below.drew (Below.refl _ _)) (by kernel_rfl) (by kernel_rfl) (fun _ _ d _ _ h => by cases d <;> exact h) ?_
  simp only [List.append_eq, List.cons_append, List.nil_append, List.take_succ_cons, List.take_zero, List.drop_succ_cons, List.drop_zero]
  repeat (first
      | (refine Rg.wpDets_skip (by rfl) ?_; simp only [Act.put, List.setIfInBounds_toArray, List.set_cons_zero, List.set_cons_succ])
      | (refine Rg.wpDets_step ?_ (by rfl) (fun w hS => ?_) ?_
         rotate_left
         · have hc := Gr.cells hS
           have hf := Gr.frees hS
           go_simp
           first
           | (refine ⟨?_, Below.refl _ _⟩; with_reducible rfl)
           | ((with_reducible refine (TF.out _).mono ?_); rintro e w' ⟨rfl, hg⟩; refine ⟨?_, hg⟩; with_reducible rfl)
         simp only [Act.put, List.setIfInBounds_toArray, List.set_cons_zero, List.set_cons_succ]))
  refine Rg.wpDets_nil ?_
  refine Rg.wpFlts_nil ?_
  refine Rg.wpLays_nil ?_
  intro w' hK
  have hg : Gr _ w' := hK.up
  have hc := hg.cells
  have hf := hg.frees
  have hz := hg.size
  try simp only [World.size_alloc, World.size_setCell, World.size_drew] at hz
  try have : 0 < w'.heap.size := by omega
  try have : w.heap.size < w'.heap.size := by omega
  try have : w.heap.size + 1 < w'.heap.size := by omega
  try have : w.heap.size + 1 + 1 < w'.heap.size := by omega
  try have : w.heap.size + 1 + 1 + 1 < w'.heap.size := by omega
  have hgw : Gr (w13.alloc (.cells #[.int .i64 0, .int .i64 0, .string ⟨#[]⟩, .bool false] 23)) w' := hg
  have HG14 := hid ((HG13.out.alloc (.cells #[.int .i64 0, .int .i64 0, .string ⟨#[]⟩, .bool false] 23)).trans hgw)
  have AWu := hid (fun W (h : Rg.Up w' W) => AW.out W (HG14.out.trans h))
  have m11 : g11 < w'.heap.size := Nat.lt_of_lt_of_le l11 (Nat.le_trans (Nat.le_succ _) (by have := hgw.size; rwa [World.size_alloc] at this))
  have m13 : w13.heap.size < w'.heap.size := by have := hgw.size; rw [World.size_alloc] at this; exact this
  clear hgw hg AW TF
  go_wp2_with fail
  refine Rg.region_text 21 (Below.drew (Below.refl _ _)) (by kernel_rfl) (by kernel_rfl) (fun _ _ d _ _ h => by cases d <;> exact h) ?_
  simp only [List.append_eq, List.cons_append, List.nil_append, List.take_succ_cons, List.take_zero, List.drop_succ_cons, List.drop_zero]
  repeat (first
      | (refine Rg.wpDets_skip (by rfl) ?_; simp only [Act.put, List.setIfInBounds_toArray, List.set_cons_zero, List.set_cons_succ])
      | (refine Rg.wpDets_step ?_ (by rfl) (fun w hS => ?_) ?_
         rotate_left
         · have hc := Gr.cells hS
           have hf := Gr.frees hS
           go_simp
           first
           | (refine ⟨?_, Below.refl _ _⟩; with_reducible rfl)
           | ((with_reducible refine (TT.out _).mono ?_); rintro e w' ⟨rfl, hg⟩; refine ⟨?_, hg⟩; with_reducible rfl)
           | ((with_reducible refine (AWu.out _ hS).mono ?_); rintro e w' ⟨rfl, hg⟩; refine ⟨?_, hg⟩; with_reducible rfl)
         simp only [Act.put, List.setIfInBounds_toArray, List.set_cons_zero, List.set_cons_succ]))
  refine Rg.wpDets_nil ?_
  refine Rg.wpFlts_nil ?_
  refine Rg.wpLays_nil ?_
  intro w' hK
  have hg : Gr _ w' := hK.up
  have hc := hg.cells
  have hf := hg.frees
  have hz := hg.size
  try simp only [World.size_alloc, World.size_setCell, World.size_drew] at hz
  try have : 0 < w'.heap.size := by omega
  try have : w.heap.size < w'.heap.size := by omega
  try have : w.heap.size + 1 < w'.heap.size := by omega
  try have : w.heap.size + 1 + 1 < w'.heap.size := by omega
  try have : w.heap.size + 1 + 1 + 1 < w'.heap.size := by omega
  have hG2 := HG14.out.trans hg
  clear hg
  go_wp2
  go_returns
  exact ⟨rfl, hG2⟩
set_option maxHeartbeats 64000000 in
set_option maxRecDepth 100000 in
theorem sh_001 (w : World) (m : Int) (hm : w.cell? ⟨0, 0, none⟩ = some (.int .i64 m)) : Calls Tryz.prog 4 #[.bool false, .bool false, .bool true] w fun e w' => e = .returned (.bool true) ∧ Gr w w' := by
  have N1 : Hid (∀ W, _) := hid (fun W => lit_s (numV 1) W)
  have N0 : Hid (∀ W, _) := hid (fun W => lit_s (numV 0) W)
  have I1 : Hid (∀ W, _) := hid (fun W => lint_any 1 W)
  have I0 : Hid (∀ W, _) := hid (fun W => lint_any 0 W)
  have B1 : Hid (∀ W, _) := hid (fun W => lit_s (boolV false) W)
  have B0 : Hid (∀ W, _) := hid (fun W => lit_s (boolV true) W)
  have T1 : Hid (∀ W, _) := hid (fun W => ltruth_any false W)
  have T0 : Hid (∀ W, _) := hid (fun W => ltruth_any true W)
  have AW : Hid (∀ W, Gr w W → _) := hid (fun W h => eawake_any W m (Gr.keep h hm))
  clear hm
  unfold numV boolV V.val XR.val xlR at *
  go_enter Tryz.func4, Tryz.ntmps4
  go_wp2_with fail
  refine (I1.out _).mono ?_
  rintro e w1 ⟨rfl, g1⟩
  go_wp2_with fail
  refine (N1.out _).mono ?_
  rintro e w2 ⟨rfl, g2⟩
  go_wp2_with fail
  refine (I0.out _).mono ?_
  rintro e w3 ⟨rfl, g3⟩
  go_wp2_with fail
  refine (N0.out _).mono ?_
  rintro e w4 ⟨rfl, g4⟩
  have HG4 := hid ((g1.trans g2).trans (g3.trans g4))
  clear g1 g2 g3 g4
  go_wp2_with fail
  refine (I1.out _).mono ?_
  rintro e w5 ⟨rfl, g5⟩
  go_wp2_with fail
  refine (N1.out _).mono ?_
  rintro e w6 ⟨rfl, g6⟩
  have HG6 := hid ((HG4.out.alloc _).trans (g5.trans g6))
  have HD6 : Hid (w6.heap[w4.heap.size]? = some (.cells #[.int .i64 1, .int .i64 1, .int .i64 1, .string ⟨#[]⟩, .bool false, .string ⟨#[]⟩, .string ⟨#[]⟩, .int .i64 0, .int .i64 0, .bool false, .bool false, .slice none 0 0, .int .i64 1, .int .i64 1, .int .i64 0, .string ⟨#[]⟩, .bool false, .string ⟨#[]⟩, .string ⟨#[]⟩, .int .i64 0, .int .i64 0, .bool false, .bool false, .slice none 0 0] 26 (0, 0))) := hid (((g5.trans g6).block _ (lt_blk (alloc_at _ _))).trans (alloc_at _ _))
  clear g5 g6 HG4 I1 N1 I0 N0
  generalize w4.heap.size = gA at *
  go_wp2_with fail
  refine (T1.out _).mono ?_
  rintro e w7 ⟨rfl, g7⟩
  have HG7 : Hid (Gr w w7) := hid (((HG6.out.alloc _).alloc _).trans g7)
  have HD7 : Hid (w7.heap[gA]? = some (.cells #[.int .i64 1, .int .i64 1, .int .i64 1, .string ⟨#[]⟩, .bool false, .string ⟨#[]⟩, .string ⟨#[]⟩, .int .i64 0, .int .i64 0, .bool false, .bool false, .slice none 0 0, .int .i64 1, .int .i64 1, .int .i64 0, .string ⟨#[]⟩, .bool false, .string ⟨#[]⟩, .string ⟨#[]⟩, .int .i64 0, .int .i64 0, .bool false, .bool false, .slice none 0 0] 26 (0, 0))) := hid (((((Gr.refl w6).alloc _).alloc _).trans g7 |>.block _ (lt_blk HD6.out)).trans HD6.out)
  have HB7 : Hid (w7.heap[w6.heap.size]? = some (.cells #[.int .i64 21, .int .i64 0, .int .i64 0, .string ⟨#[]⟩, .bool false, .string ⟨#[]⟩, .string ⟨#[]⟩, .int .i64 0, .int .i64 0, .bool false, .bool false, .slice (some ⟨gA, 0, none⟩) 2 2, .int .i64 1, .int .i64 1, .int .i64 1, .string ⟨#[]⟩, .bool false, .string ⟨#[]⟩, .string ⟨#[]⟩, .int .i64 0, .int .i64 0, .bool false, .bool false, .slice none 0 0] 26 (0, 0))) := hid ((g7.block _ (by rw [World.size_alloc, World.size_alloc]; exact Nat.lt_succ_of_lt (Nat.lt_succ_self _))).trans ((((Gr.refl _).alloc _).block _ (by rw [World.size_alloc]; exact Nat.lt_succ_self _)).trans (alloc_at _ _)))
  have HX7 : Hid (w7.heap[w6.heap.size + 1]? = some (.cells #[.int .i64 9, .int .i64 0, .int .i64 0, .string ⟨#[]⟩, .bool false, .string ⟨#[]⟩, .string ⟨#[]⟩, .int .i64 0, .int .i64 0, .bool false, .bool false, .slice (some ⟨w6.heap.size, 0, none⟩) 2 2] 26 (0, 0))) := hid ((g7.block _ (by rw [World.size_alloc, World.size_alloc]; exact Nat.lt_succ_self _)).trans (alloc_two _ _ _))
  clear g7 HG6 HD6 T1
  generalize w6.heap.size + 1 = g8 at *
  generalize w6.heap.size = gB at *
  have HAT : Hid (Ex.At Al w7 badE (⟨{ op := 9 }, some ⟨gB, 0, none⟩, 2, 2⟩ : XR)) := hid (form_at HB7.out rfl (Exs.At.cons (form_at HD7.out rfl (Exs.At.cons (lit_at (numV 1) w7) (Exs.At.cons (lit_at (numV 0) w7) Exs.At.nil)) rfl (by decide)) (Exs.At.cons (lit_at (numV 1) w7) Exs.At.nil)) rfl (by decide))
  clear HD7 HB7
  go_wp2_with fail
  refine (B1.out _).mono ?_
  rintro e w8 ⟨rfl, g8'⟩
  have HG8 := hid (HG7.out.trans g8')
  have HAT8 := hid (at_gr HAT.out g8')
  have HX8 := hid ((g8'.block _ (lt_blk HX7.out)).trans HX7.out)
  clear g8' HG7 HAT HX7 B1
  go_wp2_with fail
  refine (T0.out _).mono ?_
  rintro e w9 ⟨rfl, g9⟩
  go_wp2_with fail
  refine (B0.out _).mono ?_
  rintro e w10 ⟨rfl, g10⟩
  have gg : Gr w8 w10 := ((Gr.refl w8).alloc _).trans (g9.trans g10)
  have H910 : w10.heap[w8.heap.size]? = some (.cells #[.int .i64 1, .int .i64 3, .int .i64 0, .string ⟨#[]⟩, .bool false, .string ⟨#[]⟩, .string ⟨#[]⟩, .int .i64 0, .int .i64 0, .bool false, .bool false, .slice none 0 0] 26 (0, 0)) := ((g9.trans g10).block _ (lt_blk (alloc_at _ _))).trans (alloc_at _ _)
  have l910 := lt_blk H910
  have HN10 : Hid ((w10.alloc (.cells #[.int .i64 1, .int .i64 3, .int .i64 0, .string ⟨#[]⟩, .bool true, .string ⟨#[]⟩, .string ⟨#[]⟩, .int .i64 0, .int .i64 0, .bool false, .bool false, .slice none 0 0] 26)).heap[w8.heap.size]? = some (.cells #[.int .i64 1, .int .i64 3, .int .i64 0, .string ⟨#[]⟩, .bool false, .string ⟨#[]⟩, .string ⟨#[]⟩, .int .i64 0, .int .i64 0, .bool false, .bool false, .slice none 0 0] 26 (0, 0))) := hid ((((Gr.refl w10).alloc _).block _ l910).trans H910)
  have SU : Hid (∀ U, Go1 w8.heap.size (w10.alloc (.cells #[.int .i64 1, .int .i64 3, .int .i64 0, .string ⟨#[]⟩, .bool true, .string ⟨#[]⟩, .string ⟨#[]⟩, .int .i64 0, .int .i64 0, .bool false, .bool false, .slice none 0 0] 26)) U → Gr w U ∧ Ex.At Al U badE (⟨{ op := 9 }, some ⟨gB, 0, none⟩, 2, 2⟩ : XR) ∧ Ex.At Al U (trE false true) (⟨{ op := 8 }, some ⟨w10.heap.size, 0, none⟩, 1, 1⟩ : XR) ∧ U.heap[g8]? = some (.cells #[.int .i64 9, .int .i64 0, .int .i64 0, .string ⟨#[]⟩, .bool false, .string ⟨#[]⟩, .string ⟨#[]⟩, .int .i64 0, .int .i64 0, .bool false, .bool false, .slice (some ⟨gB, 0, none⟩) 2 2] 26 (0, 0))) := hid (fun U gU => by
    have hlow : ∀ b, b < w8.heap.size → U.heap[b]? = w8.heap[b]? := fun b hb => (gU.get (by rw [World.size_alloc]; exact Nat.lt_succ_of_lt (Nat.lt_trans hb l910)) (Nat.ne_of_lt hb)).trans ((((Gr.refl w10).alloc _).block _ (Nat.lt_trans hb l910)).trans (gg.block _ hb))
    have hsz : w8.heap.size ≤ U.heap.size := Nat.le_trans (Nat.le_of_lt l910) (Nat.le_trans (by rw [World.size_alloc]; exact Nat.le_succ _) gU.size)
    refine ⟨((HG8.out.trans gg).alloc _).grown gU (fun k e => by cases e; exact HG8.out.size), ?_, ?_, (hlow _ (lt_blk HX8.out)).trans HX8.out⟩
    · exact ((HAT8.out.mono (S' := fun b => b < w8.heap.size) (fun b hb _ => hb)).of hsz (fun b hb _ => hlow b hb)).mono (fun _ _ _ => trivial)
    · exact form_at ((gU.get (by rw [World.size_alloc]; exact Nat.lt_succ_self _) (Nat.ne_of_gt l910)).trans (alloc_at w10 _)) rfl (Exs.At.cons (lit_at (boolV true) U) Exs.At.nil) rfl (by decide))
  clear gg g9 g10 HG8 HAT8 HX8 T0 B0 H910
  go_wp2_with (guard_target =~ wpList _ _ _ (Oper.mk _ (Op.store 26 (Operand.tmp 9) _) _ _ _ _ :: _) _ _; refine st_row (ty := 26) rfl rfl w8.heap.size #[.int .i64 8, .int .i64 0, .int .i64 0, .string ⟨#[]⟩, .bool false, .string ⟨#[]⟩, .string ⟨#[]⟩, .int .i64 0, .int .i64 0, .bool false, .bool false, .slice (some ⟨w10.heap.size, 0, none⟩) 1 1] rfl rfl 26 _ HN10.out (by kernel_rfl) rfl (by kernel_rfl) ?_; intro U hU gU zU; obtain ⟨hGU, hAU, hTU, c8⟩ := SU.out U gU; have HGU := hid hGU; have HAU := hid hAU; have HTU := hid hTU; have c9 := Rg.blk_cells hU; have c8c := Rg.blk_cells c8; have l8 := lt_blk c8; have l9 := lt_blk hU; clear gU zU hU c8 hGU hAU hTU SU HN10)
  have KX : Hid (∀ W g cs, Gr U W → W.heap[g]? = some (.cells cs 26 (0, 0)) → cs.toList = cellsF xF [(⟨{ op := 8 }, some ⟨w10.heap.size, 0, none⟩, 1, 1⟩ : XR), (⟨{ op := 9 }, some ⟨gB, 0, none⟩, 2, 2⟩ : XR)] → Calls Tryz.prog 8 #[XR.val ⟨{ op := 7 }, some ⟨g, 0, none⟩, 2, 2⟩, .slice none 0 0, .slice none 0 0] W (Vp (⟨3, 0, ⟨#[]⟩, false⟩, 0) W) ∧ Calls Tryz.prog 8 #[XR.val ⟨{ op := 6 }, some ⟨g, 0, none⟩, 2, 2⟩, .slice none 0 0, .slice none 0 0] W (Vp (⟨0, 0, ⟨#[]⟩, false⟩, 162) W)) := hid (fun W g cs G hg hcs => ⟨sh_call 7 (.inl rfl) false false true [(⟨{ op := 8 }, some ⟨w10.heap.size, 0, none⟩, 1, 1⟩ : XR), (⟨{ op := 9 }, some ⟨gB, 0, none⟩, 2, 2⟩ : XR)] W g cs hg hcs (Exs.At.cons (at_gr HTU.out G) (Exs.At.cons (at_gr HAU.out G) Exs.At.nil)) _ (and_ev false false true), sh_call 6 (.inr rfl) false false true [(⟨{ op := 8 }, some ⟨w10.heap.size, 0, none⟩, 1, 1⟩ : XR), (⟨{ op := 9 }, some ⟨gB, 0, none⟩, 2, 2⟩ : XR)] W g cs hg hcs (Exs.At.cons (at_gr HTU.out G) (Exs.At.cons (at_gr HAU.out G) Exs.At.nil)) _ (or_ev false false true)⟩)
  clear HAU HTU
  have HGX : Hid (((U.alloc (.cells #[.int .i64 8, .int .i64 0, .int .i64 0, .string ⟨#[]⟩, .bool false, .string ⟨#[]⟩, .string ⟨#[]⟩, .int .i64 0, .int .i64 0, .bool false, .bool false, .slice (some ⟨w10.heap.size, 0, none⟩) 1 1, .int .i64 9, .int .i64 0, .int .i64 0, .string ⟨#[]⟩, .bool false, .string ⟨#[]⟩, .string ⟨#[]⟩, .int .i64 0, .int .i64 0, .bool false, .bool false, .slice (some ⟨gB, 0, none⟩) 2 2] 26))).heap[U.heap.size]? = some (.cells #[.int .i64 8, .int .i64 0, .int .i64 0, .string ⟨#[]⟩, .bool false, .string ⟨#[]⟩, .string ⟨#[]⟩, .int .i64 0, .int .i64 0, .bool false, .bool false, .slice (some ⟨w10.heap.size, 0, none⟩) 1 1, .int .i64 9, .int .i64 0, .int .i64 0, .string ⟨#[]⟩, .bool false, .string ⟨#[]⟩, .string ⟨#[]⟩, .int .i64 0, .int .i64 0, .bool false, .bool false, .slice (some ⟨gB, 0, none⟩) 2 2] 26 (0, 0))) := hid (alloc_at _ _)
  have HGW : Hid (Gr w (U.alloc (.cells #[.int .i64 8, .int .i64 0, .int .i64 0, .string ⟨#[]⟩, .bool false, .string ⟨#[]⟩, .string ⟨#[]⟩, .int .i64 0, .int .i64 0, .bool false, .bool false, .slice (some ⟨w10.heap.size, 0, none⟩) 1 1, .int .i64 9, .int .i64 0, .int .i64 0, .string ⟨#[]⟩, .bool false, .string ⟨#[]⟩, .string ⟨#[]⟩, .int .i64 0, .int .i64 0, .bool false, .bool false, .slice (some ⟨gB, 0, none⟩) 2 2] 26))) := hid (HGU.out.alloc _)
  have KA := hid (KX.out (U.alloc (.cells #[.int .i64 8, .int .i64 0, .int .i64 0, .string ⟨#[]⟩, .bool false, .string ⟨#[]⟩, .string ⟨#[]⟩, .int .i64 0, .int .i64 0, .bool false, .bool false, .slice (some ⟨w10.heap.size, 0, none⟩) 1 1, .int .i64 9, .int .i64 0, .int .i64 0, .string ⟨#[]⟩, .bool false, .string ⟨#[]⟩, .string ⟨#[]⟩, .int .i64 0, .int .i64 0, .bool false, .bool false, .slice (some ⟨gB, 0, none⟩) 2 2] 26)) (U.heap.size) #[.int .i64 8, .int .i64 0, .int .i64 0, .string ⟨#[]⟩, .bool false, .string ⟨#[]⟩, .string ⟨#[]⟩, .int .i64 0, .int .i64 0, .bool false, .bool false, .slice (some ⟨w10.heap.size, 0, none⟩) 1 1, .int .i64 9, .int .i64 0, .int .i64 0, .string ⟨#[]⟩, .bool false, .string ⟨#[]⟩, .string ⟨#[]⟩, .int .i64 0, .int .i64 0, .bool false, .bool false, .slice (some ⟨gB, 0, none⟩) 2 2] ((Gr.refl _).alloc _) HGX.out rfl).1
  unfold XR.val Vp pairR at KA
  refine KA.out.mono ?_
  rintro e w12 ⟨rfl, g12⟩
  have G12 : Gr (U.alloc (.cells #[.int .i64 8, .int .i64 0, .int .i64 0, .string ⟨#[]⟩, .bool false, .string ⟨#[]⟩, .string ⟨#[]⟩, .int .i64 0, .int .i64 0, .bool false, .bool false, .slice (some ⟨w10.heap.size, 0, none⟩) 1 1, .int .i64 9, .int .i64 0, .int .i64 0, .string ⟨#[]⟩, .bool false, .string ⟨#[]⟩, .string ⟨#[]⟩, .int .i64 0, .int .i64 0, .bool false, .bool false, .slice (some ⟨gB, 0, none⟩) 2 2] 26)) (w12.alloc (.cells #[.int .i64 3, .int .i64 0, .string ⟨#[]⟩, .bool false] 23)) := g12.alloc _
  have HX2 : Hid ((w12.alloc (.cells #[.int .i64 3, .int .i64 0, .string ⟨#[]⟩, .bool false] 23)).heap[U.heap.size]? = some (.cells #[.int .i64 8, .int .i64 0, .int .i64 0, .string ⟨#[]⟩, .bool false, .string ⟨#[]⟩, .string ⟨#[]⟩, .int .i64 0, .int .i64 0, .bool false, .bool false, .slice (some ⟨w10.heap.size, 0, none⟩) 1 1, .int .i64 9, .int .i64 0, .int .i64 0, .string ⟨#[]⟩, .bool false, .string ⟨#[]⟩, .string ⟨#[]⟩, .int .i64 0, .int .i64 0, .bool false, .bool false, .slice (some ⟨gB, 0, none⟩) 2 2] 26 (0, 0))) := hid ((G12.block _ (lt_blk HGX.out)).trans HGX.out)
  have KB := hid (KX.out (w12.alloc (.cells #[.int .i64 3, .int .i64 0, .string ⟨#[]⟩, .bool false] 23)) (U.heap.size) #[.int .i64 8, .int .i64 0, .int .i64 0, .string ⟨#[]⟩, .bool false, .string ⟨#[]⟩, .string ⟨#[]⟩, .int .i64 0, .int .i64 0, .bool false, .bool false, .slice (some ⟨w10.heap.size, 0, none⟩) 1 1, .int .i64 9, .int .i64 0, .int .i64 0, .string ⟨#[]⟩, .bool false, .string ⟨#[]⟩, .string ⟨#[]⟩, .int .i64 0, .int .i64 0, .bool false, .bool false, .slice (some ⟨gB, 0, none⟩) 2 2] (((Gr.refl _).alloc _).trans G12) HX2.out rfl).2
  have HGV := hid (HGW.out.trans G12)
  unfold XR.val Vp pairR at KB
  clear KA KX HGX HX2 G12 g12 HGW
  go_wp2_with fail
  refine KB.out.mono ?_
  rintro e w13 ⟨rfl, g13⟩
  have HG13 := hid (HGV.out.trans g13)
  have h11 : w13.heap[w12.heap.size]? = some (.cells #[.int .i64 3, .int .i64 0, .string ⟨#[]⟩, .bool false] 23 (0, 0)) := (g13.block _ (lt_blk (alloc_at _ _))).trans (alloc_at _ _)
  have d11 := Rg.blk_cells h11
  have l11 := lt_blk h11
  have l11' : w12.heap.size < w13.heap.size + 1 := Nat.lt_succ_of_lt l11
  clear h11 KB HGV g13
  generalize w12.heap.size = g11 at *
  have s2 := v_same 3 0 ⟨#[]⟩ false
  have s3 := v_same 3 0 ⟨#[]⟩ true
  have tg := v_guard
  have TF := hid (fun W => ltruth_any false W)
  have TT := hid (fun W => ltruth_any true W)
  go_wp2_with fail
  refine Rg.region_text 17 (Below.drew (Below.refl _ _)) (by kernel_rfl) (by kernel_rfl) (fun _ _ d _ _ h => by cases d <;> exact h) ?_
  simp only [List.append_eq, List.cons_append, List.nil_append, List.take_succ_cons, List.take_zero, List.drop_succ_cons, List.drop_zero]
  repeat (first
      | (refine Rg.wpDets_skip (by rfl) ?_; simp only [Act.put, List.setIfInBounds_toArray, List.set_cons_zero, List.set_cons_succ])
      | (refine Rg.wpDets_step ?_ (by rfl) (fun w hS => ?_) ?_
         rotate_left
         · have hc := Gr.cells hS
           have hf := Gr.frees hS
           go_simp
           first
           | (refine ⟨?_, Below.refl _ _⟩; with_reducible rfl)
           | ((with_reducible refine (TF.out _).mono ?_); rintro e w' ⟨rfl, hg⟩; refine ⟨?_, hg⟩; with_reducible rfl)
         simp only [Act.put, List.setIfInBounds_toArray, List.set_cons_zero, List.set_cons_succ]))
  refine Rg.wpDets_nil ?_
  refine Rg.wpFlts_nil ?_
  refine Rg.wpLays_nil ?_
  intro w' hK
  have hg : Gr _ w' := hK.up
  have hc := hg.cells
  have hf := hg.frees
  have hz := hg.size
  try simp only [World.size_alloc, World.size_setCell, World.size_drew] at hz
  try have : 0 < w'.heap.size := by omega
  try have : w.heap.size < w'.heap.size := by omega
  try have : w.heap.size + 1 < w'.heap.size := by omega
  try have : w.heap.size + 1 + 1 < w'.heap.size := by omega
  try have : w.heap.size + 1 + 1 + 1 < w'.heap.size := by omega
  have hgw : Gr (w13.alloc (.cells #[.int .i64 0, .int .i64 0, .string ⟨#[]⟩, .bool false] 23)) w' := hg
  have HG14 := hid ((HG13.out.alloc (.cells #[.int .i64 0, .int .i64 0, .string ⟨#[]⟩, .bool false] 23)).trans hgw)
  have AWu := hid (fun W (h : Rg.Up w' W) => AW.out W (HG14.out.trans h))
  have m11 : g11 < w'.heap.size := Nat.lt_of_lt_of_le l11 (Nat.le_trans (Nat.le_succ _) (by have := hgw.size; rwa [World.size_alloc] at this))
  have m13 : w13.heap.size < w'.heap.size := by have := hgw.size; rw [World.size_alloc] at this; exact this
  clear hgw hg AW TF
  go_wp2_with fail
  refine Rg.region_text 21 (Below.drew (Below.refl _ _)) (by kernel_rfl) (by kernel_rfl) (fun _ _ d _ _ h => by cases d <;> exact h) ?_
  simp only [List.append_eq, List.cons_append, List.nil_append, List.take_succ_cons, List.take_zero, List.drop_succ_cons, List.drop_zero]
  repeat (first
      | (refine Rg.wpDets_skip (by rfl) ?_; simp only [Act.put, List.setIfInBounds_toArray, List.set_cons_zero, List.set_cons_succ])
      | (refine Rg.wpDets_step ?_ (by rfl) (fun w hS => ?_) ?_
         rotate_left
         · have hc := Gr.cells hS
           have hf := Gr.frees hS
           go_simp
           first
           | (refine ⟨?_, Below.refl _ _⟩; with_reducible rfl)
           | ((with_reducible refine (TT.out _).mono ?_); rintro e w' ⟨rfl, hg⟩; refine ⟨?_, hg⟩; with_reducible rfl)
           | ((with_reducible refine (AWu.out _ hS).mono ?_); rintro e w' ⟨rfl, hg⟩; refine ⟨?_, hg⟩; with_reducible rfl)
         simp only [Act.put, List.setIfInBounds_toArray, List.set_cons_zero, List.set_cons_succ]))
  refine Rg.wpDets_nil ?_
  refine Rg.wpFlts_nil ?_
  refine Rg.wpLays_nil ?_
  intro w' hK
  have hg : Gr _ w' := hK.up
  have hc := hg.cells
  have hf := hg.frees
  have hz := hg.size
  try simp only [World.size_alloc, World.size_setCell, World.size_drew] at hz
  try have : 0 < w'.heap.size := by omega
  try have : w.heap.size < w'.heap.size := by omega
  try have : w.heap.size + 1 < w'.heap.size := by omega
  try have : w.heap.size + 1 + 1 < w'.heap.size := by omega
  try have : w.heap.size + 1 + 1 + 1 < w'.heap.size := by omega
  have hG2 := HG14.out.trans hg
  clear hg
  go_wp2
  go_returns
  exact ⟨rfl, hG2⟩
set_option maxHeartbeats 64000000 in
set_option maxRecDepth 100000 in
theorem sh_010 (w : World) (m : Int) (hm : w.cell? ⟨0, 0, none⟩ = some (.int .i64 m)) : Calls Tryz.prog 4 #[.bool false, .bool true, .bool false] w fun e w' => e = .returned (.bool true) ∧ Gr w w' := by
  have N1 : Hid (∀ W, _) := hid (fun W => lit_s (numV 1) W)
  have N0 : Hid (∀ W, _) := hid (fun W => lit_s (numV 0) W)
  have I1 : Hid (∀ W, _) := hid (fun W => lint_any 1 W)
  have I0 : Hid (∀ W, _) := hid (fun W => lint_any 0 W)
  have B1 : Hid (∀ W, _) := hid (fun W => lit_s (boolV false) W)
  have B0 : Hid (∀ W, _) := hid (fun W => lit_s (boolV true) W)
  have T1 : Hid (∀ W, _) := hid (fun W => ltruth_any false W)
  have T0 : Hid (∀ W, _) := hid (fun W => ltruth_any true W)
  have AW : Hid (∀ W, Gr w W → _) := hid (fun W h => eawake_any W m (Gr.keep h hm))
  clear hm
  unfold numV boolV V.val XR.val xlR at *
  go_enter Tryz.func4, Tryz.ntmps4
  go_wp2_with fail
  refine (I1.out _).mono ?_
  rintro e w1 ⟨rfl, g1⟩
  go_wp2_with fail
  refine (N1.out _).mono ?_
  rintro e w2 ⟨rfl, g2⟩
  go_wp2_with fail
  refine (I0.out _).mono ?_
  rintro e w3 ⟨rfl, g3⟩
  go_wp2_with fail
  refine (N0.out _).mono ?_
  rintro e w4 ⟨rfl, g4⟩
  have HG4 := hid ((g1.trans g2).trans (g3.trans g4))
  clear g1 g2 g3 g4
  go_wp2_with fail
  refine (I1.out _).mono ?_
  rintro e w5 ⟨rfl, g5⟩
  go_wp2_with fail
  refine (N1.out _).mono ?_
  rintro e w6 ⟨rfl, g6⟩
  have HG6 := hid ((HG4.out.alloc _).trans (g5.trans g6))
  have HD6 : Hid (w6.heap[w4.heap.size]? = some (.cells #[.int .i64 1, .int .i64 1, .int .i64 1, .string ⟨#[]⟩, .bool false, .string ⟨#[]⟩, .string ⟨#[]⟩, .int .i64 0, .int .i64 0, .bool false, .bool false, .slice none 0 0, .int .i64 1, .int .i64 1, .int .i64 0, .string ⟨#[]⟩, .bool false, .string ⟨#[]⟩, .string ⟨#[]⟩, .int .i64 0, .int .i64 0, .bool false, .bool false, .slice none 0 0] 26 (0, 0))) := hid (((g5.trans g6).block _ (lt_blk (alloc_at _ _))).trans (alloc_at _ _))
  clear g5 g6 HG4 I1 N1 I0 N0
  generalize w4.heap.size = gA at *
  go_wp2_with fail
  refine (T1.out _).mono ?_
  rintro e w7 ⟨rfl, g7⟩
  have HG7 : Hid (Gr w w7) := hid (((HG6.out.alloc _).alloc _).trans g7)
  have HD7 : Hid (w7.heap[gA]? = some (.cells #[.int .i64 1, .int .i64 1, .int .i64 1, .string ⟨#[]⟩, .bool false, .string ⟨#[]⟩, .string ⟨#[]⟩, .int .i64 0, .int .i64 0, .bool false, .bool false, .slice none 0 0, .int .i64 1, .int .i64 1, .int .i64 0, .string ⟨#[]⟩, .bool false, .string ⟨#[]⟩, .string ⟨#[]⟩, .int .i64 0, .int .i64 0, .bool false, .bool false, .slice none 0 0] 26 (0, 0))) := hid (((((Gr.refl w6).alloc _).alloc _).trans g7 |>.block _ (lt_blk HD6.out)).trans HD6.out)
  have HB7 : Hid (w7.heap[w6.heap.size]? = some (.cells #[.int .i64 21, .int .i64 0, .int .i64 0, .string ⟨#[]⟩, .bool false, .string ⟨#[]⟩, .string ⟨#[]⟩, .int .i64 0, .int .i64 0, .bool false, .bool false, .slice (some ⟨gA, 0, none⟩) 2 2, .int .i64 1, .int .i64 1, .int .i64 1, .string ⟨#[]⟩, .bool false, .string ⟨#[]⟩, .string ⟨#[]⟩, .int .i64 0, .int .i64 0, .bool false, .bool false, .slice none 0 0] 26 (0, 0))) := hid ((g7.block _ (by rw [World.size_alloc, World.size_alloc]; exact Nat.lt_succ_of_lt (Nat.lt_succ_self _))).trans ((((Gr.refl _).alloc _).block _ (by rw [World.size_alloc]; exact Nat.lt_succ_self _)).trans (alloc_at _ _)))
  have HX7 : Hid (w7.heap[w6.heap.size + 1]? = some (.cells #[.int .i64 9, .int .i64 0, .int .i64 0, .string ⟨#[]⟩, .bool false, .string ⟨#[]⟩, .string ⟨#[]⟩, .int .i64 0, .int .i64 0, .bool false, .bool false, .slice (some ⟨w6.heap.size, 0, none⟩) 2 2] 26 (0, 0))) := hid ((g7.block _ (by rw [World.size_alloc, World.size_alloc]; exact Nat.lt_succ_self _)).trans (alloc_two _ _ _))
  clear g7 HG6 HD6 T1
  generalize w6.heap.size + 1 = g8 at *
  generalize w6.heap.size = gB at *
  have HAT : Hid (Ex.At Al w7 badE (⟨{ op := 9 }, some ⟨gB, 0, none⟩, 2, 2⟩ : XR)) := hid (form_at HB7.out rfl (Exs.At.cons (form_at HD7.out rfl (Exs.At.cons (lit_at (numV 1) w7) (Exs.At.cons (lit_at (numV 0) w7) Exs.At.nil)) rfl (by decide)) (Exs.At.cons (lit_at (numV 1) w7) Exs.At.nil)) rfl (by decide))
  clear HD7 HB7
  go_wp2_with fail
  refine (B1.out _).mono ?_
  rintro e w8 ⟨rfl, g8'⟩
  have HG8 := hid (HG7.out.trans g8')
  have HAT8 := hid (at_gr HAT.out g8')
  have HX8 := hid ((g8'.block _ (lt_blk HX7.out)).trans HX7.out)
  clear g8' HG7 HAT HX7 B1
  have HGU := hid (HG8.out.alloc (.cells #[.int .i64 1, .int .i64 3, .int .i64 0, .string ⟨#[]⟩, .bool false, .string ⟨#[]⟩, .string ⟨#[]⟩, .int .i64 0, .int .i64 0, .bool false, .bool false, .slice none 0 0] 26))
  have HAU := hid (at_gr HAT8.out ((Gr.refl w8).alloc (.cells #[.int .i64 1, .int .i64 3, .int .i64 0, .string ⟨#[]⟩, .bool false, .string ⟨#[]⟩, .string ⟨#[]⟩, .int .i64 0, .int .i64 0, .bool false, .bool false, .slice none 0 0] 26)))
  have HTU : Hid (Ex.At Al (w8.alloc (.cells #[.int .i64 1, .int .i64 3, .int .i64 0, .string ⟨#[]⟩, .bool false, .string ⟨#[]⟩, .string ⟨#[]⟩, .int .i64 0, .int .i64 0, .bool false, .bool false, .slice none 0 0] 26)) (trE false false) (xlR (boolV false))) := hid (lit_at _ _)
  have c8c := Rg.blk_cells HX8.out
  have l8 := lt_blk HX8.out
  clear HG8 HAT8 HX8 T0 B0
  go_wp2_with fail
  have KX : Hid (∀ W g cs, Gr (w8.alloc (.cells #[.int .i64 1, .int .i64 3, .int .i64 0, .string ⟨#[]⟩, .bool false, .string ⟨#[]⟩, .string ⟨#[]⟩, .int .i64 0, .int .i64 0, .bool false, .bool false, .slice none 0 0] 26)) W → W.heap[g]? = some (.cells cs 26 (0, 0)) → cs.toList = cellsF xF [(⟨{ op := 9 }, some ⟨gB, 0, none⟩, 2, 2⟩ : XR), (xlR (boolV false))] → Calls Tryz.prog 8 #[XR.val ⟨{ op := 7 }, some ⟨g, 0, none⟩, 2, 2⟩, .slice none 0 0, .slice none 0 0] W (Vp (⟨0, 0, ⟨#[]⟩, false⟩, 162) W) ∧ Calls Tryz.prog 8 #[XR.val ⟨{ op := 6 }, some ⟨g, 0, none⟩, 2, 2⟩, .slice none 0 0, .slice none 0 0] W (Vp (⟨0, 0, ⟨#[]⟩, false⟩, 162) W)) := hid (fun W g cs G hg hcs => ⟨sh_call 7 (.inl rfl) false true false [(⟨{ op := 9 }, some ⟨gB, 0, none⟩, 2, 2⟩ : XR), (xlR (boolV false))] W g cs hg hcs (Exs.At.cons (at_gr HAU.out G) (Exs.At.cons (at_gr HTU.out G) Exs.At.nil)) _ (and_ev false true false), sh_call 6 (.inr rfl) false true false [(⟨{ op := 9 }, some ⟨gB, 0, none⟩, 2, 2⟩ : XR), (xlR (boolV false))] W g cs hg hcs (Exs.At.cons (at_gr HAU.out G) (Exs.At.cons (at_gr HTU.out G) Exs.At.nil)) _ (or_ev false true false)⟩)
  clear HAU HTU
  have HGX : Hid (((((w8.alloc (.cells #[.int .i64 1, .int .i64 3, .int .i64 0, .string ⟨#[]⟩, .bool false, .string ⟨#[]⟩, .string ⟨#[]⟩, .int .i64 0, .int .i64 0, .bool false, .bool false, .slice none 0 0] 26)).alloc (.cells #[.int .i64 1, .int .i64 3, .int .i64 0, .string ⟨#[]⟩, .bool false, .string ⟨#[]⟩, .string ⟨#[]⟩, .int .i64 0, .int .i64 0, .bool false, .bool false, .slice none 0 0, .int .i64 9, .int .i64 0, .int .i64 0, .string ⟨#[]⟩, .bool false, .string ⟨#[]⟩, .string ⟨#[]⟩, .int .i64 0, .int .i64 0, .bool false, .bool false, .slice (some ⟨gB, 0, none⟩) 2 2] 26)).alloc (.cells #[.int .i64 9, .int .i64 0, .int .i64 0, .string ⟨#[]⟩, .bool false, .string ⟨#[]⟩, .string ⟨#[]⟩, .int .i64 0, .int .i64 0, .bool false, .bool false, .slice (some ⟨gB, 0, none⟩) 2 2, .int .i64 1, .int .i64 3, .int .i64 0, .string ⟨#[]⟩, .bool false, .string ⟨#[]⟩, .string ⟨#[]⟩, .int .i64 0, .int .i64 0, .bool false, .bool false, .slice none 0 0] 26))).heap[w8.heap.size + 1 + 1]? = some (.cells #[.int .i64 9, .int .i64 0, .int .i64 0, .string ⟨#[]⟩, .bool false, .string ⟨#[]⟩, .string ⟨#[]⟩, .int .i64 0, .int .i64 0, .bool false, .bool false, .slice (some ⟨gB, 0, none⟩) 2 2, .int .i64 1, .int .i64 3, .int .i64 0, .string ⟨#[]⟩, .bool false, .string ⟨#[]⟩, .string ⟨#[]⟩, .int .i64 0, .int .i64 0, .bool false, .bool false, .slice none 0 0] 26 (0, 0))) := hid (alloc_3 _ _ _ _)
  have HGW : Hid (Gr w (((w8.alloc (.cells #[.int .i64 1, .int .i64 3, .int .i64 0, .string ⟨#[]⟩, .bool false, .string ⟨#[]⟩, .string ⟨#[]⟩, .int .i64 0, .int .i64 0, .bool false, .bool false, .slice none 0 0] 26)).alloc (.cells #[.int .i64 1, .int .i64 3, .int .i64 0, .string ⟨#[]⟩, .bool false, .string ⟨#[]⟩, .string ⟨#[]⟩, .int .i64 0, .int .i64 0, .bool false, .bool false, .slice none 0 0, .int .i64 9, .int .i64 0, .int .i64 0, .string ⟨#[]⟩, .bool false, .string ⟨#[]⟩, .string ⟨#[]⟩, .int .i64 0, .int .i64 0, .bool false, .bool false, .slice (some ⟨gB, 0, none⟩) 2 2] 26)).alloc (.cells #[.int .i64 9, .int .i64 0, .int .i64 0, .string ⟨#[]⟩, .bool false, .string ⟨#[]⟩, .string ⟨#[]⟩, .int .i64 0, .int .i64 0, .bool false, .bool false, .slice (some ⟨gB, 0, none⟩) 2 2, .int .i64 1, .int .i64 3, .int .i64 0, .string ⟨#[]⟩, .bool false, .string ⟨#[]⟩, .string ⟨#[]⟩, .int .i64 0, .int .i64 0, .bool false, .bool false, .slice none 0 0] 26))) := hid (HGU.out.alloc _ |>.alloc _)
  have KA := hid (KX.out (((w8.alloc (.cells #[.int .i64 1, .int .i64 3, .int .i64 0, .string ⟨#[]⟩, .bool false, .string ⟨#[]⟩, .string ⟨#[]⟩, .int .i64 0, .int .i64 0, .bool false, .bool false, .slice none 0 0] 26)).alloc (.cells #[.int .i64 1, .int .i64 3, .int .i64 0, .string ⟨#[]⟩, .bool false, .string ⟨#[]⟩, .string ⟨#[]⟩, .int .i64 0, .int .i64 0, .bool false, .bool false, .slice none 0 0, .int .i64 9, .int .i64 0, .int .i64 0, .string ⟨#[]⟩, .bool false, .string ⟨#[]⟩, .string ⟨#[]⟩, .int .i64 0, .int .i64 0, .bool false, .bool false, .slice (some ⟨gB, 0, none⟩) 2 2] 26)).alloc (.cells #[.int .i64 9, .int .i64 0, .int .i64 0, .string ⟨#[]⟩, .bool false, .string ⟨#[]⟩, .string ⟨#[]⟩, .int .i64 0, .int .i64 0, .bool false, .bool false, .slice (some ⟨gB, 0, none⟩) 2 2, .int .i64 1, .int .i64 3, .int .i64 0, .string ⟨#[]⟩, .bool false, .string ⟨#[]⟩, .string ⟨#[]⟩, .int .i64 0, .int .i64 0, .bool false, .bool false, .slice none 0 0] 26)) (w8.heap.size + 1 + 1) #[.int .i64 9, .int .i64 0, .int .i64 0, .string ⟨#[]⟩, .bool false, .string ⟨#[]⟩, .string ⟨#[]⟩, .int .i64 0, .int .i64 0, .bool false, .bool false, .slice (some ⟨gB, 0, none⟩) 2 2, .int .i64 1, .int .i64 3, .int .i64 0, .string ⟨#[]⟩, .bool false, .string ⟨#[]⟩, .string ⟨#[]⟩, .int .i64 0, .int .i64 0, .bool false, .bool false, .slice none 0 0] (((Gr.refl _).alloc _).alloc _) HGX.out rfl).1
  unfold XR.val Vp pairR at KA
  refine KA.out.mono ?_
  rintro e w12 ⟨rfl, g12⟩
  have G12 : Gr (((w8.alloc (.cells #[.int .i64 1, .int .i64 3, .int .i64 0, .string ⟨#[]⟩, .bool false, .string ⟨#[]⟩, .string ⟨#[]⟩, .int .i64 0, .int .i64 0, .bool false, .bool false, .slice none 0 0] 26)).alloc (.cells #[.int .i64 1, .int .i64 3, .int .i64 0, .string ⟨#[]⟩, .bool false, .string ⟨#[]⟩, .string ⟨#[]⟩, .int .i64 0, .int .i64 0, .bool false, .bool false, .slice none 0 0, .int .i64 9, .int .i64 0, .int .i64 0, .string ⟨#[]⟩, .bool false, .string ⟨#[]⟩, .string ⟨#[]⟩, .int .i64 0, .int .i64 0, .bool false, .bool false, .slice (some ⟨gB, 0, none⟩) 2 2] 26)).alloc (.cells #[.int .i64 9, .int .i64 0, .int .i64 0, .string ⟨#[]⟩, .bool false, .string ⟨#[]⟩, .string ⟨#[]⟩, .int .i64 0, .int .i64 0, .bool false, .bool false, .slice (some ⟨gB, 0, none⟩) 2 2, .int .i64 1, .int .i64 3, .int .i64 0, .string ⟨#[]⟩, .bool false, .string ⟨#[]⟩, .string ⟨#[]⟩, .int .i64 0, .int .i64 0, .bool false, .bool false, .slice none 0 0] 26)) (w12.alloc (.cells #[.int .i64 0, .int .i64 0, .string ⟨#[]⟩, .bool false] 23)) := g12.alloc _
  have HX2 : Hid ((w12.alloc (.cells #[.int .i64 0, .int .i64 0, .string ⟨#[]⟩, .bool false] 23)).heap[w8.heap.size + 1 + 1]? = some (.cells #[.int .i64 9, .int .i64 0, .int .i64 0, .string ⟨#[]⟩, .bool false, .string ⟨#[]⟩, .string ⟨#[]⟩, .int .i64 0, .int .i64 0, .bool false, .bool false, .slice (some ⟨gB, 0, none⟩) 2 2, .int .i64 1, .int .i64 3, .int .i64 0, .string ⟨#[]⟩, .bool false, .string ⟨#[]⟩, .string ⟨#[]⟩, .int .i64 0, .int .i64 0, .bool false, .bool false, .slice none 0 0] 26 (0, 0))) := hid ((G12.block _ (lt_blk HGX.out)).trans HGX.out)
  have KB := hid (KX.out (w12.alloc (.cells #[.int .i64 0, .int .i64 0, .string ⟨#[]⟩, .bool false] 23)) (w8.heap.size + 1 + 1) #[.int .i64 9, .int .i64 0, .int .i64 0, .string ⟨#[]⟩, .bool false, .string ⟨#[]⟩, .string ⟨#[]⟩, .int .i64 0, .int .i64 0, .bool false, .bool false, .slice (some ⟨gB, 0, none⟩) 2 2, .int .i64 1, .int .i64 3, .int .i64 0, .string ⟨#[]⟩, .bool false, .string ⟨#[]⟩, .string ⟨#[]⟩, .int .i64 0, .int .i64 0, .bool false, .bool false, .slice none 0 0] ((((Gr.refl _).alloc _).alloc _).trans G12) HX2.out rfl).2
  have HGV := hid (HGW.out.trans G12)
  unfold XR.val Vp pairR at KB
  clear KA KX HGX HX2 G12 g12 HGW
  go_wp2_with fail
  refine KB.out.mono ?_
  rintro e w13 ⟨rfl, g13⟩
  have HG13 := hid (HGV.out.trans g13)
  have h11 : w13.heap[w12.heap.size]? = some (.cells #[.int .i64 0, .int .i64 0, .string ⟨#[]⟩, .bool false] 23 (0, 0)) := (g13.block _ (lt_blk (alloc_at _ _))).trans (alloc_at _ _)
  have d11 := Rg.blk_cells h11
  have l11 := lt_blk h11
  have l11' : w12.heap.size < w13.heap.size + 1 := Nat.lt_succ_of_lt l11
  clear h11 KB HGV g13
  generalize w12.heap.size = g11 at *
  have s2 := v_same 3 0 ⟨#[]⟩ false
  have s3 := v_same 3 0 ⟨#[]⟩ true
  have tg := v_guard
  have TF := hid (fun W => ltruth_any false W)
  have TT := hid (fun W => ltruth_any true W)
  go_wp2_with fail
  refine Rg.region_text 17 (Below.drew (Below.refl _ _)) (by kernel_rfl) (by kernel_rfl) (fun _ _ d _ _ h => by cases d <;> exact h) ?_
  simp only [List.append_eq, List.cons_append, List.nil_append, List.take_succ_cons, List.take_zero, List.drop_succ_cons, List.drop_zero]
  repeat (first
      | (refine Rg.wpDets_skip (by rfl) ?_; simp only [Act.put, List.setIfInBounds_toArray, List.set_cons_zero, List.set_cons_succ])
      | (refine Rg.wpDets_step ?_ (by rfl) (fun w hS => ?_) ?_
         rotate_left
         · have hc := Gr.cells hS
           have hf := Gr.frees hS
           go_simp
           first
           | (refine ⟨?_, Below.refl _ _⟩; with_reducible rfl)
           | ((with_reducible refine (TF.out _).mono ?_); rintro e w' ⟨rfl, hg⟩; refine ⟨?_, hg⟩; with_reducible rfl)
         simp only [Act.put, List.setIfInBounds_toArray, List.set_cons_zero, List.set_cons_succ]))
  refine Rg.wpDets_nil ?_
  refine Rg.wpFlts_nil ?_
  refine Rg.wpLays_nil ?_
  intro w' hK
  have hg : Gr _ w' := hK.up
  have hc := hg.cells
  have hf := hg.frees
  have hz := hg.size
  try simp only [World.size_alloc, World.size_setCell, World.size_drew] at hz
  try have : 0 < w'.heap.size := by omega
  try have : w.heap.size < w'.heap.size := by omega
  try have : w.heap.size + 1 < w'.heap.size := by omega
  try have : w.heap.size + 1 + 1 < w'.heap.size := by omega
  try have : w.heap.size + 1 + 1 + 1 < w'.heap.size := by omega
  have hgw : Gr (w13.alloc (.cells #[.int .i64 0, .int .i64 0, .string ⟨#[]⟩, .bool false] 23)) w' := hg
  have HG14 := hid ((HG13.out.alloc (.cells #[.int .i64 0, .int .i64 0, .string ⟨#[]⟩, .bool false] 23)).trans hgw)
  have AWu := hid (fun W (h : Rg.Up w' W) => AW.out W (HG14.out.trans h))
  have m11 : g11 < w'.heap.size := Nat.lt_of_lt_of_le l11 (Nat.le_trans (Nat.le_succ _) (by have := hgw.size; rwa [World.size_alloc] at this))
  have m13 : w13.heap.size < w'.heap.size := by have := hgw.size; rw [World.size_alloc] at this; exact this
  clear hgw hg AW TF
  go_wp2_with fail
  refine Rg.region_text 21 (Below.drew (Below.refl _ _)) (by kernel_rfl) (by kernel_rfl) (fun _ _ d _ _ h => by cases d <;> exact h) ?_
  simp only [List.append_eq, List.cons_append, List.nil_append, List.take_succ_cons, List.take_zero, List.drop_succ_cons, List.drop_zero]
  repeat (first
      | (refine Rg.wpDets_skip (by rfl) ?_; simp only [Act.put, List.setIfInBounds_toArray, List.set_cons_zero, List.set_cons_succ])
      | (refine Rg.wpDets_step ?_ (by rfl) (fun w hS => ?_) ?_
         rotate_left
         · have hc := Gr.cells hS
           have hf := Gr.frees hS
           go_simp
           first
           | (refine ⟨?_, Below.refl _ _⟩; with_reducible rfl)
           | ((with_reducible refine (TT.out _).mono ?_); rintro e w' ⟨rfl, hg⟩; refine ⟨?_, hg⟩; with_reducible rfl)
           | ((with_reducible refine (AWu.out _ hS).mono ?_); rintro e w' ⟨rfl, hg⟩; refine ⟨?_, hg⟩; with_reducible rfl)
         simp only [Act.put, List.setIfInBounds_toArray, List.set_cons_zero, List.set_cons_succ]))
  refine Rg.wpDets_nil ?_
  refine Rg.wpFlts_nil ?_
  refine Rg.wpLays_nil ?_
  intro w' hK
  have hg : Gr _ w' := hK.up
  have hc := hg.cells
  have hf := hg.frees
  have hz := hg.size
  try simp only [World.size_alloc, World.size_setCell, World.size_drew] at hz
  try have : 0 < w'.heap.size := by omega
  try have : w.heap.size < w'.heap.size := by omega
  try have : w.heap.size + 1 < w'.heap.size := by omega
  try have : w.heap.size + 1 + 1 < w'.heap.size := by omega
  try have : w.heap.size + 1 + 1 + 1 < w'.heap.size := by omega
  have hG2 := HG14.out.trans hg
  clear hg
  go_wp2
  go_returns
  exact ⟨rfl, hG2⟩
set_option maxHeartbeats 64000000 in
set_option maxRecDepth 100000 in
theorem sh_011 (w : World) (m : Int) (hm : w.cell? ⟨0, 0, none⟩ = some (.int .i64 m)) : Calls Tryz.prog 4 #[.bool false, .bool true, .bool true] w fun e w' => e = .returned (.bool true) ∧ Gr w w' := by
  have N1 : Hid (∀ W, _) := hid (fun W => lit_s (numV 1) W)
  have N0 : Hid (∀ W, _) := hid (fun W => lit_s (numV 0) W)
  have I1 : Hid (∀ W, _) := hid (fun W => lint_any 1 W)
  have I0 : Hid (∀ W, _) := hid (fun W => lint_any 0 W)
  have B1 : Hid (∀ W, _) := hid (fun W => lit_s (boolV false) W)
  have B0 : Hid (∀ W, _) := hid (fun W => lit_s (boolV true) W)
  have T1 : Hid (∀ W, _) := hid (fun W => ltruth_any false W)
  have T0 : Hid (∀ W, _) := hid (fun W => ltruth_any true W)
  have AW : Hid (∀ W, Gr w W → _) := hid (fun W h => eawake_any W m (Gr.keep h hm))
  clear hm
  unfold numV boolV V.val XR.val xlR at *
  go_enter Tryz.func4, Tryz.ntmps4
  go_wp2_with fail
  refine (I1.out _).mono ?_
  rintro e w1 ⟨rfl, g1⟩
  go_wp2_with fail
  refine (N1.out _).mono ?_
  rintro e w2 ⟨rfl, g2⟩
  go_wp2_with fail
  refine (I0.out _).mono ?_
  rintro e w3 ⟨rfl, g3⟩
  go_wp2_with fail
  refine (N0.out _).mono ?_
  rintro e w4 ⟨rfl, g4⟩
  have HG4 := hid ((g1.trans g2).trans (g3.trans g4))
  clear g1 g2 g3 g4
  go_wp2_with fail
  refine (I1.out _).mono ?_
  rintro e w5 ⟨rfl, g5⟩
  go_wp2_with fail
  refine (N1.out _).mono ?_
  rintro e w6 ⟨rfl, g6⟩
  have HG6 := hid ((HG4.out.alloc _).trans (g5.trans g6))
  have HD6 : Hid (w6.heap[w4.heap.size]? = some (.cells #[.int .i64 1, .int .i64 1, .int .i64 1, .string ⟨#[]⟩, .bool false, .string ⟨#[]⟩, .string ⟨#[]⟩, .int .i64 0, .int .i64 0, .bool false, .bool false, .slice none 0 0, .int .i64 1, .int .i64 1, .int .i64 0, .string ⟨#[]⟩, .bool false, .string ⟨#[]⟩, .string ⟨#[]⟩, .int .i64 0, .int .i64 0, .bool false, .bool false, .slice none 0 0] 26 (0, 0))) := hid (((g5.trans g6).block _ (lt_blk (alloc_at _ _))).trans (alloc_at _ _))
  clear g5 g6 HG4 I1 N1 I0 N0
  generalize w4.heap.size = gA at *
  go_wp2_with fail
  refine (T1.out _).mono ?_
  rintro e w7 ⟨rfl, g7⟩
  have HG7 : Hid (Gr w w7) := hid (((HG6.out.alloc _).alloc _).trans g7)
  have HD7 : Hid (w7.heap[gA]? = some (.cells #[.int .i64 1, .int .i64 1, .int .i64 1, .string ⟨#[]⟩, .bool false, .string ⟨#[]⟩, .string ⟨#[]⟩, .int .i64 0, .int .i64 0, .bool false, .bool false, .slice none 0 0, .int .i64 1, .int .i64 1, .int .i64 0, .string ⟨#[]⟩, .bool false, .string ⟨#[]⟩, .string ⟨#[]⟩, .int .i64 0, .int .i64 0, .bool false, .bool false, .slice none 0 0] 26 (0, 0))) := hid (((((Gr.refl w6).alloc _).alloc _).trans g7 |>.block _ (lt_blk HD6.out)).trans HD6.out)
  have HB7 : Hid (w7.heap[w6.heap.size]? = some (.cells #[.int .i64 21, .int .i64 0, .int .i64 0, .string ⟨#[]⟩, .bool false, .string ⟨#[]⟩, .string ⟨#[]⟩, .int .i64 0, .int .i64 0, .bool false, .bool false, .slice (some ⟨gA, 0, none⟩) 2 2, .int .i64 1, .int .i64 1, .int .i64 1, .string ⟨#[]⟩, .bool false, .string ⟨#[]⟩, .string ⟨#[]⟩, .int .i64 0, .int .i64 0, .bool false, .bool false, .slice none 0 0] 26 (0, 0))) := hid ((g7.block _ (by rw [World.size_alloc, World.size_alloc]; exact Nat.lt_succ_of_lt (Nat.lt_succ_self _))).trans ((((Gr.refl _).alloc _).block _ (by rw [World.size_alloc]; exact Nat.lt_succ_self _)).trans (alloc_at _ _)))
  have HX7 : Hid (w7.heap[w6.heap.size + 1]? = some (.cells #[.int .i64 9, .int .i64 0, .int .i64 0, .string ⟨#[]⟩, .bool false, .string ⟨#[]⟩, .string ⟨#[]⟩, .int .i64 0, .int .i64 0, .bool false, .bool false, .slice (some ⟨w6.heap.size, 0, none⟩) 2 2] 26 (0, 0))) := hid ((g7.block _ (by rw [World.size_alloc, World.size_alloc]; exact Nat.lt_succ_self _)).trans (alloc_two _ _ _))
  clear g7 HG6 HD6 T1
  generalize w6.heap.size + 1 = g8 at *
  generalize w6.heap.size = gB at *
  have HAT : Hid (Ex.At Al w7 badE (⟨{ op := 9 }, some ⟨gB, 0, none⟩, 2, 2⟩ : XR)) := hid (form_at HB7.out rfl (Exs.At.cons (form_at HD7.out rfl (Exs.At.cons (lit_at (numV 1) w7) (Exs.At.cons (lit_at (numV 0) w7) Exs.At.nil)) rfl (by decide)) (Exs.At.cons (lit_at (numV 1) w7) Exs.At.nil)) rfl (by decide))
  clear HD7 HB7
  go_wp2_with fail
  refine (B1.out _).mono ?_
  rintro e w8 ⟨rfl, g8'⟩
  have HG8 := hid (HG7.out.trans g8')
  have HAT8 := hid (at_gr HAT.out g8')
  have HX8 := hid ((g8'.block _ (lt_blk HX7.out)).trans HX7.out)
  clear g8' HG7 HAT HX7 B1
  go_wp2_with fail
  refine (T0.out _).mono ?_
  rintro e w9 ⟨rfl, g9⟩
  go_wp2_with fail
  refine (B0.out _).mono ?_
  rintro e w10 ⟨rfl, g10⟩
  have gg : Gr w8 w10 := ((Gr.refl w8).alloc _).trans (g9.trans g10)
  have H910 : w10.heap[w8.heap.size]? = some (.cells #[.int .i64 1, .int .i64 3, .int .i64 0, .string ⟨#[]⟩, .bool false, .string ⟨#[]⟩, .string ⟨#[]⟩, .int .i64 0, .int .i64 0, .bool false, .bool false, .slice none 0 0] 26 (0, 0)) := ((g9.trans g10).block _ (lt_blk (alloc_at _ _))).trans (alloc_at _ _)
  have l910 := lt_blk H910
  have HN10 : Hid ((w10.alloc (.cells #[.int .i64 1, .int .i64 3, .int .i64 0, .string ⟨#[]⟩, .bool true, .string ⟨#[]⟩, .string ⟨#[]⟩, .int .i64 0, .int .i64 0, .bool false, .bool false, .slice none 0 0] 26)).heap[w8.heap.size]? = some (.cells #[.int .i64 1, .int .i64 3, .int .i64 0, .string ⟨#[]⟩, .bool false, .string ⟨#[]⟩, .string ⟨#[]⟩, .int .i64 0, .int .i64 0, .bool false, .bool false, .slice none 0 0] 26 (0, 0))) := hid ((((Gr.refl w10).alloc _).block _ l910).trans H910)
  have SU : Hid (∀ U, Go1 w8.heap.size (w10.alloc (.cells #[.int .i64 1, .int .i64 3, .int .i64 0, .string ⟨#[]⟩, .bool true, .string ⟨#[]⟩, .string ⟨#[]⟩, .int .i64 0, .int .i64 0, .bool false, .bool false, .slice none 0 0] 26)) U → Gr w U ∧ Ex.At Al U badE (⟨{ op := 9 }, some ⟨gB, 0, none⟩, 2, 2⟩ : XR) ∧ Ex.At Al U (trE false true) (⟨{ op := 8 }, some ⟨w10.heap.size, 0, none⟩, 1, 1⟩ : XR) ∧ U.heap[g8]? = some (.cells #[.int .i64 9, .int .i64 0, .int .i64 0, .string ⟨#[]⟩, .bool false, .string ⟨#[]⟩, .string ⟨#[]⟩, .int .i64 0, .int .i64 0, .bool false, .bool false, .slice (some ⟨gB, 0, none⟩) 2 2] 26 (0, 0))) := hid (fun U gU => by
    have hlow : ∀ b, b < w8.heap.size → U.heap[b]? = w8.heap[b]? := fun b hb => (gU.get (by rw [World.size_alloc]; exact Nat.lt_succ_of_lt (Nat.lt_trans hb l910)) (Nat.ne_of_lt hb)).trans ((((Gr.refl w10).alloc _).block _ (Nat.lt_trans hb l910)).trans (gg.block _ hb))
    have hsz : w8.heap.size ≤ U.heap.size := Nat.le_trans (Nat.le_of_lt l910) (Nat.le_trans (by rw [World.size_alloc]; exact Nat.le_succ _) gU.size)
    refine ⟨((HG8.out.trans gg).alloc _).grown gU (fun k e => by cases e; exact HG8.out.size), ?_, ?_, (hlow _ (lt_blk HX8.out)).trans HX8.out⟩
    · exact ((HAT8.out.mono (S' := fun b => b < w8.heap.size) (fun b hb _ => hb)).of hsz (fun b hb _ => hlow b hb)).mono (fun _ _ _ => trivial)
    · exact form_at ((gU.get (by rw [World.size_alloc]; exact Nat.lt_succ_self _) (Nat.ne_of_gt l910)).trans (alloc_at w10 _)) rfl (Exs.At.cons (lit_at (boolV true) U) Exs.At.nil) rfl (by decide))
  clear gg g9 g10 HG8 HAT8 HX8 T0 B0 H910
  go_wp2_with (guard_target =~ wpList _ _ _ (Oper.mk _ (Op.store 26 (Operand.tmp 9) _) _ _ _ _ :: _) _ _; refine st_row (ty := 26) rfl rfl w8.heap.size #[.int .i64 8, .int .i64 0, .int .i64 0, .string ⟨#[]⟩, .bool false, .string ⟨#[]⟩, .string ⟨#[]⟩, .int .i64 0, .int .i64 0, .bool false, .bool false, .slice (some ⟨w10.heap.size, 0, none⟩) 1 1] rfl rfl 26 _ HN10.out (by kernel_rfl) rfl (by kernel_rfl) ?_; intro U hU gU zU; obtain ⟨hGU, hAU, hTU, c8⟩ := SU.out U gU; have HGU := hid hGU; have HAU := hid hAU; have HTU := hid hTU; have c9 := Rg.blk_cells hU; have c8c := Rg.blk_cells c8; have l8 := lt_blk c8; have l9 := lt_blk hU; clear gU zU hU c8 hGU hAU hTU SU HN10)
  have KX : Hid (∀ W g cs, Gr U W → W.heap[g]? = some (.cells cs 26 (0, 0)) → cs.toList = cellsF xF [(⟨{ op := 9 }, some ⟨gB, 0, none⟩, 2, 2⟩ : XR), (⟨{ op := 8 }, some ⟨w10.heap.size, 0, none⟩, 1, 1⟩ : XR)] → Calls Tryz.prog 8 #[XR.val ⟨{ op := 7 }, some ⟨g, 0, none⟩, 2, 2⟩, .slice none 0 0, .slice none 0 0] W (Vp (⟨0, 0, ⟨#[]⟩, false⟩, 162) W) ∧ Calls Tryz.prog 8 #[XR.val ⟨{ op := 6 }, some ⟨g, 0, none⟩, 2, 2⟩, .slice none 0 0, .slice none 0 0] W (Vp (⟨0, 0, ⟨#[]⟩, false⟩, 162) W)) := hid (fun W g cs G hg hcs => ⟨sh_call 7 (.inl rfl) false true true [(⟨{ op := 9 }, some ⟨gB, 0, none⟩, 2, 2⟩ : XR), (⟨{ op := 8 }, some ⟨w10.heap.size, 0, none⟩, 1, 1⟩ : XR)] W g cs hg hcs (Exs.At.cons (at_gr HAU.out G) (Exs.At.cons (at_gr HTU.out G) Exs.At.nil)) _ (and_ev false true true), sh_call 6 (.inr rfl) false true true [(⟨{ op := 9 }, some ⟨gB, 0, none⟩, 2, 2⟩ : XR), (⟨{ op := 8 }, some ⟨w10.heap.size, 0, none⟩, 1, 1⟩ : XR)] W g cs hg hcs (Exs.At.cons (at_gr HAU.out G) (Exs.At.cons (at_gr HTU.out G) Exs.At.nil)) _ (or_ev false true true)⟩)
  clear HAU HTU
  have HGX : Hid ((((U.alloc (.cells #[.int .i64 8, .int .i64 0, .int .i64 0, .string ⟨#[]⟩, .bool false, .string ⟨#[]⟩, .string ⟨#[]⟩, .int .i64 0, .int .i64 0, .bool false, .bool false, .slice (some ⟨w10.heap.size, 0, none⟩) 1 1, .int .i64 9, .int .i64 0, .int .i64 0, .string ⟨#[]⟩, .bool false, .string ⟨#[]⟩, .string ⟨#[]⟩, .int .i64 0, .int .i64 0, .bool false, .bool false, .slice (some ⟨gB, 0, none⟩) 2 2] 26)).alloc (.cells #[.int .i64 9, .int .i64 0, .int .i64 0, .string ⟨#[]⟩, .bool false, .string ⟨#[]⟩, .string ⟨#[]⟩, .int .i64 0, .int .i64 0, .bool false, .bool false, .slice (some ⟨gB, 0, none⟩) 2 2, .int .i64 8, .int .i64 0, .int .i64 0, .string ⟨#[]⟩, .bool false, .string ⟨#[]⟩, .string ⟨#[]⟩, .int .i64 0, .int .i64 0, .bool false, .bool false, .slice (some ⟨w10.heap.size, 0, none⟩) 1 1] 26))).heap[U.heap.size + 1]? = some (.cells #[.int .i64 9, .int .i64 0, .int .i64 0, .string ⟨#[]⟩, .bool false, .string ⟨#[]⟩, .string ⟨#[]⟩, .int .i64 0, .int .i64 0, .bool false, .bool false, .slice (some ⟨gB, 0, none⟩) 2 2, .int .i64 8, .int .i64 0, .int .i64 0, .string ⟨#[]⟩, .bool false, .string ⟨#[]⟩, .string ⟨#[]⟩, .int .i64 0, .int .i64 0, .bool false, .bool false, .slice (some ⟨w10.heap.size, 0, none⟩) 1 1] 26 (0, 0))) := hid (alloc_two _ _ _)
  have HGW : Hid (Gr w ((U.alloc (.cells #[.int .i64 8, .int .i64 0, .int .i64 0, .string ⟨#[]⟩, .bool false, .string ⟨#[]⟩, .string ⟨#[]⟩, .int .i64 0, .int .i64 0, .bool false, .bool false, .slice (some ⟨w10.heap.size, 0, none⟩) 1 1, .int .i64 9, .int .i64 0, .int .i64 0, .string ⟨#[]⟩, .bool false, .string ⟨#[]⟩, .string ⟨#[]⟩, .int .i64 0, .int .i64 0, .bool false, .bool false, .slice (some ⟨gB, 0, none⟩) 2 2] 26)).alloc (.cells #[.int .i64 9, .int .i64 0, .int .i64 0, .string ⟨#[]⟩, .bool false, .string ⟨#[]⟩, .string ⟨#[]⟩, .int .i64 0, .int .i64 0, .bool false, .bool false, .slice (some ⟨gB, 0, none⟩) 2 2, .int .i64 8, .int .i64 0, .int .i64 0, .string ⟨#[]⟩, .bool false, .string ⟨#[]⟩, .string ⟨#[]⟩, .int .i64 0, .int .i64 0, .bool false, .bool false, .slice (some ⟨w10.heap.size, 0, none⟩) 1 1] 26))) := hid (HGU.out.alloc _ |>.alloc _)
  have KA := hid (KX.out ((U.alloc (.cells #[.int .i64 8, .int .i64 0, .int .i64 0, .string ⟨#[]⟩, .bool false, .string ⟨#[]⟩, .string ⟨#[]⟩, .int .i64 0, .int .i64 0, .bool false, .bool false, .slice (some ⟨w10.heap.size, 0, none⟩) 1 1, .int .i64 9, .int .i64 0, .int .i64 0, .string ⟨#[]⟩, .bool false, .string ⟨#[]⟩, .string ⟨#[]⟩, .int .i64 0, .int .i64 0, .bool false, .bool false, .slice (some ⟨gB, 0, none⟩) 2 2] 26)).alloc (.cells #[.int .i64 9, .int .i64 0, .int .i64 0, .string ⟨#[]⟩, .bool false, .string ⟨#[]⟩, .string ⟨#[]⟩, .int .i64 0, .int .i64 0, .bool false, .bool false, .slice (some ⟨gB, 0, none⟩) 2 2, .int .i64 8, .int .i64 0, .int .i64 0, .string ⟨#[]⟩, .bool false, .string ⟨#[]⟩, .string ⟨#[]⟩, .int .i64 0, .int .i64 0, .bool false, .bool false, .slice (some ⟨w10.heap.size, 0, none⟩) 1 1] 26)) (U.heap.size + 1) #[.int .i64 9, .int .i64 0, .int .i64 0, .string ⟨#[]⟩, .bool false, .string ⟨#[]⟩, .string ⟨#[]⟩, .int .i64 0, .int .i64 0, .bool false, .bool false, .slice (some ⟨gB, 0, none⟩) 2 2, .int .i64 8, .int .i64 0, .int .i64 0, .string ⟨#[]⟩, .bool false, .string ⟨#[]⟩, .string ⟨#[]⟩, .int .i64 0, .int .i64 0, .bool false, .bool false, .slice (some ⟨w10.heap.size, 0, none⟩) 1 1] (((Gr.refl _).alloc _).alloc _) HGX.out rfl).1
  unfold XR.val Vp pairR at KA
  refine KA.out.mono ?_
  rintro e w12 ⟨rfl, g12⟩
  have G12 : Gr ((U.alloc (.cells #[.int .i64 8, .int .i64 0, .int .i64 0, .string ⟨#[]⟩, .bool false, .string ⟨#[]⟩, .string ⟨#[]⟩, .int .i64 0, .int .i64 0, .bool false, .bool false, .slice (some ⟨w10.heap.size, 0, none⟩) 1 1, .int .i64 9, .int .i64 0, .int .i64 0, .string ⟨#[]⟩, .bool false, .string ⟨#[]⟩, .string ⟨#[]⟩, .int .i64 0, .int .i64 0, .bool false, .bool false, .slice (some ⟨gB, 0, none⟩) 2 2] 26)).alloc (.cells #[.int .i64 9, .int .i64 0, .int .i64 0, .string ⟨#[]⟩, .bool false, .string ⟨#[]⟩, .string ⟨#[]⟩, .int .i64 0, .int .i64 0, .bool false, .bool false, .slice (some ⟨gB, 0, none⟩) 2 2, .int .i64 8, .int .i64 0, .int .i64 0, .string ⟨#[]⟩, .bool false, .string ⟨#[]⟩, .string ⟨#[]⟩, .int .i64 0, .int .i64 0, .bool false, .bool false, .slice (some ⟨w10.heap.size, 0, none⟩) 1 1] 26)) (w12.alloc (.cells #[.int .i64 0, .int .i64 0, .string ⟨#[]⟩, .bool false] 23)) := g12.alloc _
  have HX2 : Hid ((w12.alloc (.cells #[.int .i64 0, .int .i64 0, .string ⟨#[]⟩, .bool false] 23)).heap[U.heap.size + 1]? = some (.cells #[.int .i64 9, .int .i64 0, .int .i64 0, .string ⟨#[]⟩, .bool false, .string ⟨#[]⟩, .string ⟨#[]⟩, .int .i64 0, .int .i64 0, .bool false, .bool false, .slice (some ⟨gB, 0, none⟩) 2 2, .int .i64 8, .int .i64 0, .int .i64 0, .string ⟨#[]⟩, .bool false, .string ⟨#[]⟩, .string ⟨#[]⟩, .int .i64 0, .int .i64 0, .bool false, .bool false, .slice (some ⟨w10.heap.size, 0, none⟩) 1 1] 26 (0, 0))) := hid ((G12.block _ (lt_blk HGX.out)).trans HGX.out)
  have KB := hid (KX.out (w12.alloc (.cells #[.int .i64 0, .int .i64 0, .string ⟨#[]⟩, .bool false] 23)) (U.heap.size + 1) #[.int .i64 9, .int .i64 0, .int .i64 0, .string ⟨#[]⟩, .bool false, .string ⟨#[]⟩, .string ⟨#[]⟩, .int .i64 0, .int .i64 0, .bool false, .bool false, .slice (some ⟨gB, 0, none⟩) 2 2, .int .i64 8, .int .i64 0, .int .i64 0, .string ⟨#[]⟩, .bool false, .string ⟨#[]⟩, .string ⟨#[]⟩, .int .i64 0, .int .i64 0, .bool false, .bool false, .slice (some ⟨w10.heap.size, 0, none⟩) 1 1] ((((Gr.refl _).alloc _).alloc _).trans G12) HX2.out rfl).2
  have HGV := hid (HGW.out.trans G12)
  unfold XR.val Vp pairR at KB
  clear KA KX HGX HX2 G12 g12 HGW
  go_wp2_with fail
  refine KB.out.mono ?_
  rintro e w13 ⟨rfl, g13⟩
  have HG13 := hid (HGV.out.trans g13)
  have h11 : w13.heap[w12.heap.size]? = some (.cells #[.int .i64 0, .int .i64 0, .string ⟨#[]⟩, .bool false] 23 (0, 0)) := (g13.block _ (lt_blk (alloc_at _ _))).trans (alloc_at _ _)
  have d11 := Rg.blk_cells h11
  have l11 := lt_blk h11
  have l11' : w12.heap.size < w13.heap.size + 1 := Nat.lt_succ_of_lt l11
  clear h11 KB HGV g13
  generalize w12.heap.size = g11 at *
  have s2 := v_same 3 0 ⟨#[]⟩ false
  have s3 := v_same 3 0 ⟨#[]⟩ true
  have tg := v_guard
  have TF := hid (fun W => ltruth_any false W)
  have TT := hid (fun W => ltruth_any true W)
  go_wp2_with fail
  refine Rg.region_text 17 (Below.drew (Below.refl _ _)) (by kernel_rfl) (by kernel_rfl) (fun _ _ d _ _ h => by cases d <;> exact h) ?_
  simp only [List.append_eq, List.cons_append, List.nil_append, List.take_succ_cons, List.take_zero, List.drop_succ_cons, List.drop_zero]
  repeat (first
      | (refine Rg.wpDets_skip (by rfl) ?_; simp only [Act.put, List.setIfInBounds_toArray, List.set_cons_zero, List.set_cons_succ])
      | (refine Rg.wpDets_step ?_ (by rfl) (fun w hS => ?_) ?_
         rotate_left
         · have hc := Gr.cells hS
           have hf := Gr.frees hS
           go_simp
           first
           | (refine ⟨?_, Below.refl _ _⟩; with_reducible rfl)
           | ((with_reducible refine (TF.out _).mono ?_); rintro e w' ⟨rfl, hg⟩; refine ⟨?_, hg⟩; with_reducible rfl)
         simp only [Act.put, List.setIfInBounds_toArray, List.set_cons_zero, List.set_cons_succ]))
  refine Rg.wpDets_nil ?_
  refine Rg.wpFlts_nil ?_
  refine Rg.wpLays_nil ?_
  intro w' hK
  have hg : Gr _ w' := hK.up
  have hc := hg.cells
  have hf := hg.frees
  have hz := hg.size
  try simp only [World.size_alloc, World.size_setCell, World.size_drew] at hz
  try have : 0 < w'.heap.size := by omega
  try have : w.heap.size < w'.heap.size := by omega
  try have : w.heap.size + 1 < w'.heap.size := by omega
  try have : w.heap.size + 1 + 1 < w'.heap.size := by omega
  try have : w.heap.size + 1 + 1 + 1 < w'.heap.size := by omega
  have hgw : Gr (w13.alloc (.cells #[.int .i64 0, .int .i64 0, .string ⟨#[]⟩, .bool false] 23)) w' := hg
  have HG14 := hid ((HG13.out.alloc (.cells #[.int .i64 0, .int .i64 0, .string ⟨#[]⟩, .bool false] 23)).trans hgw)
  have AWu := hid (fun W (h : Rg.Up w' W) => AW.out W (HG14.out.trans h))
  have m11 : g11 < w'.heap.size := Nat.lt_of_lt_of_le l11 (Nat.le_trans (Nat.le_succ _) (by have := hgw.size; rwa [World.size_alloc] at this))
  have m13 : w13.heap.size < w'.heap.size := by have := hgw.size; rw [World.size_alloc] at this; exact this
  clear hgw hg AW TF
  go_wp2_with fail
  refine Rg.region_text 21 (Below.drew (Below.refl _ _)) (by kernel_rfl) (by kernel_rfl) (fun _ _ d _ _ h => by cases d <;> exact h) ?_
  simp only [List.append_eq, List.cons_append, List.nil_append, List.take_succ_cons, List.take_zero, List.drop_succ_cons, List.drop_zero]
  repeat (first
      | (refine Rg.wpDets_skip (by rfl) ?_; simp only [Act.put, List.setIfInBounds_toArray, List.set_cons_zero, List.set_cons_succ])
      | (refine Rg.wpDets_step ?_ (by rfl) (fun w hS => ?_) ?_
         rotate_left
         · have hc := Gr.cells hS
           have hf := Gr.frees hS
           go_simp
           first
           | (refine ⟨?_, Below.refl _ _⟩; with_reducible rfl)
           | ((with_reducible refine (TT.out _).mono ?_); rintro e w' ⟨rfl, hg⟩; refine ⟨?_, hg⟩; with_reducible rfl)
           | ((with_reducible refine (AWu.out _ hS).mono ?_); rintro e w' ⟨rfl, hg⟩; refine ⟨?_, hg⟩; with_reducible rfl)
         simp only [Act.put, List.setIfInBounds_toArray, List.set_cons_zero, List.set_cons_succ]))
  refine Rg.wpDets_nil ?_
  refine Rg.wpFlts_nil ?_
  refine Rg.wpLays_nil ?_
  intro w' hK
  have hg : Gr _ w' := hK.up
  have hc := hg.cells
  have hf := hg.frees
  have hz := hg.size
  try simp only [World.size_alloc, World.size_setCell, World.size_drew] at hz
  try have : 0 < w'.heap.size := by omega
  try have : w.heap.size < w'.heap.size := by omega
  try have : w.heap.size + 1 < w'.heap.size := by omega
  try have : w.heap.size + 1 + 1 < w'.heap.size := by omega
  try have : w.heap.size + 1 + 1 + 1 < w'.heap.size := by omega
  have hG2 := HG14.out.trans hg
  clear hg
  go_wp2
  go_returns
  exact ⟨rfl, hG2⟩
set_option maxHeartbeats 64000000 in
set_option maxRecDepth 100000 in
theorem sh_100 (w : World) (m : Int) (hm : w.cell? ⟨0, 0, none⟩ = some (.int .i64 m)) : Calls Tryz.prog 4 #[.bool true, .bool false, .bool false] w fun e w' => e = .returned (.bool true) ∧ Gr w w' := by
  have N1 : Hid (∀ W, _) := hid (fun W => lit_s (numV 1) W)
  have N0 : Hid (∀ W, _) := hid (fun W => lit_s (numV 0) W)
  have I1 : Hid (∀ W, _) := hid (fun W => lint_any 1 W)
  have I0 : Hid (∀ W, _) := hid (fun W => lint_any 0 W)
  have B1 : Hid (∀ W, _) := hid (fun W => lit_s (boolV true) W)
  have B0 : Hid (∀ W, _) := hid (fun W => lit_s (boolV false) W)
  have T1 : Hid (∀ W, _) := hid (fun W => ltruth_any true W)
  have T0 : Hid (∀ W, _) := hid (fun W => ltruth_any false W)
  have AW : Hid (∀ W, Gr w W → _) := hid (fun W h => eawake_any W m (Gr.keep h hm))
  clear hm
  unfold numV boolV V.val XR.val xlR at *
  go_enter Tryz.func4, Tryz.ntmps4
  go_wp2_with fail
  refine (I1.out _).mono ?_
  rintro e w1 ⟨rfl, g1⟩
  go_wp2_with fail
  refine (N1.out _).mono ?_
  rintro e w2 ⟨rfl, g2⟩
  go_wp2_with fail
  refine (I0.out _).mono ?_
  rintro e w3 ⟨rfl, g3⟩
  go_wp2_with fail
  refine (N0.out _).mono ?_
  rintro e w4 ⟨rfl, g4⟩
  have HG4 := hid ((g1.trans g2).trans (g3.trans g4))
  clear g1 g2 g3 g4
  go_wp2_with fail
  refine (I1.out _).mono ?_
  rintro e w5 ⟨rfl, g5⟩
  go_wp2_with fail
  refine (N1.out _).mono ?_
  rintro e w6 ⟨rfl, g6⟩
  have HG6 := hid ((HG4.out.alloc _).trans (g5.trans g6))
  have HD6 : Hid (w6.heap[w4.heap.size]? = some (.cells #[.int .i64 1, .int .i64 1, .int .i64 1, .string ⟨#[]⟩, .bool false, .string ⟨#[]⟩, .string ⟨#[]⟩, .int .i64 0, .int .i64 0, .bool false, .bool false, .slice none 0 0, .int .i64 1, .int .i64 1, .int .i64 0, .string ⟨#[]⟩, .bool false, .string ⟨#[]⟩, .string ⟨#[]⟩, .int .i64 0, .int .i64 0, .bool false, .bool false, .slice none 0 0] 26 (0, 0))) := hid (((g5.trans g6).block _ (lt_blk (alloc_at _ _))).trans (alloc_at _ _))
  clear g5 g6 HG4 I1 N1 I0 N0
  generalize w4.heap.size = gA at *
  go_wp2_with fail
  refine (T1.out _).mono ?_
  rintro e w7 ⟨rfl, g7⟩
  have HG7 : Hid (Gr w w7) := hid (((HG6.out.alloc _).alloc _).trans g7)
  have HD7 : Hid (w7.heap[gA]? = some (.cells #[.int .i64 1, .int .i64 1, .int .i64 1, .string ⟨#[]⟩, .bool false, .string ⟨#[]⟩, .string ⟨#[]⟩, .int .i64 0, .int .i64 0, .bool false, .bool false, .slice none 0 0, .int .i64 1, .int .i64 1, .int .i64 0, .string ⟨#[]⟩, .bool false, .string ⟨#[]⟩, .string ⟨#[]⟩, .int .i64 0, .int .i64 0, .bool false, .bool false, .slice none 0 0] 26 (0, 0))) := hid (((((Gr.refl w6).alloc _).alloc _).trans g7 |>.block _ (lt_blk HD6.out)).trans HD6.out)
  have HB7 : Hid (w7.heap[w6.heap.size]? = some (.cells #[.int .i64 21, .int .i64 0, .int .i64 0, .string ⟨#[]⟩, .bool false, .string ⟨#[]⟩, .string ⟨#[]⟩, .int .i64 0, .int .i64 0, .bool false, .bool false, .slice (some ⟨gA, 0, none⟩) 2 2, .int .i64 1, .int .i64 1, .int .i64 1, .string ⟨#[]⟩, .bool false, .string ⟨#[]⟩, .string ⟨#[]⟩, .int .i64 0, .int .i64 0, .bool false, .bool false, .slice none 0 0] 26 (0, 0))) := hid ((g7.block _ (by rw [World.size_alloc, World.size_alloc]; exact Nat.lt_succ_of_lt (Nat.lt_succ_self _))).trans ((((Gr.refl _).alloc _).block _ (by rw [World.size_alloc]; exact Nat.lt_succ_self _)).trans (alloc_at _ _)))
  have HX7 : Hid (w7.heap[w6.heap.size + 1]? = some (.cells #[.int .i64 9, .int .i64 0, .int .i64 0, .string ⟨#[]⟩, .bool false, .string ⟨#[]⟩, .string ⟨#[]⟩, .int .i64 0, .int .i64 0, .bool false, .bool false, .slice (some ⟨w6.heap.size, 0, none⟩) 2 2] 26 (0, 0))) := hid ((g7.block _ (by rw [World.size_alloc, World.size_alloc]; exact Nat.lt_succ_self _)).trans (alloc_two _ _ _))
  clear g7 HG6 HD6 T1
  generalize w6.heap.size + 1 = g8 at *
  generalize w6.heap.size = gB at *
  have HAT : Hid (Ex.At Al w7 badE (⟨{ op := 9 }, some ⟨gB, 0, none⟩, 2, 2⟩ : XR)) := hid (form_at HB7.out rfl (Exs.At.cons (form_at HD7.out rfl (Exs.At.cons (lit_at (numV 1) w7) (Exs.At.cons (lit_at (numV 0) w7) Exs.At.nil)) rfl (by decide)) (Exs.At.cons (lit_at (numV 1) w7) Exs.At.nil)) rfl (by decide))
  clear HD7 HB7
  go_wp2_with fail
  refine (B1.out _).mono ?_
  rintro e w8 ⟨rfl, g8'⟩
  have HG8 := hid (HG7.out.trans g8')
  have HAT8 := hid (at_gr HAT.out g8')
  have HX8 := hid ((g8'.block _ (lt_blk HX7.out)).trans HX7.out)
  clear g8' HG7 HAT HX7 B1
  have HGU := hid (HG8.out.alloc (.cells #[.int .i64 1, .int .i64 3, .int .i64 0, .string ⟨#[]⟩, .bool true, .string ⟨#[]⟩, .string ⟨#[]⟩, .int .i64 0, .int .i64 0, .bool false, .bool false, .slice none 0 0] 26))
  have HAU := hid (at_gr HAT8.out ((Gr.refl w8).alloc (.cells #[.int .i64 1, .int .i64 3, .int .i64 0, .string ⟨#[]⟩, .bool true, .string ⟨#[]⟩, .string ⟨#[]⟩, .int .i64 0, .int .i64 0, .bool false, .bool false, .slice none 0 0] 26)))
  have HTU : Hid (Ex.At Al (w8.alloc (.cells #[.int .i64 1, .int .i64 3, .int .i64 0, .string ⟨#[]⟩, .bool true, .string ⟨#[]⟩, .string ⟨#[]⟩, .int .i64 0, .int .i64 0, .bool false, .bool false, .slice none 0 0] 26)) (trE true false) (xlR (boolV true))) := hid (lit_at _ _)
  have c8c := Rg.blk_cells HX8.out
  have l8 := lt_blk HX8.out
  clear HG8 HAT8 HX8 T0 B0
  go_wp2_with fail
  have KX : Hid (∀ W g cs, Gr (w8.alloc (.cells #[.int .i64 1, .int .i64 3, .int .i64 0, .string ⟨#[]⟩, .bool true, .string ⟨#[]⟩, .string ⟨#[]⟩, .int .i64 0, .int .i64 0, .bool false, .bool false, .slice none 0 0] 26)) W → W.heap[g]? = some (.cells cs 26 (0, 0)) → cs.toList = cellsF xF [(xlR (boolV true)), (⟨{ op := 9 }, some ⟨gB, 0, none⟩, 2, 2⟩ : XR)] → Calls Tryz.prog 8 #[XR.val ⟨{ op := 7 }, some ⟨g, 0, none⟩, 2, 2⟩, .slice none 0 0, .slice none 0 0] W (Vp (⟨0, 0, ⟨#[]⟩, false⟩, 162) W) ∧ Calls Tryz.prog 8 #[XR.val ⟨{ op := 6 }, some ⟨g, 0, none⟩, 2, 2⟩, .slice none 0 0, .slice none 0 0] W (Vp (⟨3, 0, ⟨#[]⟩, true⟩, 0) W)) := hid (fun W g cs G hg hcs => ⟨sh_call 7 (.inl rfl) true false false [(xlR (boolV true)), (⟨{ op := 9 }, some ⟨gB, 0, none⟩, 2, 2⟩ : XR)] W g cs hg hcs (Exs.At.cons (at_gr HTU.out G) (Exs.At.cons (at_gr HAU.out G) Exs.At.nil)) _ (and_ev true false false), sh_call 6 (.inr rfl) true false false [(xlR (boolV true)), (⟨{ op := 9 }, some ⟨gB, 0, none⟩, 2, 2⟩ : XR)] W g cs hg hcs (Exs.At.cons (at_gr HTU.out G) (Exs.At.cons (at_gr HAU.out G) Exs.At.nil)) _ (or_ev true false false)⟩)
  clear HAU HTU
  have HGX : Hid ((((w8.alloc (.cells #[.int .i64 1, .int .i64 3, .int .i64 0, .string ⟨#[]⟩, .bool true, .string ⟨#[]⟩, .string ⟨#[]⟩, .int .i64 0, .int .i64 0, .bool false, .bool false, .slice none 0 0] 26)).alloc (.cells #[.int .i64 1, .int .i64 3, .int .i64 0, .string ⟨#[]⟩, .bool true, .string ⟨#[]⟩, .string ⟨#[]⟩, .int .i64 0, .int .i64 0, .bool false, .bool false, .slice none 0 0, .int .i64 9, .int .i64 0, .int .i64 0, .string ⟨#[]⟩, .bool false, .string ⟨#[]⟩, .string ⟨#[]⟩, .int .i64 0, .int .i64 0, .bool false, .bool false, .slice (some ⟨gB, 0, none⟩) 2 2] 26))).heap[w8.heap.size + 1]? = some (.cells #[.int .i64 1, .int .i64 3, .int .i64 0, .string ⟨#[]⟩, .bool true, .string ⟨#[]⟩, .string ⟨#[]⟩, .int .i64 0, .int .i64 0, .bool false, .bool false, .slice none 0 0, .int .i64 9, .int .i64 0, .int .i64 0, .string ⟨#[]⟩, .bool false, .string ⟨#[]⟩, .string ⟨#[]⟩, .int .i64 0, .int .i64 0, .bool false, .bool false, .slice (some ⟨gB, 0, none⟩) 2 2] 26 (0, 0))) := hid (alloc_two _ _ _)
  have HGW : Hid (Gr w ((w8.alloc (.cells #[.int .i64 1, .int .i64 3, .int .i64 0, .string ⟨#[]⟩, .bool true, .string ⟨#[]⟩, .string ⟨#[]⟩, .int .i64 0, .int .i64 0, .bool false, .bool false, .slice none 0 0] 26)).alloc (.cells #[.int .i64 1, .int .i64 3, .int .i64 0, .string ⟨#[]⟩, .bool true, .string ⟨#[]⟩, .string ⟨#[]⟩, .int .i64 0, .int .i64 0, .bool false, .bool false, .slice none 0 0, .int .i64 9, .int .i64 0, .int .i64 0, .string ⟨#[]⟩, .bool false, .string ⟨#[]⟩, .string ⟨#[]⟩, .int .i64 0, .int .i64 0, .bool false, .bool false, .slice (some ⟨gB, 0, none⟩) 2 2] 26))) := hid (HGU.out.alloc _)
  have KA := hid (KX.out ((w8.alloc (.cells #[.int .i64 1, .int .i64 3, .int .i64 0, .string ⟨#[]⟩, .bool true, .string ⟨#[]⟩, .string ⟨#[]⟩, .int .i64 0, .int .i64 0, .bool false, .bool false, .slice none 0 0] 26)).alloc (.cells #[.int .i64 1, .int .i64 3, .int .i64 0, .string ⟨#[]⟩, .bool true, .string ⟨#[]⟩, .string ⟨#[]⟩, .int .i64 0, .int .i64 0, .bool false, .bool false, .slice none 0 0, .int .i64 9, .int .i64 0, .int .i64 0, .string ⟨#[]⟩, .bool false, .string ⟨#[]⟩, .string ⟨#[]⟩, .int .i64 0, .int .i64 0, .bool false, .bool false, .slice (some ⟨gB, 0, none⟩) 2 2] 26)) (w8.heap.size + 1) #[.int .i64 1, .int .i64 3, .int .i64 0, .string ⟨#[]⟩, .bool true, .string ⟨#[]⟩, .string ⟨#[]⟩, .int .i64 0, .int .i64 0, .bool false, .bool false, .slice none 0 0, .int .i64 9, .int .i64 0, .int .i64 0, .string ⟨#[]⟩, .bool false, .string ⟨#[]⟩, .string ⟨#[]⟩, .int .i64 0, .int .i64 0, .bool false, .bool false, .slice (some ⟨gB, 0, none⟩) 2 2] ((Gr.refl _).alloc _) HGX.out rfl).1
  unfold XR.val Vp pairR at KA
  refine KA.out.mono ?_
  rintro e w12 ⟨rfl, g12⟩
  have G12 : Gr ((w8.alloc (.cells #[.int .i64 1, .int .i64 3, .int .i64 0, .string ⟨#[]⟩, .bool true, .string ⟨#[]⟩, .string ⟨#[]⟩, .int .i64 0, .int .i64 0, .bool false, .bool false, .slice none 0 0] 26)).alloc (.cells #[.int .i64 1, .int .i64 3, .int .i64 0, .string ⟨#[]⟩, .bool true, .string ⟨#[]⟩, .string ⟨#[]⟩, .int .i64 0, .int .i64 0, .bool false, .bool false, .slice none 0 0, .int .i64 9, .int .i64 0, .int .i64 0, .string ⟨#[]⟩, .bool false, .string ⟨#[]⟩, .string ⟨#[]⟩, .int .i64 0, .int .i64 0, .bool false, .bool false, .slice (some ⟨gB, 0, none⟩) 2 2] 26)) (w12.alloc (.cells #[.int .i64 0, .int .i64 0, .string ⟨#[]⟩, .bool false] 23)) := g12.alloc _
  have HX2 : Hid ((w12.alloc (.cells #[.int .i64 0, .int .i64 0, .string ⟨#[]⟩, .bool false] 23)).heap[w8.heap.size + 1]? = some (.cells #[.int .i64 1, .int .i64 3, .int .i64 0, .string ⟨#[]⟩, .bool true, .string ⟨#[]⟩, .string ⟨#[]⟩, .int .i64 0, .int .i64 0, .bool false, .bool false, .slice none 0 0, .int .i64 9, .int .i64 0, .int .i64 0, .string ⟨#[]⟩, .bool false, .string ⟨#[]⟩, .string ⟨#[]⟩, .int .i64 0, .int .i64 0, .bool false, .bool false, .slice (some ⟨gB, 0, none⟩) 2 2] 26 (0, 0))) := hid ((G12.block _ (lt_blk HGX.out)).trans HGX.out)
  have KB := hid (KX.out (w12.alloc (.cells #[.int .i64 0, .int .i64 0, .string ⟨#[]⟩, .bool false] 23)) (w8.heap.size + 1) #[.int .i64 1, .int .i64 3, .int .i64 0, .string ⟨#[]⟩, .bool true, .string ⟨#[]⟩, .string ⟨#[]⟩, .int .i64 0, .int .i64 0, .bool false, .bool false, .slice none 0 0, .int .i64 9, .int .i64 0, .int .i64 0, .string ⟨#[]⟩, .bool false, .string ⟨#[]⟩, .string ⟨#[]⟩, .int .i64 0, .int .i64 0, .bool false, .bool false, .slice (some ⟨gB, 0, none⟩) 2 2] (((Gr.refl _).alloc _).trans G12) HX2.out rfl).2
  have HGV := hid (HGW.out.trans G12)
  unfold XR.val Vp pairR at KB
  clear KA KX HGX HX2 G12 g12 HGW
  go_wp2_with fail
  refine KB.out.mono ?_
  rintro e w13 ⟨rfl, g13⟩
  have HG13 := hid (HGV.out.trans g13)
  have h11 : w13.heap[w12.heap.size]? = some (.cells #[.int .i64 0, .int .i64 0, .string ⟨#[]⟩, .bool false] 23 (0, 0)) := (g13.block _ (lt_blk (alloc_at _ _))).trans (alloc_at _ _)
  have d11 := Rg.blk_cells h11
  have l11 := lt_blk h11
  have l11' : w12.heap.size < w13.heap.size + 1 := Nat.lt_succ_of_lt l11
  clear h11 KB HGV g13
  generalize w12.heap.size = g11 at *
  have s2 := v_same 3 0 ⟨#[]⟩ false
  have s3 := v_same 3 0 ⟨#[]⟩ true
  have tg := v_guard
  have TF := hid (fun W => ltruth_any false W)
  have TT := hid (fun W => ltruth_any true W)
  go_wp2_with fail
  refine Rg.region_text 17 (Below.drew (Below.refl _ _)) (by kernel_rfl) (by kernel_rfl) (fun _ _ d _ _ h => by cases d <;> exact h) ?_
  simp only [List.append_eq, List.cons_append, List.nil_append, List.take_succ_cons, List.take_zero, List.drop_succ_cons, List.drop_zero]
  repeat (first
      | (refine Rg.wpDets_skip (by rfl) ?_; simp only [Act.put, List.setIfInBounds_toArray, List.set_cons_zero, List.set_cons_succ])
      | (refine Rg.wpDets_step ?_ (by rfl) (fun w hS => ?_) ?_
         rotate_left
         · have hc := Gr.cells hS
           have hf := Gr.frees hS
           go_simp
           first
           | (refine ⟨?_, Below.refl _ _⟩; with_reducible rfl)
           | ((with_reducible refine (TF.out _).mono ?_); rintro e w' ⟨rfl, hg⟩; refine ⟨?_, hg⟩; with_reducible rfl)
         simp only [Act.put, List.setIfInBounds_toArray, List.set_cons_zero, List.set_cons_succ]))
  refine Rg.wpDets_nil ?_
  refine Rg.wpFlts_nil ?_
  refine Rg.wpLays_nil ?_
  intro w' hK
  have hg : Gr _ w' := hK.up
  have hc := hg.cells
  have hf := hg.frees
  have hz := hg.size
  try simp only [World.size_alloc, World.size_setCell, World.size_drew] at hz
  try have : 0 < w'.heap.size := by omega
  try have : w.heap.size < w'.heap.size := by omega
  try have : w.heap.size + 1 < w'.heap.size := by omega
  try have : w.heap.size + 1 + 1 < w'.heap.size := by omega
  try have : w.heap.size + 1 + 1 + 1 < w'.heap.size := by omega
  have hgw : Gr (w13.alloc (.cells #[.int .i64 3, .int .i64 0, .string ⟨#[]⟩, .bool true] 23)) w' := hg
  have HG14 := hid ((HG13.out.alloc (.cells #[.int .i64 3, .int .i64 0, .string ⟨#[]⟩, .bool true] 23)).trans hgw)
  have AWu := hid (fun W (h : Rg.Up w' W) => AW.out W (HG14.out.trans h))
  have m11 : g11 < w'.heap.size := Nat.lt_of_lt_of_le l11 (Nat.le_trans (Nat.le_succ _) (by have := hgw.size; rwa [World.size_alloc] at this))
  have m13 : w13.heap.size < w'.heap.size := by have := hgw.size; rw [World.size_alloc] at this; exact this
  clear hgw hg AW TF
  go_wp2_with fail
  refine Rg.region_text 21 (Below.drew (Below.refl _ _)) (by kernel_rfl) (by kernel_rfl) (fun _ _ d _ _ h => by cases d <;> exact h) ?_
  simp only [List.append_eq, List.cons_append, List.nil_append, List.take_succ_cons, List.take_zero, List.drop_succ_cons, List.drop_zero]
  repeat (first
      | (refine Rg.wpDets_skip (by rfl) ?_; simp only [Act.put, List.setIfInBounds_toArray, List.set_cons_zero, List.set_cons_succ])
      | (refine Rg.wpDets_step ?_ (by rfl) (fun w hS => ?_) ?_
         rotate_left
         · have hc := Gr.cells hS
           have hf := Gr.frees hS
           go_simp
           first
           | (refine ⟨?_, Below.refl _ _⟩; with_reducible rfl)
           | ((with_reducible refine (TT.out _).mono ?_); rintro e w' ⟨rfl, hg⟩; refine ⟨?_, hg⟩; with_reducible rfl)
           | ((with_reducible refine (AWu.out _ hS).mono ?_); rintro e w' ⟨rfl, hg⟩; refine ⟨?_, hg⟩; with_reducible rfl)
         simp only [Act.put, List.setIfInBounds_toArray, List.set_cons_zero, List.set_cons_succ]))
  refine Rg.wpDets_nil ?_
  refine Rg.wpFlts_nil ?_
  refine Rg.wpLays_nil ?_
  intro w' hK
  have hg : Gr _ w' := hK.up
  have hc := hg.cells
  have hf := hg.frees
  have hz := hg.size
  try simp only [World.size_alloc, World.size_setCell, World.size_drew] at hz
  try have : 0 < w'.heap.size := by omega
  try have : w.heap.size < w'.heap.size := by omega
  try have : w.heap.size + 1 < w'.heap.size := by omega
  try have : w.heap.size + 1 + 1 < w'.heap.size := by omega
  try have : w.heap.size + 1 + 1 + 1 < w'.heap.size := by omega
  have hG2 := HG14.out.trans hg
  clear hg
  go_wp2
  go_returns
  exact ⟨rfl, hG2⟩
set_option maxHeartbeats 64000000 in
set_option maxRecDepth 100000 in
theorem sh_101 (w : World) (m : Int) (hm : w.cell? ⟨0, 0, none⟩ = some (.int .i64 m)) : Calls Tryz.prog 4 #[.bool true, .bool false, .bool true] w fun e w' => e = .returned (.bool true) ∧ Gr w w' := by
  have N1 : Hid (∀ W, _) := hid (fun W => lit_s (numV 1) W)
  have N0 : Hid (∀ W, _) := hid (fun W => lit_s (numV 0) W)
  have I1 : Hid (∀ W, _) := hid (fun W => lint_any 1 W)
  have I0 : Hid (∀ W, _) := hid (fun W => lint_any 0 W)
  have B1 : Hid (∀ W, _) := hid (fun W => lit_s (boolV true) W)
  have B0 : Hid (∀ W, _) := hid (fun W => lit_s (boolV false) W)
  have T1 : Hid (∀ W, _) := hid (fun W => ltruth_any true W)
  have T0 : Hid (∀ W, _) := hid (fun W => ltruth_any false W)
  have AW : Hid (∀ W, Gr w W → _) := hid (fun W h => eawake_any W m (Gr.keep h hm))
  clear hm
  unfold numV boolV V.val XR.val xlR at *
  go_enter Tryz.func4, Tryz.ntmps4
  go_wp2_with fail
  refine (I1.out _).mono ?_
  rintro e w1 ⟨rfl, g1⟩
  go_wp2_with fail
  refine (N1.out _).mono ?_
  rintro e w2 ⟨rfl, g2⟩
  go_wp2_with fail
  refine (I0.out _).mono ?_
  rintro e w3 ⟨rfl, g3⟩
  go_wp2_with fail
  refine (N0.out _).mono ?_
  rintro e w4 ⟨rfl, g4⟩
  have HG4 := hid ((g1.trans g2).trans (g3.trans g4))
  clear g1 g2 g3 g4
  go_wp2_with fail
  refine (I1.out _).mono ?_
  rintro e w5 ⟨rfl, g5⟩
  go_wp2_with fail
  refine (N1.out _).mono ?_
  rintro e w6 ⟨rfl, g6⟩
  have HG6 := hid ((HG4.out.alloc _).trans (g5.trans g6))
  have HD6 : Hid (w6.heap[w4.heap.size]? = some (.cells #[.int .i64 1, .int .i64 1, .int .i64 1, .string ⟨#[]⟩, .bool false, .string ⟨#[]⟩, .string ⟨#[]⟩, .int .i64 0, .int .i64 0, .bool false, .bool false, .slice none 0 0, .int .i64 1, .int .i64 1, .int .i64 0, .string ⟨#[]⟩, .bool false, .string ⟨#[]⟩, .string ⟨#[]⟩, .int .i64 0, .int .i64 0, .bool false, .bool false, .slice none 0 0] 26 (0, 0))) := hid (((g5.trans g6).block _ (lt_blk (alloc_at _ _))).trans (alloc_at _ _))
  clear g5 g6 HG4 I1 N1 I0 N0
  generalize w4.heap.size = gA at *
  go_wp2_with fail
  refine (T1.out _).mono ?_
  rintro e w7 ⟨rfl, g7⟩
  have HG7 : Hid (Gr w w7) := hid (((HG6.out.alloc _).alloc _).trans g7)
  have HD7 : Hid (w7.heap[gA]? = some (.cells #[.int .i64 1, .int .i64 1, .int .i64 1, .string ⟨#[]⟩, .bool false, .string ⟨#[]⟩, .string ⟨#[]⟩, .int .i64 0, .int .i64 0, .bool false, .bool false, .slice none 0 0, .int .i64 1, .int .i64 1, .int .i64 0, .string ⟨#[]⟩, .bool false, .string ⟨#[]⟩, .string ⟨#[]⟩, .int .i64 0, .int .i64 0, .bool false, .bool false, .slice none 0 0] 26 (0, 0))) := hid (((((Gr.refl w6).alloc _).alloc _).trans g7 |>.block _ (lt_blk HD6.out)).trans HD6.out)
  have HB7 : Hid (w7.heap[w6.heap.size]? = some (.cells #[.int .i64 21, .int .i64 0, .int .i64 0, .string ⟨#[]⟩, .bool false, .string ⟨#[]⟩, .string ⟨#[]⟩, .int .i64 0, .int .i64 0, .bool false, .bool false, .slice (some ⟨gA, 0, none⟩) 2 2, .int .i64 1, .int .i64 1, .int .i64 1, .string ⟨#[]⟩, .bool false, .string ⟨#[]⟩, .string ⟨#[]⟩, .int .i64 0, .int .i64 0, .bool false, .bool false, .slice none 0 0] 26 (0, 0))) := hid ((g7.block _ (by rw [World.size_alloc, World.size_alloc]; exact Nat.lt_succ_of_lt (Nat.lt_succ_self _))).trans ((((Gr.refl _).alloc _).block _ (by rw [World.size_alloc]; exact Nat.lt_succ_self _)).trans (alloc_at _ _)))
  have HX7 : Hid (w7.heap[w6.heap.size + 1]? = some (.cells #[.int .i64 9, .int .i64 0, .int .i64 0, .string ⟨#[]⟩, .bool false, .string ⟨#[]⟩, .string ⟨#[]⟩, .int .i64 0, .int .i64 0, .bool false, .bool false, .slice (some ⟨w6.heap.size, 0, none⟩) 2 2] 26 (0, 0))) := hid ((g7.block _ (by rw [World.size_alloc, World.size_alloc]; exact Nat.lt_succ_self _)).trans (alloc_two _ _ _))
  clear g7 HG6 HD6 T1
  generalize w6.heap.size + 1 = g8 at *
  generalize w6.heap.size = gB at *
  have HAT : Hid (Ex.At Al w7 badE (⟨{ op := 9 }, some ⟨gB, 0, none⟩, 2, 2⟩ : XR)) := hid (form_at HB7.out rfl (Exs.At.cons (form_at HD7.out rfl (Exs.At.cons (lit_at (numV 1) w7) (Exs.At.cons (lit_at (numV 0) w7) Exs.At.nil)) rfl (by decide)) (Exs.At.cons (lit_at (numV 1) w7) Exs.At.nil)) rfl (by decide))
  clear HD7 HB7
  go_wp2_with fail
  refine (B1.out _).mono ?_
  rintro e w8 ⟨rfl, g8'⟩
  have HG8 := hid (HG7.out.trans g8')
  have HAT8 := hid (at_gr HAT.out g8')
  have HX8 := hid ((g8'.block _ (lt_blk HX7.out)).trans HX7.out)
  clear g8' HG7 HAT HX7 B1
  go_wp2_with fail
  refine (T0.out _).mono ?_
  rintro e w9 ⟨rfl, g9⟩
  go_wp2_with fail
  refine (B0.out _).mono ?_
  rintro e w10 ⟨rfl, g10⟩
  have gg : Gr w8 w10 := ((Gr.refl w8).alloc _).trans (g9.trans g10)
  have H910 : w10.heap[w8.heap.size]? = some (.cells #[.int .i64 1, .int .i64 3, .int .i64 0, .string ⟨#[]⟩, .bool true, .string ⟨#[]⟩, .string ⟨#[]⟩, .int .i64 0, .int .i64 0, .bool false, .bool false, .slice none 0 0] 26 (0, 0)) := ((g9.trans g10).block _ (lt_blk (alloc_at _ _))).trans (alloc_at _ _)
  have l910 := lt_blk H910
  have HN10 : Hid ((w10.alloc (.cells #[.int .i64 1, .int .i64 3, .int .i64 0, .string ⟨#[]⟩, .bool false, .string ⟨#[]⟩, .string ⟨#[]⟩, .int .i64 0, .int .i64 0, .bool false, .bool false, .slice none 0 0] 26)).heap[w8.heap.size]? = some (.cells #[.int .i64 1, .int .i64 3, .int .i64 0, .string ⟨#[]⟩, .bool true, .string ⟨#[]⟩, .string ⟨#[]⟩, .int .i64 0, .int .i64 0, .bool false, .bool false, .slice none 0 0] 26 (0, 0))) := hid ((((Gr.refl w10).alloc _).block _ l910).trans H910)
  have SU : Hid (∀ U, Go1 w8.heap.size (w10.alloc (.cells #[.int .i64 1, .int .i64 3, .int .i64 0, .string ⟨#[]⟩, .bool false, .string ⟨#[]⟩, .string ⟨#[]⟩, .int .i64 0, .int .i64 0, .bool false, .bool false, .slice none 0 0] 26)) U → Gr w U ∧ Ex.At Al U badE (⟨{ op := 9 }, some ⟨gB, 0, none⟩, 2, 2⟩ : XR) ∧ Ex.At Al U (trE true true) (⟨{ op := 8 }, some ⟨w10.heap.size, 0, none⟩, 1, 1⟩ : XR) ∧ U.heap[g8]? = some (.cells #[.int .i64 9, .int .i64 0, .int .i64 0, .string ⟨#[]⟩, .bool false, .string ⟨#[]⟩, .string ⟨#[]⟩, .int .i64 0, .int .i64 0, .bool false, .bool false, .slice (some ⟨gB, 0, none⟩) 2 2] 26 (0, 0))) := hid (fun U gU => by
    have hlow : ∀ b, b < w8.heap.size → U.heap[b]? = w8.heap[b]? := fun b hb => (gU.get (by rw [World.size_alloc]; exact Nat.lt_succ_of_lt (Nat.lt_trans hb l910)) (Nat.ne_of_lt hb)).trans ((((Gr.refl w10).alloc _).block _ (Nat.lt_trans hb l910)).trans (gg.block _ hb))
    have hsz : w8.heap.size ≤ U.heap.size := Nat.le_trans (Nat.le_of_lt l910) (Nat.le_trans (by rw [World.size_alloc]; exact Nat.le_succ _) gU.size)
    refine ⟨((HG8.out.trans gg).alloc _).grown gU (fun k e => by cases e; exact HG8.out.size), ?_, ?_, (hlow _ (lt_blk HX8.out)).trans HX8.out⟩
    · exact ((HAT8.out.mono (S' := fun b => b < w8.heap.size) (fun b hb _ => hb)).of hsz (fun b hb _ => hlow b hb)).mono (fun _ _ _ => trivial)
    · exact form_at ((gU.get (by rw [World.size_alloc]; exact Nat.lt_succ_self _) (Nat.ne_of_gt l910)).trans (alloc_at w10 _)) rfl (Exs.At.cons (lit_at (boolV false) U) Exs.At.nil) rfl (by decide))
  clear gg g9 g10 HG8 HAT8 HX8 T0 B0 H910
  go_wp2_with (guard_target =~ wpList _ _ _ (Oper.mk _ (Op.store 26 (Operand.tmp 9) _) _ _ _ _ :: _) _ _; refine st_row (ty := 26) rfl rfl w8.heap.size #[.int .i64 8, .int .i64 0, .int .i64 0, .string ⟨#[]⟩, .bool false, .string ⟨#[]⟩, .string ⟨#[]⟩, .int .i64 0, .int .i64 0, .bool false, .bool false, .slice (some ⟨w10.heap.size, 0, none⟩) 1 1] rfl rfl 26 _ HN10.out (by kernel_rfl) rfl (by kernel_rfl) ?_; intro U hU gU zU; obtain ⟨hGU, hAU, hTU, c8⟩ := SU.out U gU; have HGU := hid hGU; have HAU := hid hAU; have HTU := hid hTU; have c9 := Rg.blk_cells hU; have c8c := Rg.blk_cells c8; have l8 := lt_blk c8; have l9 := lt_blk hU; clear gU zU hU c8 hGU hAU hTU SU HN10)
  have KX : Hid (∀ W g cs, Gr U W → W.heap[g]? = some (.cells cs 26 (0, 0)) → cs.toList = cellsF xF [(⟨{ op := 8 }, some ⟨w10.heap.size, 0, none⟩, 1, 1⟩ : XR), (⟨{ op := 9 }, some ⟨gB, 0, none⟩, 2, 2⟩ : XR)] → Calls Tryz.prog 8 #[XR.val ⟨{ op := 7 }, some ⟨g, 0, none⟩, 2, 2⟩, .slice none 0 0, .slice none 0 0] W (Vp (⟨0, 0, ⟨#[]⟩, false⟩, 162) W) ∧ Calls Tryz.prog 8 #[XR.val ⟨{ op := 6 }, some ⟨g, 0, none⟩, 2, 2⟩, .slice none 0 0, .slice none 0 0] W (Vp (⟨3, 0, ⟨#[]⟩, true⟩, 0) W)) := hid (fun W g cs G hg hcs => ⟨sh_call 7 (.inl rfl) true false true [(⟨{ op := 8 }, some ⟨w10.heap.size, 0, none⟩, 1, 1⟩ : XR), (⟨{ op := 9 }, some ⟨gB, 0, none⟩, 2, 2⟩ : XR)] W g cs hg hcs (Exs.At.cons (at_gr HTU.out G) (Exs.At.cons (at_gr HAU.out G) Exs.At.nil)) _ (and_ev true false true), sh_call 6 (.inr rfl) true false true [(⟨{ op := 8 }, some ⟨w10.heap.size, 0, none⟩, 1, 1⟩ : XR), (⟨{ op := 9 }, some ⟨gB, 0, none⟩, 2, 2⟩ : XR)] W g cs hg hcs (Exs.At.cons (at_gr HTU.out G) (Exs.At.cons (at_gr HAU.out G) Exs.At.nil)) _ (or_ev true false true)⟩)
  clear HAU HTU
  have HGX : Hid (((U.alloc (.cells #[.int .i64 8, .int .i64 0, .int .i64 0, .string ⟨#[]⟩, .bool false, .string ⟨#[]⟩, .string ⟨#[]⟩, .int .i64 0, .int .i64 0, .bool false, .bool false, .slice (some ⟨w10.heap.size, 0, none⟩) 1 1, .int .i64 9, .int .i64 0, .int .i64 0, .string ⟨#[]⟩, .bool false, .string ⟨#[]⟩, .string ⟨#[]⟩, .int .i64 0, .int .i64 0, .bool false, .bool false, .slice (some ⟨gB, 0, none⟩) 2 2] 26))).heap[U.heap.size]? = some (.cells #[.int .i64 8, .int .i64 0, .int .i64 0, .string ⟨#[]⟩, .bool false, .string ⟨#[]⟩, .string ⟨#[]⟩, .int .i64 0, .int .i64 0, .bool false, .bool false, .slice (some ⟨w10.heap.size, 0, none⟩) 1 1, .int .i64 9, .int .i64 0, .int .i64 0, .string ⟨#[]⟩, .bool false, .string ⟨#[]⟩, .string ⟨#[]⟩, .int .i64 0, .int .i64 0, .bool false, .bool false, .slice (some ⟨gB, 0, none⟩) 2 2] 26 (0, 0))) := hid (alloc_at _ _)
  have HGW : Hid (Gr w (U.alloc (.cells #[.int .i64 8, .int .i64 0, .int .i64 0, .string ⟨#[]⟩, .bool false, .string ⟨#[]⟩, .string ⟨#[]⟩, .int .i64 0, .int .i64 0, .bool false, .bool false, .slice (some ⟨w10.heap.size, 0, none⟩) 1 1, .int .i64 9, .int .i64 0, .int .i64 0, .string ⟨#[]⟩, .bool false, .string ⟨#[]⟩, .string ⟨#[]⟩, .int .i64 0, .int .i64 0, .bool false, .bool false, .slice (some ⟨gB, 0, none⟩) 2 2] 26))) := hid (HGU.out.alloc _)
  have KA := hid (KX.out (U.alloc (.cells #[.int .i64 8, .int .i64 0, .int .i64 0, .string ⟨#[]⟩, .bool false, .string ⟨#[]⟩, .string ⟨#[]⟩, .int .i64 0, .int .i64 0, .bool false, .bool false, .slice (some ⟨w10.heap.size, 0, none⟩) 1 1, .int .i64 9, .int .i64 0, .int .i64 0, .string ⟨#[]⟩, .bool false, .string ⟨#[]⟩, .string ⟨#[]⟩, .int .i64 0, .int .i64 0, .bool false, .bool false, .slice (some ⟨gB, 0, none⟩) 2 2] 26)) (U.heap.size) #[.int .i64 8, .int .i64 0, .int .i64 0, .string ⟨#[]⟩, .bool false, .string ⟨#[]⟩, .string ⟨#[]⟩, .int .i64 0, .int .i64 0, .bool false, .bool false, .slice (some ⟨w10.heap.size, 0, none⟩) 1 1, .int .i64 9, .int .i64 0, .int .i64 0, .string ⟨#[]⟩, .bool false, .string ⟨#[]⟩, .string ⟨#[]⟩, .int .i64 0, .int .i64 0, .bool false, .bool false, .slice (some ⟨gB, 0, none⟩) 2 2] ((Gr.refl _).alloc _) HGX.out rfl).1
  unfold XR.val Vp pairR at KA
  refine KA.out.mono ?_
  rintro e w12 ⟨rfl, g12⟩
  have G12 : Gr (U.alloc (.cells #[.int .i64 8, .int .i64 0, .int .i64 0, .string ⟨#[]⟩, .bool false, .string ⟨#[]⟩, .string ⟨#[]⟩, .int .i64 0, .int .i64 0, .bool false, .bool false, .slice (some ⟨w10.heap.size, 0, none⟩) 1 1, .int .i64 9, .int .i64 0, .int .i64 0, .string ⟨#[]⟩, .bool false, .string ⟨#[]⟩, .string ⟨#[]⟩, .int .i64 0, .int .i64 0, .bool false, .bool false, .slice (some ⟨gB, 0, none⟩) 2 2] 26)) (w12.alloc (.cells #[.int .i64 0, .int .i64 0, .string ⟨#[]⟩, .bool false] 23)) := g12.alloc _
  have HX2 : Hid ((w12.alloc (.cells #[.int .i64 0, .int .i64 0, .string ⟨#[]⟩, .bool false] 23)).heap[U.heap.size]? = some (.cells #[.int .i64 8, .int .i64 0, .int .i64 0, .string ⟨#[]⟩, .bool false, .string ⟨#[]⟩, .string ⟨#[]⟩, .int .i64 0, .int .i64 0, .bool false, .bool false, .slice (some ⟨w10.heap.size, 0, none⟩) 1 1, .int .i64 9, .int .i64 0, .int .i64 0, .string ⟨#[]⟩, .bool false, .string ⟨#[]⟩, .string ⟨#[]⟩, .int .i64 0, .int .i64 0, .bool false, .bool false, .slice (some ⟨gB, 0, none⟩) 2 2] 26 (0, 0))) := hid ((G12.block _ (lt_blk HGX.out)).trans HGX.out)
  have KB := hid (KX.out (w12.alloc (.cells #[.int .i64 0, .int .i64 0, .string ⟨#[]⟩, .bool false] 23)) (U.heap.size) #[.int .i64 8, .int .i64 0, .int .i64 0, .string ⟨#[]⟩, .bool false, .string ⟨#[]⟩, .string ⟨#[]⟩, .int .i64 0, .int .i64 0, .bool false, .bool false, .slice (some ⟨w10.heap.size, 0, none⟩) 1 1, .int .i64 9, .int .i64 0, .int .i64 0, .string ⟨#[]⟩, .bool false, .string ⟨#[]⟩, .string ⟨#[]⟩, .int .i64 0, .int .i64 0, .bool false, .bool false, .slice (some ⟨gB, 0, none⟩) 2 2] (((Gr.refl _).alloc _).trans G12) HX2.out rfl).2
  have HGV := hid (HGW.out.trans G12)
  unfold XR.val Vp pairR at KB
  clear KA KX HGX HX2 G12 g12 HGW
  go_wp2_with fail
  refine KB.out.mono ?_
  rintro e w13 ⟨rfl, g13⟩
  have HG13 := hid (HGV.out.trans g13)
  have h11 : w13.heap[w12.heap.size]? = some (.cells #[.int .i64 0, .int .i64 0, .string ⟨#[]⟩, .bool false] 23 (0, 0)) := (g13.block _ (lt_blk (alloc_at _ _))).trans (alloc_at _ _)
  have d11 := Rg.blk_cells h11
  have l11 := lt_blk h11
  have l11' : w12.heap.size < w13.heap.size + 1 := Nat.lt_succ_of_lt l11
  clear h11 KB HGV g13
  generalize w12.heap.size = g11 at *
  have s2 := v_same 3 0 ⟨#[]⟩ false
  have s3 := v_same 3 0 ⟨#[]⟩ true
  have tg := v_guard
  have TF := hid (fun W => ltruth_any false W)
  have TT := hid (fun W => ltruth_any true W)
  go_wp2_with fail
  refine Rg.region_text 17 (Below.drew (Below.refl _ _)) (by kernel_rfl) (by kernel_rfl) (fun _ _ d _ _ h => by cases d <;> exact h) ?_
  simp only [List.append_eq, List.cons_append, List.nil_append, List.take_succ_cons, List.take_zero, List.drop_succ_cons, List.drop_zero]
  repeat (first
      | (refine Rg.wpDets_skip (by rfl) ?_; simp only [Act.put, List.setIfInBounds_toArray, List.set_cons_zero, List.set_cons_succ])
      | (refine Rg.wpDets_step ?_ (by rfl) (fun w hS => ?_) ?_
         rotate_left
         · have hc := Gr.cells hS
           have hf := Gr.frees hS
           go_simp
           first
           | (refine ⟨?_, Below.refl _ _⟩; with_reducible rfl)
           | ((with_reducible refine (TF.out _).mono ?_); rintro e w' ⟨rfl, hg⟩; refine ⟨?_, hg⟩; with_reducible rfl)
         simp only [Act.put, List.setIfInBounds_toArray, List.set_cons_zero, List.set_cons_succ]))
  refine Rg.wpDets_nil ?_
  refine Rg.wpFlts_nil ?_
  refine Rg.wpLays_nil ?_
  intro w' hK
  have hg : Gr _ w' := hK.up
  have hc := hg.cells
  have hf := hg.frees
  have hz := hg.size
  try simp only [World.size_alloc, World.size_setCell, World.size_drew] at hz
  try have : 0 < w'.heap.size := by omega
  try have : w.heap.size < w'.heap.size := by omega
  try have : w.heap.size + 1 < w'.heap.size := by omega
  try have : w.heap.size + 1 + 1 < w'.heap.size := by omega
  try have : w.heap.size + 1 + 1 + 1 < w'.heap.size := by omega
  have hgw : Gr (w13.alloc (.cells #[.int .i64 3, .int .i64 0, .string ⟨#[]⟩, .bool true] 23)) w' := hg
  have HG14 := hid ((HG13.out.alloc (.cells #[.int .i64 3, .int .i64 0, .string ⟨#[]⟩, .bool true] 23)).trans hgw)
  have AWu := hid (fun W (h : Rg.Up w' W) => AW.out W (HG14.out.trans h))
  have m11 : g11 < w'.heap.size := Nat.lt_of_lt_of_le l11 (Nat.le_trans (Nat.le_succ _) (by have := hgw.size; rwa [World.size_alloc] at this))
  have m13 : w13.heap.size < w'.heap.size := by have := hgw.size; rw [World.size_alloc] at this; exact this
  clear hgw hg AW TF
  go_wp2_with fail
  refine Rg.region_text 21 (Below.drew (Below.refl _ _)) (by kernel_rfl) (by kernel_rfl) (fun _ _ d _ _ h => by cases d <;> exact h) ?_
  simp only [List.append_eq, List.cons_append, List.nil_append, List.take_succ_cons, List.take_zero, List.drop_succ_cons, List.drop_zero]
  repeat (first
      | (refine Rg.wpDets_skip (by rfl) ?_; simp only [Act.put, List.setIfInBounds_toArray, List.set_cons_zero, List.set_cons_succ])
      | (refine Rg.wpDets_step ?_ (by rfl) (fun w hS => ?_) ?_
         rotate_left
         · have hc := Gr.cells hS
           have hf := Gr.frees hS
           go_simp
           first
           | (refine ⟨?_, Below.refl _ _⟩; with_reducible rfl)
           | ((with_reducible refine (TT.out _).mono ?_); rintro e w' ⟨rfl, hg⟩; refine ⟨?_, hg⟩; with_reducible rfl)
           | ((with_reducible refine (AWu.out _ hS).mono ?_); rintro e w' ⟨rfl, hg⟩; refine ⟨?_, hg⟩; with_reducible rfl)
         simp only [Act.put, List.setIfInBounds_toArray, List.set_cons_zero, List.set_cons_succ]))
  refine Rg.wpDets_nil ?_
  refine Rg.wpFlts_nil ?_
  refine Rg.wpLays_nil ?_
  intro w' hK
  have hg : Gr _ w' := hK.up
  have hc := hg.cells
  have hf := hg.frees
  have hz := hg.size
  try simp only [World.size_alloc, World.size_setCell, World.size_drew] at hz
  try have : 0 < w'.heap.size := by omega
  try have : w.heap.size < w'.heap.size := by omega
  try have : w.heap.size + 1 < w'.heap.size := by omega
  try have : w.heap.size + 1 + 1 < w'.heap.size := by omega
  try have : w.heap.size + 1 + 1 + 1 < w'.heap.size := by omega
  have hG2 := HG14.out.trans hg
  clear hg
  go_wp2
  go_returns
  exact ⟨rfl, hG2⟩
set_option maxHeartbeats 64000000 in
set_option maxRecDepth 100000 in
theorem sh_110 (w : World) (m : Int) (hm : w.cell? ⟨0, 0, none⟩ = some (.int .i64 m)) : Calls Tryz.prog 4 #[.bool true, .bool true, .bool false] w fun e w' => e = .returned (.bool true) ∧ Gr w w' := by
  have N1 : Hid (∀ W, _) := hid (fun W => lit_s (numV 1) W)
  have N0 : Hid (∀ W, _) := hid (fun W => lit_s (numV 0) W)
  have I1 : Hid (∀ W, _) := hid (fun W => lint_any 1 W)
  have I0 : Hid (∀ W, _) := hid (fun W => lint_any 0 W)
  have B1 : Hid (∀ W, _) := hid (fun W => lit_s (boolV true) W)
  have B0 : Hid (∀ W, _) := hid (fun W => lit_s (boolV false) W)
  have T1 : Hid (∀ W, _) := hid (fun W => ltruth_any true W)
  have T0 : Hid (∀ W, _) := hid (fun W => ltruth_any false W)
  have AW : Hid (∀ W, Gr w W → _) := hid (fun W h => eawake_any W m (Gr.keep h hm))
  clear hm
  unfold numV boolV V.val XR.val xlR at *
  go_enter Tryz.func4, Tryz.ntmps4
  go_wp2_with fail
  refine (I1.out _).mono ?_
  rintro e w1 ⟨rfl, g1⟩
  go_wp2_with fail
  refine (N1.out _).mono ?_
  rintro e w2 ⟨rfl, g2⟩
  go_wp2_with fail
  refine (I0.out _).mono ?_
  rintro e w3 ⟨rfl, g3⟩
  go_wp2_with fail
  refine (N0.out _).mono ?_
  rintro e w4 ⟨rfl, g4⟩
  have HG4 := hid ((g1.trans g2).trans (g3.trans g4))
  clear g1 g2 g3 g4
  go_wp2_with fail
  refine (I1.out _).mono ?_
  rintro e w5 ⟨rfl, g5⟩
  go_wp2_with fail
  refine (N1.out _).mono ?_
  rintro e w6 ⟨rfl, g6⟩
  have HG6 := hid ((HG4.out.alloc _).trans (g5.trans g6))
  have HD6 : Hid (w6.heap[w4.heap.size]? = some (.cells #[.int .i64 1, .int .i64 1, .int .i64 1, .string ⟨#[]⟩, .bool false, .string ⟨#[]⟩, .string ⟨#[]⟩, .int .i64 0, .int .i64 0, .bool false, .bool false, .slice none 0 0, .int .i64 1, .int .i64 1, .int .i64 0, .string ⟨#[]⟩, .bool false, .string ⟨#[]⟩, .string ⟨#[]⟩, .int .i64 0, .int .i64 0, .bool false, .bool false, .slice none 0 0] 26 (0, 0))) := hid (((g5.trans g6).block _ (lt_blk (alloc_at _ _))).trans (alloc_at _ _))
  clear g5 g6 HG4 I1 N1 I0 N0
  generalize w4.heap.size = gA at *
  go_wp2_with fail
  refine (T1.out _).mono ?_
  rintro e w7 ⟨rfl, g7⟩
  have HG7 : Hid (Gr w w7) := hid (((HG6.out.alloc _).alloc _).trans g7)
  have HD7 : Hid (w7.heap[gA]? = some (.cells #[.int .i64 1, .int .i64 1, .int .i64 1, .string ⟨#[]⟩, .bool false, .string ⟨#[]⟩, .string ⟨#[]⟩, .int .i64 0, .int .i64 0, .bool false, .bool false, .slice none 0 0, .int .i64 1, .int .i64 1, .int .i64 0, .string ⟨#[]⟩, .bool false, .string ⟨#[]⟩, .string ⟨#[]⟩, .int .i64 0, .int .i64 0, .bool false, .bool false, .slice none 0 0] 26 (0, 0))) := hid (((((Gr.refl w6).alloc _).alloc _).trans g7 |>.block _ (lt_blk HD6.out)).trans HD6.out)
  have HB7 : Hid (w7.heap[w6.heap.size]? = some (.cells #[.int .i64 21, .int .i64 0, .int .i64 0, .string ⟨#[]⟩, .bool false, .string ⟨#[]⟩, .string ⟨#[]⟩, .int .i64 0, .int .i64 0, .bool false, .bool false, .slice (some ⟨gA, 0, none⟩) 2 2, .int .i64 1, .int .i64 1, .int .i64 1, .string ⟨#[]⟩, .bool false, .string ⟨#[]⟩, .string ⟨#[]⟩, .int .i64 0, .int .i64 0, .bool false, .bool false, .slice none 0 0] 26 (0, 0))) := hid ((g7.block _ (by rw [World.size_alloc, World.size_alloc]; exact Nat.lt_succ_of_lt (Nat.lt_succ_self _))).trans ((((Gr.refl _).alloc _).block _ (by rw [World.size_alloc]; exact Nat.lt_succ_self _)).trans (alloc_at _ _)))
  have HX7 : Hid (w7.heap[w6.heap.size + 1]? = some (.cells #[.int .i64 9, .int .i64 0, .int .i64 0, .string ⟨#[]⟩, .bool false, .string ⟨#[]⟩, .string ⟨#[]⟩, .int .i64 0, .int .i64 0, .bool false, .bool false, .slice (some ⟨w6.heap.size, 0, none⟩) 2 2] 26 (0, 0))) := hid ((g7.block _ (by rw [World.size_alloc, World.size_alloc]; exact Nat.lt_succ_self _)).trans (alloc_two _ _ _))
  clear g7 HG6 HD6 T1
  generalize w6.heap.size + 1 = g8 at *
  generalize w6.heap.size = gB at *
  have HAT : Hid (Ex.At Al w7 badE (⟨{ op := 9 }, some ⟨gB, 0, none⟩, 2, 2⟩ : XR)) := hid (form_at HB7.out rfl (Exs.At.cons (form_at HD7.out rfl (Exs.At.cons (lit_at (numV 1) w7) (Exs.At.cons (lit_at (numV 0) w7) Exs.At.nil)) rfl (by decide)) (Exs.At.cons (lit_at (numV 1) w7) Exs.At.nil)) rfl (by decide))
  clear HD7 HB7
  go_wp2_with fail
  refine (B1.out _).mono ?_
  rintro e w8 ⟨rfl, g8'⟩
  have HG8 := hid (HG7.out.trans g8')
  have HAT8 := hid (at_gr HAT.out g8')
  have HX8 := hid ((g8'.block _ (lt_blk HX7.out)).trans HX7.out)
  clear g8' HG7 HAT HX7 B1
  have HGU := hid (HG8.out.alloc (.cells #[.int .i64 1, .int .i64 3, .int .i64 0, .string ⟨#[]⟩, .bool true, .string ⟨#[]⟩, .string ⟨#[]⟩, .int .i64 0, .int .i64 0, .bool false, .bool false, .slice none 0 0] 26))
  have HAU := hid (at_gr HAT8.out ((Gr.refl w8).alloc (.cells #[.int .i64 1, .int .i64 3, .int .i64 0, .string ⟨#[]⟩, .bool true, .string ⟨#[]⟩, .string ⟨#[]⟩, .int .i64 0, .int .i64 0, .bool false, .bool false, .slice none 0 0] 26)))
  have HTU : Hid (Ex.At Al (w8.alloc (.cells #[.int .i64 1, .int .i64 3, .int .i64 0, .string ⟨#[]⟩, .bool true, .string ⟨#[]⟩, .string ⟨#[]⟩, .int .i64 0, .int .i64 0, .bool false, .bool false, .slice none 0 0] 26)) (trE true false) (xlR (boolV true))) := hid (lit_at _ _)
  have c8c := Rg.blk_cells HX8.out
  have l8 := lt_blk HX8.out
  clear HG8 HAT8 HX8 T0 B0
  go_wp2_with fail
  have KX : Hid (∀ W g cs, Gr (w8.alloc (.cells #[.int .i64 1, .int .i64 3, .int .i64 0, .string ⟨#[]⟩, .bool true, .string ⟨#[]⟩, .string ⟨#[]⟩, .int .i64 0, .int .i64 0, .bool false, .bool false, .slice none 0 0] 26)) W → W.heap[g]? = some (.cells cs 26 (0, 0)) → cs.toList = cellsF xF [(⟨{ op := 9 }, some ⟨gB, 0, none⟩, 2, 2⟩ : XR), (xlR (boolV true))] → Calls Tryz.prog 8 #[XR.val ⟨{ op := 7 }, some ⟨g, 0, none⟩, 2, 2⟩, .slice none 0 0, .slice none 0 0] W (Vp (⟨0, 0, ⟨#[]⟩, false⟩, 162) W) ∧ Calls Tryz.prog 8 #[XR.val ⟨{ op := 6 }, some ⟨g, 0, none⟩, 2, 2⟩, .slice none 0 0, .slice none 0 0] W (Vp (⟨0, 0, ⟨#[]⟩, false⟩, 162) W)) := hid (fun W g cs G hg hcs => ⟨sh_call 7 (.inl rfl) true true false [(⟨{ op := 9 }, some ⟨gB, 0, none⟩, 2, 2⟩ : XR), (xlR (boolV true))] W g cs hg hcs (Exs.At.cons (at_gr HAU.out G) (Exs.At.cons (at_gr HTU.out G) Exs.At.nil)) _ (and_ev true true false), sh_call 6 (.inr rfl) true true false [(⟨{ op := 9 }, some ⟨gB, 0, none⟩, 2, 2⟩ : XR), (xlR (boolV true))] W g cs hg hcs (Exs.At.cons (at_gr HAU.out G) (Exs.At.cons (at_gr HTU.out G) Exs.At.nil)) _ (or_ev true true false)⟩)
  clear HAU HTU
  have HGX : Hid (((((w8.alloc (.cells #[.int .i64 1, .int .i64 3, .int .i64 0, .string ⟨#[]⟩, .bool true, .string ⟨#[]⟩, .string ⟨#[]⟩, .int .i64 0, .int .i64 0, .bool false, .bool false, .slice none 0 0] 26)).alloc (.cells #[.int .i64 1, .int .i64 3, .int .i64 0, .string ⟨#[]⟩, .bool true, .string ⟨#[]⟩, .string ⟨#[]⟩, .int .i64 0, .int .i64 0, .bool false, .bool false, .slice none 0 0, .int .i64 9, .int .i64 0, .int .i64 0, .string ⟨#[]⟩, .bool false, .string ⟨#[]⟩, .string ⟨#[]⟩, .int .i64 0, .int .i64 0, .bool false, .bool false, .slice (some ⟨gB, 0, none⟩) 2 2] 26)).alloc (.cells #[.int .i64 9, .int .i64 0, .int .i64 0, .string ⟨#[]⟩, .bool false, .string ⟨#[]⟩, .string ⟨#[]⟩, .int .i64 0, .int .i64 0, .bool false, .bool false, .slice (some ⟨gB, 0, none⟩) 2 2, .int .i64 1, .int .i64 3, .int .i64 0, .string ⟨#[]⟩, .bool true, .string ⟨#[]⟩, .string ⟨#[]⟩, .int .i64 0, .int .i64 0, .bool false, .bool false, .slice none 0 0] 26))).heap[w8.heap.size + 1 + 1]? = some (.cells #[.int .i64 9, .int .i64 0, .int .i64 0, .string ⟨#[]⟩, .bool false, .string ⟨#[]⟩, .string ⟨#[]⟩, .int .i64 0, .int .i64 0, .bool false, .bool false, .slice (some ⟨gB, 0, none⟩) 2 2, .int .i64 1, .int .i64 3, .int .i64 0, .string ⟨#[]⟩, .bool true, .string ⟨#[]⟩, .string ⟨#[]⟩, .int .i64 0, .int .i64 0, .bool false, .bool false, .slice none 0 0] 26 (0, 0))) := hid (alloc_3 _ _ _ _)
  have HGW : Hid (Gr w (((w8.alloc (.cells #[.int .i64 1, .int .i64 3, .int .i64 0, .string ⟨#[]⟩, .bool true, .string ⟨#[]⟩, .string ⟨#[]⟩, .int .i64 0, .int .i64 0, .bool false, .bool false, .slice none 0 0] 26)).alloc (.cells #[.int .i64 1, .int .i64 3, .int .i64 0, .string ⟨#[]⟩, .bool true, .string ⟨#[]⟩, .string ⟨#[]⟩, .int .i64 0, .int .i64 0, .bool false, .bool false, .slice none 0 0, .int .i64 9, .int .i64 0, .int .i64 0, .string ⟨#[]⟩, .bool false, .string ⟨#[]⟩, .string ⟨#[]⟩, .int .i64 0, .int .i64 0, .bool false, .bool false, .slice (some ⟨gB, 0, none⟩) 2 2] 26)).alloc (.cells #[.int .i64 9, .int .i64 0, .int .i64 0, .string ⟨#[]⟩, .bool false, .string ⟨#[]⟩, .string ⟨#[]⟩, .int .i64 0, .int .i64 0, .bool false, .bool false, .slice (some ⟨gB, 0, none⟩) 2 2, .int .i64 1, .int .i64 3, .int .i64 0, .string ⟨#[]⟩, .bool true, .string ⟨#[]⟩, .string ⟨#[]⟩, .int .i64 0, .int .i64 0, .bool false, .bool false, .slice none 0 0] 26))) := hid (HGU.out.alloc _ |>.alloc _)
  have KA := hid (KX.out (((w8.alloc (.cells #[.int .i64 1, .int .i64 3, .int .i64 0, .string ⟨#[]⟩, .bool true, .string ⟨#[]⟩, .string ⟨#[]⟩, .int .i64 0, .int .i64 0, .bool false, .bool false, .slice none 0 0] 26)).alloc (.cells #[.int .i64 1, .int .i64 3, .int .i64 0, .string ⟨#[]⟩, .bool true, .string ⟨#[]⟩, .string ⟨#[]⟩, .int .i64 0, .int .i64 0, .bool false, .bool false, .slice none 0 0, .int .i64 9, .int .i64 0, .int .i64 0, .string ⟨#[]⟩, .bool false, .string ⟨#[]⟩, .string ⟨#[]⟩, .int .i64 0, .int .i64 0, .bool false, .bool false, .slice (some ⟨gB, 0, none⟩) 2 2] 26)).alloc (.cells #[.int .i64 9, .int .i64 0, .int .i64 0, .string ⟨#[]⟩, .bool false, .string ⟨#[]⟩, .string ⟨#[]⟩, .int .i64 0, .int .i64 0, .bool false, .bool false, .slice (some ⟨gB, 0, none⟩) 2 2, .int .i64 1, .int .i64 3, .int .i64 0, .string ⟨#[]⟩, .bool true, .string ⟨#[]⟩, .string ⟨#[]⟩, .int .i64 0, .int .i64 0, .bool false, .bool false, .slice none 0 0] 26)) (w8.heap.size + 1 + 1) #[.int .i64 9, .int .i64 0, .int .i64 0, .string ⟨#[]⟩, .bool false, .string ⟨#[]⟩, .string ⟨#[]⟩, .int .i64 0, .int .i64 0, .bool false, .bool false, .slice (some ⟨gB, 0, none⟩) 2 2, .int .i64 1, .int .i64 3, .int .i64 0, .string ⟨#[]⟩, .bool true, .string ⟨#[]⟩, .string ⟨#[]⟩, .int .i64 0, .int .i64 0, .bool false, .bool false, .slice none 0 0] (((Gr.refl _).alloc _).alloc _) HGX.out rfl).1
  unfold XR.val Vp pairR at KA
  refine KA.out.mono ?_
  rintro e w12 ⟨rfl, g12⟩
  have G12 : Gr (((w8.alloc (.cells #[.int .i64 1, .int .i64 3, .int .i64 0, .string ⟨#[]⟩, .bool true, .string ⟨#[]⟩, .string ⟨#[]⟩, .int .i64 0, .int .i64 0, .bool false, .bool false, .slice none 0 0] 26)).alloc (.cells #[.int .i64 1, .int .i64 3, .int .i64 0, .string ⟨#[]⟩, .bool true, .string ⟨#[]⟩, .string ⟨#[]⟩, .int .i64 0, .int .i64 0, .bool false, .bool false, .slice none 0 0, .int .i64 9, .int .i64 0, .int .i64 0, .string ⟨#[]⟩, .bool false, .string ⟨#[]⟩, .string ⟨#[]⟩, .int .i64 0, .int .i64 0, .bool false, .bool false, .slice (some ⟨gB, 0, none⟩) 2 2] 26)).alloc (.cells #[.int .i64 9, .int .i64 0, .int .i64 0, .string ⟨#[]⟩, .bool false, .string ⟨#[]⟩, .string ⟨#[]⟩, .int .i64 0, .int .i64 0, .bool false, .bool false, .slice (some ⟨gB, 0, none⟩) 2 2, .int .i64 1, .int .i64 3, .int .i64 0, .string ⟨#[]⟩, .bool true, .string ⟨#[]⟩, .string ⟨#[]⟩, .int .i64 0, .int .i64 0, .bool false, .bool false, .slice none 0 0] 26)) (w12.alloc (.cells #[.int .i64 0, .int .i64 0, .string ⟨#[]⟩, .bool false] 23)) := g12.alloc _
  have HX2 : Hid ((w12.alloc (.cells #[.int .i64 0, .int .i64 0, .string ⟨#[]⟩, .bool false] 23)).heap[w8.heap.size + 1 + 1]? = some (.cells #[.int .i64 9, .int .i64 0, .int .i64 0, .string ⟨#[]⟩, .bool false, .string ⟨#[]⟩, .string ⟨#[]⟩, .int .i64 0, .int .i64 0, .bool false, .bool false, .slice (some ⟨gB, 0, none⟩) 2 2, .int .i64 1, .int .i64 3, .int .i64 0, .string ⟨#[]⟩, .bool true, .string ⟨#[]⟩, .string ⟨#[]⟩, .int .i64 0, .int .i64 0, .bool false, .bool false, .slice none 0 0] 26 (0, 0))) := hid ((G12.block _ (lt_blk HGX.out)).trans HGX.out)
  have KB := hid (KX.out (w12.alloc (.cells #[.int .i64 0, .int .i64 0, .string ⟨#[]⟩, .bool false] 23)) (w8.heap.size + 1 + 1) #[.int .i64 9, .int .i64 0, .int .i64 0, .string ⟨#[]⟩, .bool false, .string ⟨#[]⟩, .string ⟨#[]⟩, .int .i64 0, .int .i64 0, .bool false, .bool false, .slice (some ⟨gB, 0, none⟩) 2 2, .int .i64 1, .int .i64 3, .int .i64 0, .string ⟨#[]⟩, .bool true, .string ⟨#[]⟩, .string ⟨#[]⟩, .int .i64 0, .int .i64 0, .bool false, .bool false, .slice none 0 0] ((((Gr.refl _).alloc _).alloc _).trans G12) HX2.out rfl).2
  have HGV := hid (HGW.out.trans G12)
  unfold XR.val Vp pairR at KB
  clear KA KX HGX HX2 G12 g12 HGW
  go_wp2_with fail
  refine KB.out.mono ?_
  rintro e w13 ⟨rfl, g13⟩
  have HG13 := hid (HGV.out.trans g13)
  have h11 : w13.heap[w12.heap.size]? = some (.cells #[.int .i64 0, .int .i64 0, .string ⟨#[]⟩, .bool false] 23 (0, 0)) := (g13.block _ (lt_blk (alloc_at _ _))).trans (alloc_at _ _)
  have d11 := Rg.blk_cells h11
  have l11 := lt_blk h11
  have l11' : w12.heap.size < w13.heap.size + 1 := Nat.lt_succ_of_lt l11
  clear h11 KB HGV g13
  generalize w12.heap.size = g11 at *
  have s2 := v_same 3 0 ⟨#[]⟩ false
  have s3 := v_same 3 0 ⟨#[]⟩ true
  have tg := v_guard
  have TF := hid (fun W => ltruth_any false W)
  have TT := hid (fun W => ltruth_any true W)
  go_wp2_with fail
  refine Rg.region_text 17 (Below.drew (Below.refl _ _)) (by kernel_rfl) (by kernel_rfl) (fun _ _ d _ _ h => by cases d <;> exact h) ?_
  simp only [List.append_eq, List.cons_append, List.nil_append, List.take_succ_cons, List.take_zero, List.drop_succ_cons, List.drop_zero]
  repeat (first
      | (refine Rg.wpDets_skip (by rfl) ?_; simp only [Act.put, List.setIfInBounds_toArray, List.set_cons_zero, List.set_cons_succ])
      | (refine Rg.wpDets_step ?_ (by rfl) (fun w hS => ?_) ?_
         rotate_left
         · have hc := Gr.cells hS
           have hf := Gr.frees hS
           go_simp
           first
           | (refine ⟨?_, Below.refl _ _⟩; with_reducible rfl)
           | ((with_reducible refine (TF.out _).mono ?_); rintro e w' ⟨rfl, hg⟩; refine ⟨?_, hg⟩; with_reducible rfl)
         simp only [Act.put, List.setIfInBounds_toArray, List.set_cons_zero, List.set_cons_succ]))
  refine Rg.wpDets_nil ?_
  refine Rg.wpFlts_nil ?_
  refine Rg.wpLays_nil ?_
  intro w' hK
  have hg : Gr _ w' := hK.up
  have hc := hg.cells
  have hf := hg.frees
  have hz := hg.size
  try simp only [World.size_alloc, World.size_setCell, World.size_drew] at hz
  try have : 0 < w'.heap.size := by omega
  try have : w.heap.size < w'.heap.size := by omega
  try have : w.heap.size + 1 < w'.heap.size := by omega
  try have : w.heap.size + 1 + 1 < w'.heap.size := by omega
  try have : w.heap.size + 1 + 1 + 1 < w'.heap.size := by omega
  have hgw : Gr (w13.alloc (.cells #[.int .i64 0, .int .i64 0, .string ⟨#[]⟩, .bool false] 23)) w' := hg
  have HG14 := hid ((HG13.out.alloc (.cells #[.int .i64 0, .int .i64 0, .string ⟨#[]⟩, .bool false] 23)).trans hgw)
  have AWu := hid (fun W (h : Rg.Up w' W) => AW.out W (HG14.out.trans h))
  have m11 : g11 < w'.heap.size := Nat.lt_of_lt_of_le l11 (Nat.le_trans (Nat.le_succ _) (by have := hgw.size; rwa [World.size_alloc] at this))
  have m13 : w13.heap.size < w'.heap.size := by have := hgw.size; rw [World.size_alloc] at this; exact this
  clear hgw hg AW TF
  go_wp2_with fail
  refine Rg.region_text 21 (Below.drew (Below.refl _ _)) (by kernel_rfl) (by kernel_rfl) (fun _ _ d _ _ h => by cases d <;> exact h) ?_
  simp only [List.append_eq, List.cons_append, List.nil_append, List.take_succ_cons, List.take_zero, List.drop_succ_cons, List.drop_zero]
  repeat (first
      | (refine Rg.wpDets_skip (by rfl) ?_; simp only [Act.put, List.setIfInBounds_toArray, List.set_cons_zero, List.set_cons_succ])
      | (refine Rg.wpDets_step ?_ (by rfl) (fun w hS => ?_) ?_
         rotate_left
         · have hc := Gr.cells hS
           have hf := Gr.frees hS
           go_simp
           first
           | (refine ⟨?_, Below.refl _ _⟩; with_reducible rfl)
           | ((with_reducible refine (TT.out _).mono ?_); rintro e w' ⟨rfl, hg⟩; refine ⟨?_, hg⟩; with_reducible rfl)
           | ((with_reducible refine (AWu.out _ hS).mono ?_); rintro e w' ⟨rfl, hg⟩; refine ⟨?_, hg⟩; with_reducible rfl)
         simp only [Act.put, List.setIfInBounds_toArray, List.set_cons_zero, List.set_cons_succ]))
  refine Rg.wpDets_nil ?_
  refine Rg.wpFlts_nil ?_
  refine Rg.wpLays_nil ?_
  intro w' hK
  have hg : Gr _ w' := hK.up
  have hc := hg.cells
  have hf := hg.frees
  have hz := hg.size
  try simp only [World.size_alloc, World.size_setCell, World.size_drew] at hz
  try have : 0 < w'.heap.size := by omega
  try have : w.heap.size < w'.heap.size := by omega
  try have : w.heap.size + 1 < w'.heap.size := by omega
  try have : w.heap.size + 1 + 1 < w'.heap.size := by omega
  try have : w.heap.size + 1 + 1 + 1 < w'.heap.size := by omega
  have hG2 := HG14.out.trans hg
  clear hg
  go_wp2
  go_returns
  exact ⟨rfl, hG2⟩
set_option maxHeartbeats 64000000 in
set_option maxRecDepth 100000 in
theorem sh_111 (w : World) (m : Int) (hm : w.cell? ⟨0, 0, none⟩ = some (.int .i64 m)) : Calls Tryz.prog 4 #[.bool true, .bool true, .bool true] w fun e w' => e = .returned (.bool true) ∧ Gr w w' := by
  have N1 : Hid (∀ W, _) := hid (fun W => lit_s (numV 1) W)
  have N0 : Hid (∀ W, _) := hid (fun W => lit_s (numV 0) W)
  have I1 : Hid (∀ W, _) := hid (fun W => lint_any 1 W)
  have I0 : Hid (∀ W, _) := hid (fun W => lint_any 0 W)
  have B1 : Hid (∀ W, _) := hid (fun W => lit_s (boolV true) W)
  have B0 : Hid (∀ W, _) := hid (fun W => lit_s (boolV false) W)
  have T1 : Hid (∀ W, _) := hid (fun W => ltruth_any true W)
  have T0 : Hid (∀ W, _) := hid (fun W => ltruth_any false W)
  have AW : Hid (∀ W, Gr w W → _) := hid (fun W h => eawake_any W m (Gr.keep h hm))
  clear hm
  unfold numV boolV V.val XR.val xlR at *
  go_enter Tryz.func4, Tryz.ntmps4
  go_wp2_with fail
  refine (I1.out _).mono ?_
  rintro e w1 ⟨rfl, g1⟩
  go_wp2_with fail
  refine (N1.out _).mono ?_
  rintro e w2 ⟨rfl, g2⟩
  go_wp2_with fail
  refine (I0.out _).mono ?_
  rintro e w3 ⟨rfl, g3⟩
  go_wp2_with fail
  refine (N0.out _).mono ?_
  rintro e w4 ⟨rfl, g4⟩
  have HG4 := hid ((g1.trans g2).trans (g3.trans g4))
  clear g1 g2 g3 g4
  go_wp2_with fail
  refine (I1.out _).mono ?_
  rintro e w5 ⟨rfl, g5⟩
  go_wp2_with fail
  refine (N1.out _).mono ?_
  rintro e w6 ⟨rfl, g6⟩
  have HG6 := hid ((HG4.out.alloc _).trans (g5.trans g6))
  have HD6 : Hid (w6.heap[w4.heap.size]? = some (.cells #[.int .i64 1, .int .i64 1, .int .i64 1, .string ⟨#[]⟩, .bool false, .string ⟨#[]⟩, .string ⟨#[]⟩, .int .i64 0, .int .i64 0, .bool false, .bool false, .slice none 0 0, .int .i64 1, .int .i64 1, .int .i64 0, .string ⟨#[]⟩, .bool false, .string ⟨#[]⟩, .string ⟨#[]⟩, .int .i64 0, .int .i64 0, .bool false, .bool false, .slice none 0 0] 26 (0, 0))) := hid (((g5.trans g6).block _ (lt_blk (alloc_at _ _))).trans (alloc_at _ _))
  clear g5 g6 HG4 I1 N1 I0 N0
  generalize w4.heap.size = gA at *
  go_wp2_with fail
  refine (T1.out _).mono ?_
  rintro e w7 ⟨rfl, g7⟩
  have HG7 : Hid (Gr w w7) := hid (((HG6.out.alloc _).alloc _).trans g7)
  have HD7 : Hid (w7.heap[gA]? = some (.cells #[.int .i64 1, .int .i64 1, .int .i64 1, .string ⟨#[]⟩, .bool false, .string ⟨#[]⟩, .string ⟨#[]⟩, .int .i64 0, .int .i64 0, .bool false, .bool false, .slice none 0 0, .int .i64 1, .int .i64 1, .int .i64 0, .string ⟨#[]⟩, .bool false, .string ⟨#[]⟩, .string ⟨#[]⟩, .int .i64 0, .int .i64 0, .bool false, .bool false, .slice none 0 0] 26 (0, 0))) := hid (((((Gr.refl w6).alloc _).alloc _).trans g7 |>.block _ (lt_blk HD6.out)).trans HD6.out)
  have HB7 : Hid (w7.heap[w6.heap.size]? = some (.cells #[.int .i64 21, .int .i64 0, .int .i64 0, .string ⟨#[]⟩, .bool false, .string ⟨#[]⟩, .string ⟨#[]⟩, .int .i64 0, .int .i64 0, .bool false, .bool false, .slice (some ⟨gA, 0, none⟩) 2 2, .int .i64 1, .int .i64 1, .int .i64 1, .string ⟨#[]⟩, .bool false, .string ⟨#[]⟩, .string ⟨#[]⟩, .int .i64 0, .int .i64 0, .bool false, .bool false, .slice none 0 0] 26 (0, 0))) := hid ((g7.block _ (by rw [World.size_alloc, World.size_alloc]; exact Nat.lt_succ_of_lt (Nat.lt_succ_self _))).trans ((((Gr.refl _).alloc _).block _ (by rw [World.size_alloc]; exact Nat.lt_succ_self _)).trans (alloc_at _ _)))
  have HX7 : Hid (w7.heap[w6.heap.size + 1]? = some (.cells #[.int .i64 9, .int .i64 0, .int .i64 0, .string ⟨#[]⟩, .bool false, .string ⟨#[]⟩, .string ⟨#[]⟩, .int .i64 0, .int .i64 0, .bool false, .bool false, .slice (some ⟨w6.heap.size, 0, none⟩) 2 2] 26 (0, 0))) := hid ((g7.block _ (by rw [World.size_alloc, World.size_alloc]; exact Nat.lt_succ_self _)).trans (alloc_two _ _ _))
  clear g7 HG6 HD6 T1
  generalize w6.heap.size + 1 = g8 at *
  generalize w6.heap.size = gB at *
  have HAT : Hid (Ex.At Al w7 badE (⟨{ op := 9 }, some ⟨gB, 0, none⟩, 2, 2⟩ : XR)) := hid (form_at HB7.out rfl (Exs.At.cons (form_at HD7.out rfl (Exs.At.cons (lit_at (numV 1) w7) (Exs.At.cons (lit_at (numV 0) w7) Exs.At.nil)) rfl (by decide)) (Exs.At.cons (lit_at (numV 1) w7) Exs.At.nil)) rfl (by decide))
  clear HD7 HB7
  go_wp2_with fail
  refine (B1.out _).mono ?_
  rintro e w8 ⟨rfl, g8'⟩
  have HG8 := hid (HG7.out.trans g8')
  have HAT8 := hid (at_gr HAT.out g8')
  have HX8 := hid ((g8'.block _ (lt_blk HX7.out)).trans HX7.out)
  clear g8' HG7 HAT HX7 B1
  go_wp2_with fail
  refine (T0.out _).mono ?_
  rintro e w9 ⟨rfl, g9⟩
  go_wp2_with fail
  refine (B0.out _).mono ?_
  rintro e w10 ⟨rfl, g10⟩
  have gg : Gr w8 w10 := ((Gr.refl w8).alloc _).trans (g9.trans g10)
  have H910 : w10.heap[w8.heap.size]? = some (.cells #[.int .i64 1, .int .i64 3, .int .i64 0, .string ⟨#[]⟩, .bool true, .string ⟨#[]⟩, .string ⟨#[]⟩, .int .i64 0, .int .i64 0, .bool false, .bool false, .slice none 0 0] 26 (0, 0)) := ((g9.trans g10).block _ (lt_blk (alloc_at _ _))).trans (alloc_at _ _)
  have l910 := lt_blk H910
  have HN10 : Hid ((w10.alloc (.cells #[.int .i64 1, .int .i64 3, .int .i64 0, .string ⟨#[]⟩, .bool false, .string ⟨#[]⟩, .string ⟨#[]⟩, .int .i64 0, .int .i64 0, .bool false, .bool false, .slice none 0 0] 26)).heap[w8.heap.size]? = some (.cells #[.int .i64 1, .int .i64 3, .int .i64 0, .string ⟨#[]⟩, .bool true, .string ⟨#[]⟩, .string ⟨#[]⟩, .int .i64 0, .int .i64 0, .bool false, .bool false, .slice none 0 0] 26 (0, 0))) := hid ((((Gr.refl w10).alloc _).block _ l910).trans H910)
  have SU : Hid (∀ U, Go1 w8.heap.size (w10.alloc (.cells #[.int .i64 1, .int .i64 3, .int .i64 0, .string ⟨#[]⟩, .bool false, .string ⟨#[]⟩, .string ⟨#[]⟩, .int .i64 0, .int .i64 0, .bool false, .bool false, .slice none 0 0] 26)) U → Gr w U ∧ Ex.At Al U badE (⟨{ op := 9 }, some ⟨gB, 0, none⟩, 2, 2⟩ : XR) ∧ Ex.At Al U (trE true true) (⟨{ op := 8 }, some ⟨w10.heap.size, 0, none⟩, 1, 1⟩ : XR) ∧ U.heap[g8]? = some (.cells #[.int .i64 9, .int .i64 0, .int .i64 0, .string ⟨#[]⟩, .bool false, .string ⟨#[]⟩, .string ⟨#[]⟩, .int .i64 0, .int .i64 0, .bool false, .bool false, .slice (some ⟨gB, 0, none⟩) 2 2] 26 (0, 0))) := hid (fun U gU => by
    have hlow : ∀ b, b < w8.heap.size → U.heap[b]? = w8.heap[b]? := fun b hb => (gU.get (by rw [World.size_alloc]; exact Nat.lt_succ_of_lt (Nat.lt_trans hb l910)) (Nat.ne_of_lt hb)).trans ((((Gr.refl w10).alloc _).block _ (Nat.lt_trans hb l910)).trans (gg.block _ hb))
    have hsz : w8.heap.size ≤ U.heap.size := Nat.le_trans (Nat.le_of_lt l910) (Nat.le_trans (by rw [World.size_alloc]; exact Nat.le_succ _) gU.size)
    refine ⟨((HG8.out.trans gg).alloc _).grown gU (fun k e => by cases e; exact HG8.out.size), ?_, ?_, (hlow _ (lt_blk HX8.out)).trans HX8.out⟩
    · exact ((HAT8.out.mono (S' := fun b => b < w8.heap.size) (fun b hb _ => hb)).of hsz (fun b hb _ => hlow b hb)).mono (fun _ _ _ => trivial)
    · exact form_at ((gU.get (by rw [World.size_alloc]; exact Nat.lt_succ_self _) (Nat.ne_of_gt l910)).trans (alloc_at w10 _)) rfl (Exs.At.cons (lit_at (boolV false) U) Exs.At.nil) rfl (by decide))
  clear gg g9 g10 HG8 HAT8 HX8 T0 B0 H910
  go_wp2_with (guard_target =~ wpList _ _ _ (Oper.mk _ (Op.store 26 (Operand.tmp 9) _) _ _ _ _ :: _) _ _; refine st_row (ty := 26) rfl rfl w8.heap.size #[.int .i64 8, .int .i64 0, .int .i64 0, .string ⟨#[]⟩, .bool false, .string ⟨#[]⟩, .string ⟨#[]⟩, .int .i64 0, .int .i64 0, .bool false, .bool false, .slice (some ⟨w10.heap.size, 0, none⟩) 1 1] rfl rfl 26 _ HN10.out (by kernel_rfl) rfl (by kernel_rfl) ?_; intro U hU gU zU; obtain ⟨hGU, hAU, hTU, c8⟩ := SU.out U gU; have HGU := hid hGU; have HAU := hid hAU; have HTU := hid hTU; have c9 := Rg.blk_cells hU; have c8c := Rg.blk_cells c8; have l8 := lt_blk c8; have l9 := lt_blk hU; clear gU zU hU c8 hGU hAU hTU SU HN10)
  have KX : Hid (∀ W g cs, Gr U W → W.heap[g]? = some (.cells cs 26 (0, 0)) → cs.toList = cellsF xF [(⟨{ op := 9 }, some ⟨gB, 0, none⟩, 2, 2⟩ : XR), (⟨{ op := 8 }, some ⟨w10.heap.size, 0, none⟩, 1, 1⟩ : XR)] → Calls Tryz.prog 8 #[XR.val ⟨{ op := 7 }, some ⟨g, 0, none⟩, 2, 2⟩, .slice none 0 0, .slice none 0 0] W (Vp (⟨0, 0, ⟨#[]⟩, false⟩, 162) W) ∧ Calls Tryz.prog 8 #[XR.val ⟨{ op := 6 }, some ⟨g, 0, none⟩, 2, 2⟩, .slice none 0 0, .slice none 0 0] W (Vp (⟨0, 0, ⟨#[]⟩, false⟩, 162) W)) := hid (fun W g cs G hg hcs => ⟨sh_call 7 (.inl rfl) true true true [(⟨{ op := 9 }, some ⟨gB, 0, none⟩, 2, 2⟩ : XR), (⟨{ op := 8 }, some ⟨w10.heap.size, 0, none⟩, 1, 1⟩ : XR)] W g cs hg hcs (Exs.At.cons (at_gr HAU.out G) (Exs.At.cons (at_gr HTU.out G) Exs.At.nil)) _ (and_ev true true true), sh_call 6 (.inr rfl) true true true [(⟨{ op := 9 }, some ⟨gB, 0, none⟩, 2, 2⟩ : XR), (⟨{ op := 8 }, some ⟨w10.heap.size, 0, none⟩, 1, 1⟩ : XR)] W g cs hg hcs (Exs.At.cons (at_gr HAU.out G) (Exs.At.cons (at_gr HTU.out G) Exs.At.nil)) _ (or_ev true true true)⟩)
  clear HAU HTU
  have HGX : Hid ((((U.alloc (.cells #[.int .i64 8, .int .i64 0, .int .i64 0, .string ⟨#[]⟩, .bool false, .string ⟨#[]⟩, .string ⟨#[]⟩, .int .i64 0, .int .i64 0, .bool false, .bool false, .slice (some ⟨w10.heap.size, 0, none⟩) 1 1, .int .i64 9, .int .i64 0, .int .i64 0, .string ⟨#[]⟩, .bool false, .string ⟨#[]⟩, .string ⟨#[]⟩, .int .i64 0, .int .i64 0, .bool false, .bool false, .slice (some ⟨gB, 0, none⟩) 2 2] 26)).alloc (.cells #[.int .i64 9, .int .i64 0, .int .i64 0, .string ⟨#[]⟩, .bool false, .string ⟨#[]⟩, .string ⟨#[]⟩, .int .i64 0, .int .i64 0, .bool false, .bool false, .slice (some ⟨gB, 0, none⟩) 2 2, .int .i64 8, .int .i64 0, .int .i64 0, .string ⟨#[]⟩, .bool false, .string ⟨#[]⟩, .string ⟨#[]⟩, .int .i64 0, .int .i64 0, .bool false, .bool false, .slice (some ⟨w10.heap.size, 0, none⟩) 1 1] 26))).heap[U.heap.size + 1]? = some (.cells #[.int .i64 9, .int .i64 0, .int .i64 0, .string ⟨#[]⟩, .bool false, .string ⟨#[]⟩, .string ⟨#[]⟩, .int .i64 0, .int .i64 0, .bool false, .bool false, .slice (some ⟨gB, 0, none⟩) 2 2, .int .i64 8, .int .i64 0, .int .i64 0, .string ⟨#[]⟩, .bool false, .string ⟨#[]⟩, .string ⟨#[]⟩, .int .i64 0, .int .i64 0, .bool false, .bool false, .slice (some ⟨w10.heap.size, 0, none⟩) 1 1] 26 (0, 0))) := hid (alloc_two _ _ _)
  have HGW : Hid (Gr w ((U.alloc (.cells #[.int .i64 8, .int .i64 0, .int .i64 0, .string ⟨#[]⟩, .bool false, .string ⟨#[]⟩, .string ⟨#[]⟩, .int .i64 0, .int .i64 0, .bool false, .bool false, .slice (some ⟨w10.heap.size, 0, none⟩) 1 1, .int .i64 9, .int .i64 0, .int .i64 0, .string ⟨#[]⟩, .bool false, .string ⟨#[]⟩, .string ⟨#[]⟩, .int .i64 0, .int .i64 0, .bool false, .bool false, .slice (some ⟨gB, 0, none⟩) 2 2] 26)).alloc (.cells #[.int .i64 9, .int .i64 0, .int .i64 0, .string ⟨#[]⟩, .bool false, .string ⟨#[]⟩, .string ⟨#[]⟩, .int .i64 0, .int .i64 0, .bool false, .bool false, .slice (some ⟨gB, 0, none⟩) 2 2, .int .i64 8, .int .i64 0, .int .i64 0, .string ⟨#[]⟩, .bool false, .string ⟨#[]⟩, .string ⟨#[]⟩, .int .i64 0, .int .i64 0, .bool false, .bool false, .slice (some ⟨w10.heap.size, 0, none⟩) 1 1] 26))) := hid (HGU.out.alloc _ |>.alloc _)
  have KA := hid (KX.out ((U.alloc (.cells #[.int .i64 8, .int .i64 0, .int .i64 0, .string ⟨#[]⟩, .bool false, .string ⟨#[]⟩, .string ⟨#[]⟩, .int .i64 0, .int .i64 0, .bool false, .bool false, .slice (some ⟨w10.heap.size, 0, none⟩) 1 1, .int .i64 9, .int .i64 0, .int .i64 0, .string ⟨#[]⟩, .bool false, .string ⟨#[]⟩, .string ⟨#[]⟩, .int .i64 0, .int .i64 0, .bool false, .bool false, .slice (some ⟨gB, 0, none⟩) 2 2] 26)).alloc (.cells #[.int .i64 9, .int .i64 0, .int .i64 0, .string ⟨#[]⟩, .bool false, .string ⟨#[]⟩, .string ⟨#[]⟩, .int .i64 0, .int .i64 0, .bool false, .bool false, .slice (some ⟨gB, 0, none⟩) 2 2, .int .i64 8, .int .i64 0, .int .i64 0, .string ⟨#[]⟩, .bool false, .string ⟨#[]⟩, .string ⟨#[]⟩, .int .i64 0, .int .i64 0, .bool false, .bool false, .slice (some ⟨w10.heap.size, 0, none⟩) 1 1] 26)) (U.heap.size + 1) #[.int .i64 9, .int .i64 0, .int .i64 0, .string ⟨#[]⟩, .bool false, .string ⟨#[]⟩, .string ⟨#[]⟩, .int .i64 0, .int .i64 0, .bool false, .bool false, .slice (some ⟨gB, 0, none⟩) 2 2, .int .i64 8, .int .i64 0, .int .i64 0, .string ⟨#[]⟩, .bool false, .string ⟨#[]⟩, .string ⟨#[]⟩, .int .i64 0, .int .i64 0, .bool false, .bool false, .slice (some ⟨w10.heap.size, 0, none⟩) 1 1] (((Gr.refl _).alloc _).alloc _) HGX.out rfl).1
  unfold XR.val Vp pairR at KA
  refine KA.out.mono ?_
  rintro e w12 ⟨rfl, g12⟩
  have G12 : Gr ((U.alloc (.cells #[.int .i64 8, .int .i64 0, .int .i64 0, .string ⟨#[]⟩, .bool false, .string ⟨#[]⟩, .string ⟨#[]⟩, .int .i64 0, .int .i64 0, .bool false, .bool false, .slice (some ⟨w10.heap.size, 0, none⟩) 1 1, .int .i64 9, .int .i64 0, .int .i64 0, .string ⟨#[]⟩, .bool false, .string ⟨#[]⟩, .string ⟨#[]⟩, .int .i64 0, .int .i64 0, .bool false, .bool false, .slice (some ⟨gB, 0, none⟩) 2 2] 26)).alloc (.cells #[.int .i64 9, .int .i64 0, .int .i64 0, .string ⟨#[]⟩, .bool false, .string ⟨#[]⟩, .string ⟨#[]⟩, .int .i64 0, .int .i64 0, .bool false, .bool false, .slice (some ⟨gB, 0, none⟩) 2 2, .int .i64 8, .int .i64 0, .int .i64 0, .string ⟨#[]⟩, .bool false, .string ⟨#[]⟩, .string ⟨#[]⟩, .int .i64 0, .int .i64 0, .bool false, .bool false, .slice (some ⟨w10.heap.size, 0, none⟩) 1 1] 26)) (w12.alloc (.cells #[.int .i64 0, .int .i64 0, .string ⟨#[]⟩, .bool false] 23)) := g12.alloc _
  have HX2 : Hid ((w12.alloc (.cells #[.int .i64 0, .int .i64 0, .string ⟨#[]⟩, .bool false] 23)).heap[U.heap.size + 1]? = some (.cells #[.int .i64 9, .int .i64 0, .int .i64 0, .string ⟨#[]⟩, .bool false, .string ⟨#[]⟩, .string ⟨#[]⟩, .int .i64 0, .int .i64 0, .bool false, .bool false, .slice (some ⟨gB, 0, none⟩) 2 2, .int .i64 8, .int .i64 0, .int .i64 0, .string ⟨#[]⟩, .bool false, .string ⟨#[]⟩, .string ⟨#[]⟩, .int .i64 0, .int .i64 0, .bool false, .bool false, .slice (some ⟨w10.heap.size, 0, none⟩) 1 1] 26 (0, 0))) := hid ((G12.block _ (lt_blk HGX.out)).trans HGX.out)
  have KB := hid (KX.out (w12.alloc (.cells #[.int .i64 0, .int .i64 0, .string ⟨#[]⟩, .bool false] 23)) (U.heap.size + 1) #[.int .i64 9, .int .i64 0, .int .i64 0, .string ⟨#[]⟩, .bool false, .string ⟨#[]⟩, .string ⟨#[]⟩, .int .i64 0, .int .i64 0, .bool false, .bool false, .slice (some ⟨gB, 0, none⟩) 2 2, .int .i64 8, .int .i64 0, .int .i64 0, .string ⟨#[]⟩, .bool false, .string ⟨#[]⟩, .string ⟨#[]⟩, .int .i64 0, .int .i64 0, .bool false, .bool false, .slice (some ⟨w10.heap.size, 0, none⟩) 1 1] ((((Gr.refl _).alloc _).alloc _).trans G12) HX2.out rfl).2
  have HGV := hid (HGW.out.trans G12)
  unfold XR.val Vp pairR at KB
  clear KA KX HGX HX2 G12 g12 HGW
  go_wp2_with fail
  refine KB.out.mono ?_
  rintro e w13 ⟨rfl, g13⟩
  have HG13 := hid (HGV.out.trans g13)
  have h11 : w13.heap[w12.heap.size]? = some (.cells #[.int .i64 0, .int .i64 0, .string ⟨#[]⟩, .bool false] 23 (0, 0)) := (g13.block _ (lt_blk (alloc_at _ _))).trans (alloc_at _ _)
  have d11 := Rg.blk_cells h11
  have l11 := lt_blk h11
  have l11' : w12.heap.size < w13.heap.size + 1 := Nat.lt_succ_of_lt l11
  clear h11 KB HGV g13
  generalize w12.heap.size = g11 at *
  have s2 := v_same 3 0 ⟨#[]⟩ false
  have s3 := v_same 3 0 ⟨#[]⟩ true
  have tg := v_guard
  have TF := hid (fun W => ltruth_any false W)
  have TT := hid (fun W => ltruth_any true W)
  go_wp2_with fail
  refine Rg.region_text 17 (Below.drew (Below.refl _ _)) (by kernel_rfl) (by kernel_rfl) (fun _ _ d _ _ h => by cases d <;> exact h) ?_
  simp only [List.append_eq, List.cons_append, List.nil_append, List.take_succ_cons, List.take_zero, List.drop_succ_cons, List.drop_zero]
  repeat (first
      | (refine Rg.wpDets_skip (by rfl) ?_; simp only [Act.put, List.setIfInBounds_toArray, List.set_cons_zero, List.set_cons_succ])
      | (refine Rg.wpDets_step ?_ (by rfl) (fun w hS => ?_) ?_
         rotate_left
         · have hc := Gr.cells hS
           have hf := Gr.frees hS
           go_simp
           first
           | (refine ⟨?_, Below.refl _ _⟩; with_reducible rfl)
           | ((with_reducible refine (TF.out _).mono ?_); rintro e w' ⟨rfl, hg⟩; refine ⟨?_, hg⟩; with_reducible rfl)
         simp only [Act.put, List.setIfInBounds_toArray, List.set_cons_zero, List.set_cons_succ]))
  refine Rg.wpDets_nil ?_
  refine Rg.wpFlts_nil ?_
  refine Rg.wpLays_nil ?_
  intro w' hK
  have hg : Gr _ w' := hK.up
  have hc := hg.cells
  have hf := hg.frees
  have hz := hg.size
  try simp only [World.size_alloc, World.size_setCell, World.size_drew] at hz
  try have : 0 < w'.heap.size := by omega
  try have : w.heap.size < w'.heap.size := by omega
  try have : w.heap.size + 1 < w'.heap.size := by omega
  try have : w.heap.size + 1 + 1 < w'.heap.size := by omega
  try have : w.heap.size + 1 + 1 + 1 < w'.heap.size := by omega
  have hgw : Gr (w13.alloc (.cells #[.int .i64 0, .int .i64 0, .string ⟨#[]⟩, .bool false] 23)) w' := hg
  have HG14 := hid ((HG13.out.alloc (.cells #[.int .i64 0, .int .i64 0, .string ⟨#[]⟩, .bool false] 23)).trans hgw)
  have AWu := hid (fun W (h : Rg.Up w' W) => AW.out W (HG14.out.trans h))
  have m11 : g11 < w'.heap.size := Nat.lt_of_lt_of_le l11 (Nat.le_trans (Nat.le_succ _) (by have := hgw.size; rwa [World.size_alloc] at this))
  have m13 : w13.heap.size < w'.heap.size := by have := hgw.size; rw [World.size_alloc] at this; exact this
  clear hgw hg AW TF
  go_wp2_with fail
  refine Rg.region_text 21 (Below.drew (Below.refl _ _)) (by kernel_rfl) (by kernel_rfl) (fun _ _ d _ _ h => by cases d <;> exact h) ?_
  simp only [List.append_eq, List.cons_append, List.nil_append, List.take_succ_cons, List.take_zero, List.drop_succ_cons, List.drop_zero]
  repeat (first
      | (refine Rg.wpDets_skip (by rfl) ?_; simp only [Act.put, List.setIfInBounds_toArray, List.set_cons_zero, List.set_cons_succ])
      | (refine Rg.wpDets_step ?_ (by rfl) (fun w hS => ?_) ?_
         rotate_left
         · have hc := Gr.cells hS
           have hf := Gr.frees hS
           go_simp
           first
           | (refine ⟨?_, Below.refl _ _⟩; with_reducible rfl)
           | ((with_reducible refine (TT.out _).mono ?_); rintro e w' ⟨rfl, hg⟩; refine ⟨?_, hg⟩; with_reducible rfl)
           | ((with_reducible refine (AWu.out _ hS).mono ?_); rintro e w' ⟨rfl, hg⟩; refine ⟨?_, hg⟩; with_reducible rfl)
         simp only [Act.put, List.setIfInBounds_toArray, List.set_cons_zero, List.set_cons_succ]))
  refine Rg.wpDets_nil ?_
  refine Rg.wpFlts_nil ?_
  refine Rg.wpLays_nil ?_
  intro w' hK
  have hg : Gr _ w' := hK.up
  have hc := hg.cells
  have hf := hg.frees
  have hz := hg.size
  try simp only [World.size_alloc, World.size_setCell, World.size_drew] at hz
  try have : 0 < w'.heap.size := by omega
  try have : w.heap.size < w'.heap.size := by omega
  try have : w.heap.size + 1 < w'.heap.size := by omega
  try have : w.heap.size + 1 + 1 < w'.heap.size := by omega
  try have : w.heap.size + 1 + 1 + 1 < w'.heap.size := by omega
  have hG2 := HG14.out.trans hg
  clear hg
  go_wp2
  go_returns
  exact ⟨rfl, hG2⟩
theorem shorts_walk (t left nt : Bool) (w : World) (m : Int) (hm : w.cell? ⟨0, 0, none⟩ = some (.int .i64 m)) : Calls Tryz.prog 4 #[.bool t, .bool left, .bool nt] w fun e w' => e = .returned (.bool true) ∧ Gr w w' := by
  cases t <;> cases left <;> cases nt
  · exact sh_000 w m hm
  · exact sh_001 w m hm
  · exact sh_010 w m hm
  · exact sh_011 w m hm
  · exact sh_100 w m hm
  · exact sh_101 w m hm
  · exact sh_110 w m hm
  · exact sh_111 w m hm
end Go.Proofs.YtbeinfhgfflneaaGreat
end
section
namespace Go.Proofs.YtbeinfhgfflneaaGreat
open Go.RowKit Go.WideShapes Go.ChangeShapes
set_option linter.unusedVariables false
section
variable {H : Type} {enc : TypeId × Value → H} {P : Program} {f : Func} {s : ChangeSpec} {apart fresh handsOn again : Bool} {W W' : World} {args : Array Value} {v : Value} {ds gs : List (DataW H)} {before pa pv : List MemPlace}
theorem post_kept (hW : DataW.Whole enc P f.params.toList s.vars apart W args.toList ds gs before) (hb : Below W.heap.size W W') (hps : before = pa ++ pv)
    (hres : ∀ (b : Nat) (sp : Nat → Bool) (hd : Bool), DataW.TrodAll enc P W' b sp hd f.resultTypes.toList (v.resultList f.resultTypes.size) (s.fn H (ds ++ gs)).results [])
    (hargs : ∀ sp : Nat → Bool, (∀ p ∈ before, sp p.block = true) → DataW.TrodAll enc P W' 0 sp true f.params.toList args.toList (s.fn H (ds ++ gs)).args pa)
    (hvars : ∀ sp : Nat → Bool, (∀ p ∈ before, sp p.block = true) → DataW.TrodVars enc P W' sp s.vars (s.fn H (ds ++ gs)).vars pv)
    (hok : ∀ (j : Nat) (t : TypeId) (r : Value), f.resultTypes[j]? = some t → (v.resultList f.resultTypes.size)[j]? = some r → Value.okWide P W' .any 0 t r) :
    s.post enc P f apart fresh handsOn again W args v W' := by
  have below : ∀ p ∈ before, p.block < W.heap.size := fun p hp => hW.lt p hp
  have seen : ∀ p ∈ before, decide (p.block < W.heap.size) = true := fun p hp => decide_eq_true (below p hp)
  have whole := hW
  obtain ⟨_, _, _, _, _, frz, ndp⟩ := whole
  refine ⟨ds, gs, before, [], pa, pv, hW, hres _ _ _, hargs (fun b => decide (b < W.heap.size)) seen, hvars (fun b => decide (b < W.heap.size)) seen, ?_, fun _ => ⟨hok, _, _, ([] ++ pa) ++ pv, ⟨[] ++ pa, pv, trodAll_append (hargs _ (fun _ _ => rfl)) (hres _ _ _), hvars _ (fun _ _ => rfl), rfl, ?_, ?_⟩, ?_⟩⟩
  · refine World.keptBut_mono (fun p hp => ⟨hp, ?_⟩) (hb.frame (· ∈ before))
    rw [hps, List.mem_append] at hp
    exact Or.inr hp
  · intro b off hp
    have hin : MemPlace.cell b off ∈ before := by rw [hps]; simpa using hp
    rw [hb.frozen (below _ hin)]
    exact frz b off hin
  · intro ha
    have h := ndp ha
    rw [hps] at h
    simpa using h
  · intro p hp _
    rw [hps]
    simpa using hp
end
end Go.Proofs.YtbeinfhgfflneaaGreat
end
section
namespace Go.Proofs.YtbeinfhgfflneaaGreat
open Go.ChangeShapes Go.WideShapes Go.RowKit Go.Joins
open Go.ChangeMaps (open_string shut_string)
set_option linter.unusedVariables false
def V.data {H : Type} (v : V) : DataW H := .agg [.lit (.int .i64 v.t), .lit (.int .i64 v.n), .lit (.string v.s.data.toList), .lit (.bool v.b)]
end Go.Proofs.YtbeinfhgfflneaaGreat
end

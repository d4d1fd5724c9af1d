/- RedoRepeats: for every input the law returns true, and each argument reads behind the call as it read before. No condition. -/
import Derived.Test.YtmanokhadppeeaaW4
import Derived.Test.YtmanokhadppeeaaOq
namespace Go.Proofs.Ytmanokhadppeeaa.redoRepeats
open Go.ChangeShapes Go.WideShapes Go.ChangeAt Go.RowKit Go.WideMaps Go.WideElems
set_option linter.unusedVariables false
theorem own : ownKnob Try.prog.godebug = none := by kernel_rfl
set_option maxRecDepth 100000 in
theorem lifted (os : Os) (started : os.Started) (H : Type) (enc : TypeId × Value → H) :
    ReturnsInHanded {} Try.checked os 4 .any (Rows.redoRepeatsSpec.pre6 enc Try.prog Try.f4 Rows.redoRepeatsRow.domain false) (Rows.redoRepeatsSpec.post enc Try.prog Try.f4 false true false false) := by
  refine returnsInHanded_of_change (C := Try.checked) own started (by kernel_rfl) Try.func4
    (ChangeSpec.witness6 (enc := enc) (C := Try.checked) false ⟨#[], #[.slice none 0 0, .slice none 0 0, .slice none 0 0], []⟩ 8 (by kernel_rfl) (by kernel_rfl) (by kernel_rfl) (by kernel_rfl)) ?_
  intro W base args ds gs before hval0 hW hcnd _
  have hval : ∀ (j : Nat) t v, Try.f4.params[j]? = some t → args[j]? = some v → Value.okWide Try.prog W .any base t v := hval0
  have hW' := hW
  obtain ⟨p, q, hA0, hV, rfl, hfz, hnd⟩ := hW
  have hA : DataW.TrodAll enc Try.prog W 0 (fun _ => true) true Try.f4.params.toList args.toList ds p := hA0
  rw [Try.params4] at hA hval
  obtain ⟨v0, vs0, d0, ds0, p0, q0, hargs, rfl, rfl, h0, r0⟩ := trodAll_cons hA
  obtain ⟨v1, vs1, d1, ds1, p1, q1, rfl, rfl, rfl, h1, r1⟩ := trodAll_cons r0
  obtain ⟨v2, vs2, d2, ds2, p2, q2, rfl, rfl, rfl, h2, r2⟩ := trodAll_cons r1
  obtain ⟨rfl, rfl, rfl⟩ := trodAll_nil r2
  obtain rfl : args = #[v0, v1, v2] := by cases args; simp_all
  obtain ⟨rfl, rfl⟩ := trodVars_none hV
  clear hA0 hval0
  have k0 := h0
  have k1 := h1
  have k2 := h2
  obtain ⟨oa0, c0, l0, rfl, at0, len0, ok0⟩ := open_lines (hval 0 23 v0 rfl rfl) h0
  obtain ⟨oa1, c1, l1, rfl, at1, len1, ok1⟩ := open_dirties (hval 1 26 v1 rfl rfl) h1
  obtain ⟨oa2, c2, l2, rfl, at2, len2, ok2⟩ := open_nums (hval 2 38 v2 rfl rfl) h2
  simp only [List.append_nil] at hW'
  have lt : ∀ x ∈ (p0 ++ (p1 ++ (p2 ++ []))), x.block < W.heap.size := fun x hx => hW'.lt x (by simpa using hx)
  refine (repeats_walk oa0 c0 l0 oa1 c1 l1 oa2 c2 l2 W len0 len1 len2 at0 at1 at2 (fun x hx => ⟨(ok0 x hx).lens.2.2.1, (ok0 x hx).lens.2.2.2⟩) (fun x hx => ⟨(ok0 x hx).page, (ok0 x hx).lsn⟩) ok2).mono fun e W' ⟨he, hg⟩ => ?_
  subst he
  exact ⟨_, rfl, post_kept (pa := (p0 ++ (p1 ++ (p2 ++ [])))) (pv := []) hW' hg (by simp) (fun _ _ _ => (trodAll_cons_mk (shut_bool Try.underlying4 _) trodAll_mk0)) (fun sp hs => (trodAll_cons_mk (keep_arg (by kernel_rfl) (of_decide_eq_true (by kernel_rfl)) k0 hg (fun x hx => lt x (by simp [hx])) (fun x hx => hs x (by simp [hx]))) (trodAll_cons_mk (keep_arg (by kernel_rfl) (of_decide_eq_true (by kernel_rfl)) k1 hg (fun x hx => lt x (by simp [hx])) (fun x hx => hs x (by simp [hx]))) (trodAll_cons_mk (keep_arg (by kernel_rfl) (of_decide_eq_true (by kernel_rfl)) k2 hg (fun x hx => lt x (by simp [hx])) (fun x hx => hs x (by simp [hx]))) trodAll_mk0)))) (fun _ _ => rfl)
    (ok_one (by kernel_rfl) rfl (okWide_bool_mk Try.underlying4 _))⟩
theorem over : Rows.redoRepeatsRow.holds Try.pinned (OpenSpec.ofChange Rows.redoRepeatsSpec) :=
  OpenClaim.holds_of_wide 4 Try.f4 rfl rfl rfl rfl rfl rfl rfl ⟨rfl, rfl, rfl, rfl, rfl⟩ rfl rfl rfl rfl rfl (by kernel_rfl) Try.func4 (by kernel_rfl)
    (of_decide_eq_true (by kernel_rfl)) (by unfold Func.isWrapper; first | (rw [if_pos (by decide +kernel)]; kernel_rfl) | (rw [if_neg (by decide +kernel)]; exact ⟨rfl, rfl⟩))
    (fun os started H enc _ => lifted os started H enc)
theorem proved : Rows.RedoRepeatsSaid :=
  over
end Go.Proofs.Ytmanokhadppeeaa.redoRepeats

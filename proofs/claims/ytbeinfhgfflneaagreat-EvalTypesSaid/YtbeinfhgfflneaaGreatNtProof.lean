/- EvalTypes: for every input the law returns true, and each argument reads behind the call as it read before. No condition. -/
import Derived.Test.YtbeinfhgfflneaaGreatNt7
import Derived.HandedShaped
namespace Go.Proofs.YtbeinfhgfflneaaGreat.evalTypes
open Go.ChangeShapes Go.WideShapes Go.ChangeAt Go.RowKit Go.WideMaps Go.WideElems
open Go.ChangeMaps (open_string shut_string)
set_option linter.unusedVariables false
theorem own : ownKnob Tryz.prog.godebug = none := by kernel_rfl
set_option maxRecDepth 100000 in
theorem lifted (os : Os) (started : os.Started) (H : Type) (enc : TypeId × Value → H) :
    ReturnsInHanded {} Tryz.checked os 5 .any (Rows.evalTypesSpec.pre6 enc Tryz.prog Tryz.f5 Rows.evalTypesRow.domain false) (Rows.evalTypesSpec.post enc Tryz.prog Tryz.f5 false true false false) := by
  refine returnsInHanded_of_change_shaped (C := Tryz.checked) own started (by kernel_rfl) Tryz.func5
    (ChangeSpec.witness6 (enc := enc) (C := Tryz.checked) false ⟨#[], #[.string ⟨#[]⟩, .agg #[.string ⟨#[]⟩, .slice none 0 0, .slice none 0 0, .int .i64 0, .slice none 0 0], .slice none 0 0], []⟩ 8 (by kernel_rfl) (by kernel_rfl) (by kernel_rfl) (by kernel_rfl)) ?_
  intro W base args ds gs before hval0 hW hcnd hreach hsh _
  have hval : ∀ (j : Nat) t v, Tryz.f5.params[j]? = some t → args[j]? = some v → Value.okWide Tryz.prog W .any base t v := hval0
  have hW' := hW
  obtain ⟨p, q, hA0, hV, rfl, hfz, hnd⟩ := hW
  have hA : DataW.TrodAll enc Tryz.prog W 0 (fun _ => true) true Tryz.f5.params.toList args.toList ds p := hA0
  rw [Tryz.params5] at hA hval
  obtain ⟨v0, vs0, d0, ds0, p0, q0, hargs, rfl, rfl, h0, r0⟩ := trodAll_cons hA
  obtain ⟨v1, vs1, d1, ds1, p1, q1, rfl, rfl, rfl, h1, r1⟩ := trodAll_cons r0
  obtain ⟨v2, vs2, d2, ds2, p2, q2, rfl, rfl, rfl, h2, r2⟩ := trodAll_cons r1
  obtain ⟨rfl, rfl, rfl⟩ := trodAll_nil r2
  obtain rfl : args = #[v0, v1, v2] := by cases args; simp_all
  obtain ⟨rfl, rfl⟩ := trodVars_none hV
  obtain ⟨a0, rfl, rfl, rfl, w0⟩ := open_string Tryz.underlying9 (hval 0 9 v0 rfl rfl) h0
  have k1 := h1
  obtain ⟨nm1, co1, cc1, xo1, xn1, xc1, hd1, ro1, rn1, rc1, cols1, rfl, hC1, hb1⟩ := open_table (hval 1 41 v1 rfl rfl) h1 (wok_of hreach (j := 1) rfl rfl)
  rw [col_bytes] at hb1
  have k2 := h2
  obtain ⟨oa2, c2, l2, rfl, hL2, hV2, hb2⟩ := open_vals (hval 2 42 v2 rfl rfl) h2 (wok_of hreach (j := 2) rfl rfl)
  rw [val_bytes] at hb2
  clear hA0 hval0
  have lt := hW'.lt
  have z0 : a0.size ≤ 140737488355328 := by
    have h := sized_string hreach (j := 0) (t := 9) (bytes := a0.data.toList) rfl rfl
    have h2 := reachBytes_lt
    have h3 : a0.data.toList.length = a0.size := by simp
    omega
  obtain ⟨m, hm⟩ := Tryz.laysM144.s1_3 W hsh
  refine (types_walk a0 nm1 co1 cc1 xo1 xn1 xc1 hd1 ro1 rn1 rc1 cols1 oa2 c2 l2 W m hm (by have := z0; unfold maxLen; omega) hC1 hL2 (by omega) (by omega) hV2).mono fun e W' ⟨he, hg⟩ => ?_
  subst he
  exact ⟨_, rfl, post_kept (pa := ([] ++ (p1 ++ (p2 ++ ([]))))) (pv := []) hW' hg (by simp) (fun _ _ _ => (trodAll_cons_mk (shut_bool Tryz.underlying4 _) trodAll_mk0)) (fun sp hs => (trodAll_cons_mk (shut_string Tryz.underlying9 w0) (trodAll_cons_mk (keep_arg (by kernel_rfl) (of_decide_eq_true (by kernel_rfl)) k1 hg (fun x hx => lt x (by simp [hx])) (fun x hx => hs x (by simp [hx]))) (trodAll_cons_mk (keep_arg (by kernel_rfl) (of_decide_eq_true (by kernel_rfl)) k2 hg (fun x hx => lt x (by simp [hx])) (fun x hx => hs x (by simp [hx]))) trodAll_mk0)))) (fun _ _ => rfl)
    (ok_one (by kernel_rfl) rfl (okWide_bool_mk Tryz.underlying4 _))⟩
theorem over : Rows.evalTypesRow.holds Tryz.pinned (OpenSpec.ofChange Rows.evalTypesSpec) :=
  OpenClaim.holds_of_wide 5 Tryz.f5 rfl rfl rfl rfl rfl rfl rfl ⟨rfl, rfl, rfl, rfl, rfl⟩ rfl rfl rfl rfl rfl (by kernel_rfl) Tryz.func5 (by kernel_rfl)
    (of_decide_eq_true (by kernel_rfl)) (by unfold Func.isWrapper; first | (rw [if_pos (by decide +kernel)]; kernel_rfl) | (rw [if_neg (by decide +kernel)]; exact ⟨rfl, rfl⟩))
    (fun os started H enc _ => lifted os started H enc)
theorem proved : Rows.EvalTypesSaid :=
  over
end Go.Proofs.YtbeinfhgfflneaaGreat.evalTypes

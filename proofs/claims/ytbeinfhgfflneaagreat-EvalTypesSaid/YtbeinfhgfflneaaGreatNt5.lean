/- Texts of this claim, put together: walks of functions and plain laws, of no condition. -/
import Derived.Test.YtbeinfhgfflneaaGreatNt4
import Derived.Defers
section
namespace Go.Proofs.YtbeinfhgfflneaaGreat
open Go.RowKit
set_option linter.unusedSimpArgs false
set_option linter.unusedVariables false
attribute [local go_sem] Rg.leads_value Rg.leads_skip Rg.leads_enter Rg.brings_value Rg.brings_skip Rg.brings_enter Rg.bringsG_value Rg.bringsG_enter Rg.once_normal Rg.once_exit Rg.once_ret Rg.once_panic Rg.once_goto
def Bp (b : Bool) (w : World) (e : Ending) (w' : World) : Prop := e = .returned (.bool b) ∧ Gr w w'
def SD (w : World) (oa : Option Addr) (n : Nat) (bs : List Bool) : Prop := n = bs.length ∧ n ≤ 2000000 ∧ ∀ k (h : k < bs.length), ∃ b off rk, oa = some ⟨b, off, none⟩ ∧ b < w.heap.size ∧ (∀ i u, (xF rk)[i]? = some u → w.cell? ⟨b, off + k * 12 + i, none⟩ = some u) ∧ ∀ W, Gr w W → Calls Tryz.prog 16 #[XR.val rk] W (Bp bs[k] W)
theorem SD.keep {w w' : World} {oa : Option Addr} {n : Nat} {bs : List Bool} (h : SD w oa n bs) (hg : Gr w w') : SD w' oa n bs :=
  ⟨h.1, h.2.1, fun k hk => by
    obtain ⟨b, off, rk, h1, h2, h3, h4⟩ := h.2.2 k hk
    exact ⟨b, off, rk, h1, Nat.lt_of_lt_of_le h2 hg.size, fun i u hu => hg.keep (h3 i u hu), fun W hW => h4 W (hg.trans hW)⟩⟩
set_option maxHeartbeats 4000000 in
set_option maxRecDepth 100000 in
theorem safe1_any (rk : XR) (b : Bool) (w : World) (hc : ∀ W, Gr w W → Calls Tryz.prog 16 #[XR.val rk] W (Bp b W)) : Calls Tryz.prog 26 #[XR.val rk] w (Bp (!b) w) := by
  have HC := hid hc
  clear hc
  unfold Bp XR.val at *
  go_enter Tryz.func26, Tryz.ntmps26
  go_wp2_with fail
  refine (HC.out _ ((Gr.refl _).alloc _)).mono ?_
  rintro e w' ⟨rfl, hg⟩
  clear HC
  go_wp2
  go_returns
  exact ⟨rfl, ((Gr.refl _).alloc _).trans hg⟩
set_option maxHeartbeats 8000000 in
set_option maxRecDepth 100000 in
theorem idxs_any (oa : Option Addr) (n c : Nat) (bs : List Bool) (w : World) (hS : SD w oa n bs) :
    Calls Tryz.prog 40 #[.slice oa n c, .func (.func 26) #[] #[]] w fun e w' => (∃ r : Int, e = .returned (.int .i64 r) ∧ decide (0 ≤ r) = !(bs.all id)) ∧ Gr w w' := by
  obtain ⟨hn, hb, hk⟩ := hS
  subst hn
  have HK := hid hk
  clear hk
  go_enter Tryz.func40, Tryz.ntmps40
  go_wp2_with fail
  go_loopw [8] (fun s8 wr => Gr w wr ∧ ∃ k : Nat, s8 = .int .i64 (k : Int) ∧ k ≤ bs.length ∧ bs.all id = (bs.drop k).all id) (fun s8 _ => bs.length - (intOf s8).toNat)
  · exact ⟨Gr.refl _, 0, rfl, Nat.zero_le _, rfl⟩
  · obtain ⟨hg, k, rfl, hk, hall⟩ := hrel
    have HG := hid hg
    by_cases hkn : k < bs.length
    · have t1 : decide ((k : Int) < (bs.length : Int)) = true := fi_dec hkn
      have gk : (k : Int) < (bs.length : Int) := fi_lt hkn
      have HWK := hid (fi_wrap hkn hb)
      have HMS := hid (in_ms hkn)
      obtain ⟨b, off, rk, rfl, hbl, hcs, HC⟩ := HK.out k hkn
      have hbr : b < wr.heap.size := Nat.lt_of_lt_of_le hbl hg.size
      obtain ⟨k0, k1, k2, k3, k4, k5, k6, k7, k8, k9, k10, k11⟩ := kid_cells (w := wr) (fun i u hu => hg.keep (hcs i u hu))
      have hd : (bs.drop k).all id = (bs[k] && (bs.drop (k + 1)).all id) := by
        rw [List.drop_eq_getElem_cons hkn]; rfl
      rw [hd] at hall
      have HFK := hid (safe1_any rk bs[k] wr (fun W h => HC W (hg.trans h)))
      generalize bs[k] = x at *
      have HALL := hid hall
      clear hall hd hk HK hg hcs HC
      unfold Bp XR.val at HFK
      go_wp2_with fail
      refine HFK.out.mono ?_
      rintro e w' ⟨rfl, hg'⟩
      have HG' := hid (HG.out.trans hg')
      clear hg' HFK k0 k1 k2 k3 k4 k5 k6 k7 k8 k9 k10 k11
      cases x with
      | true =>
        go_wp2
        exact ⟨⟨HG'.out, k + 1, in_next, hkn, by rw [HALL.out]; rfl⟩, HMS.out⟩
      | false =>
        go_wp2
        go_returns
        exact ⟨⟨_, rfl, by rw [HALL.out]; simp⟩, HG'.out⟩
    · have t1 : decide ((k : Int) < (bs.length : Int)) = false := fi_dec0 hkn
      have t1n : decide (k < bs.length) = false := fi_decn0 hkn
      have ha : bs.all id = true := by rw [hall, List.drop_eq_nil_of_le (in_end hkn)]; rfl
      have HA := hid ha
      clear ha hall HK hg
      go_wp2
      go_returns
      exact ⟨⟨_, rfl, by rw [HA.out]; decide⟩, HG.out⟩
set_option maxHeartbeats 8000000 in
set_option maxRecDepth 100000 in
theorem safe_form (rh : Hd) (roa : Option Addr) (rn rc : Nat) (bs : List Bool) (w : World) (hS : SD w roa rn bs) : Calls Tryz.prog 16 #[XR.val ⟨rh, roa, rn, rc⟩] w (Bp (safeH rh && bs.all id) w) := by
  have HC : Hid (∀ W, Gr w W → Calls Tryz.prog 25 #[.slice roa rn rc, .func (.func 26) #[] #[]] W (Bp (!(bs.all id)) W)) := hid (fun W hW => by
    have HI := hid (idxs_any roa rn rc bs W (hS.keep hW))
    clear hS hW
    generalize bs.all id = B at *
    unfold Bp
    go_enter Tryz.func25, Tryz.ntmps25
    go_wp2_with fail
    refine HI.out.mono ?_
    rintro e w' ⟨⟨r, rfl, hr⟩, hg⟩
    go_wp2
    go_returns
    exact ⟨rfl, hg⟩)
  have HR : Hid ((safeH rh && bs.all id) = (!((decide (18 ≤ rh.op) && decide (rh.op ≤ 22)) || rh.op == 24 || rh.op == 4 || (rh.op == 5 && (rh.name.toList == [97, 98, 115]))) && bs.all id)) := hid rfl
  clear hS
  generalize (safeH rh && bs.all id) = R at *
  generalize bs.all id = B at *
  obtain ⟨op, ⟨vt, vn, vs, vb⟩, tab, name, t, cc, nt, st⟩ := rh
  obtain ⟨y1, e1⟩ : ∃ x, decide (18 ≤ op) = x := ⟨_, rfl⟩
  obtain ⟨y2, e2⟩ : ∃ x, decide (op ≤ 22) = x := ⟨_, rfl⟩
  obtain ⟨y3, e3⟩ : ∃ x, (op == 24) = x := ⟨_, rfl⟩
  obtain ⟨y4, e4⟩ : ∃ x, (op == 4) = x := ⟨_, rfl⟩
  obtain ⟨y5, e5⟩ : ∃ x, (op == 5) = x := ⟨_, rfl⟩
  obtain ⟨y6, e6⟩ : ∃ x, (name.toList == [97, 98, 115]) = x := ⟨_, rfl⟩
  rw [e1, e2, e3, e4, e5, e6] at HR
  unfold XR.val Bp at *
  cases y1 with
  | false =>
    cases y3 with
    | true =>
      obtain rfl : R = false := by rw [HR.out]; simp
      clear HR HC
      go_enter Tryz.func16, Tryz.ntmps16
      go_wp2
      all_goals
        (try (go_step3; (try simp only [Exit.then]); (try change Rg.once _ _ _ _ _ _); rw [Rg.once_goto]; go_wp2))
        (try rw [Rg.once_ret])
        (try rw [Exit.noGoto_ret])
        (try change bodyPost _ _ _ _ _ _)
        first
        | (go_returns; refine ⟨?_, ?_⟩)
        | (refine bodyPost_ret (by simp [results, Tryz.results16, go_sem, *]; try rfl) rfl ⟨?_, ?_⟩)
        rotate_left
        · repeat' (first | exact Gr.refl _ | exact Nat.le_refl _ | exact Nat.le_add_right _ _ | refine Gr.setCell ?_ ?_ _ | refine Gr.alloc ?_ _ | refine Gr.drew ?_ | refine Gr.trans ?_ (by assumption) | omega | (dsimp only; omega))
      all_goals rfl
    | false =>
      cases y4 with
      | true =>
        obtain rfl : R = false := by rw [HR.out]; simp
        clear HR HC
        go_enter Tryz.func16, Tryz.ntmps16
        go_wp2
        all_goals
          (try (go_step3; (try simp only [Exit.then]); (try change Rg.once _ _ _ _ _ _); rw [Rg.once_goto]; go_wp2))
          (try rw [Rg.once_ret])
          (try rw [Exit.noGoto_ret])
          (try change bodyPost _ _ _ _ _ _)
          first
          | (go_returns; refine ⟨?_, ?_⟩)
          | (refine bodyPost_ret (by simp [results, Tryz.results16, go_sem, *]; try rfl) rfl ⟨?_, ?_⟩)
          rotate_left
          · repeat' (first | exact Gr.refl _ | exact Nat.le_refl _ | exact Nat.le_add_right _ _ | refine Gr.setCell ?_ ?_ _ | refine Gr.alloc ?_ _ | refine Gr.drew ?_ | refine Gr.trans ?_ (by assumption) | omega | (dsimp only; omega))
        all_goals rfl
      | false =>
        cases y5 with
        | false =>
          obtain rfl : R = B := by rw [HR.out]; simp
          clear HR
          go_enter Tryz.func16, Tryz.ntmps16
          go_wp2_with fail
          refine (HC.out _ ((Gr.refl _).alloc _)).mono ?_
          rintro e w' ⟨rfl, hg⟩
          clear HC
          go_wp2
          all_goals
            (try (go_step3; (try simp only [Exit.then]); (try change Rg.once _ _ _ _ _ _); rw [Rg.once_goto]; go_wp2))
            (try rw [Rg.once_ret])
            (try rw [Exit.noGoto_ret])
            (try change bodyPost _ _ _ _ _ _)
            first
            | (go_returns; refine ⟨?_, ?_⟩)
            | (refine bodyPost_ret (by simp [results, Tryz.results16, go_sem, *]; try rfl) rfl ⟨?_, ?_⟩)
            rotate_left
            · repeat' (first | exact Gr.refl _ | exact Nat.le_refl _ | exact Nat.le_add_right _ _ | refine Gr.setCell ?_ ?_ _ | refine Gr.alloc ?_ _ | refine Gr.drew ?_ | refine Gr.trans ?_ (by assumption) | omega | (dsimp only; omega))
          all_goals simp
        | true =>
          cases y6 with
          | true =>
            obtain rfl : R = false := by rw [HR.out]; simp
            clear HR HC
            go_enter Tryz.func16, Tryz.ntmps16
            go_wp2
            all_goals
              (try (go_step3; (try simp only [Exit.then]); (try change Rg.once _ _ _ _ _ _); rw [Rg.once_goto]; go_wp2))
              (try rw [Rg.once_ret])
              (try rw [Exit.noGoto_ret])
              (try change bodyPost _ _ _ _ _ _)
              first
              | (go_returns; refine ⟨?_, ?_⟩)
              | (refine bodyPost_ret (by simp [results, Tryz.results16, go_sem, *]; try rfl) rfl ⟨?_, ?_⟩)
              rotate_left
              · repeat' (first | exact Gr.refl _ | exact Nat.le_refl _ | exact Nat.le_add_right _ _ | refine Gr.setCell ?_ ?_ _ | refine Gr.alloc ?_ _ | refine Gr.drew ?_ | refine Gr.trans ?_ (by assumption) | omega | (dsimp only; omega))
            all_goals rfl
          | false =>
            obtain rfl : R = B := by rw [HR.out]; simp
            clear HR
            go_enter Tryz.func16, Tryz.ntmps16
            go_wp2_with fail
            refine (HC.out _ ((Gr.refl _).alloc _)).mono ?_
            rintro e w' ⟨rfl, hg⟩
            clear HC
            go_wp2
            all_goals
              (try (go_step3; (try simp only [Exit.then]); (try change Rg.once _ _ _ _ _ _); rw [Rg.once_goto]; go_wp2))
              (try rw [Rg.once_ret])
              (try rw [Exit.noGoto_ret])
              (try change bodyPost _ _ _ _ _ _)
              first
              | (go_returns; refine ⟨?_, ?_⟩)
              | (refine bodyPost_ret (by simp [results, Tryz.results16, go_sem, *]; try rfl) rfl ⟨?_, ?_⟩)
              rotate_left
              · repeat' (first | exact Gr.refl _ | exact Nat.le_refl _ | exact Nat.le_add_right _ _ | refine Gr.setCell ?_ ?_ _ | refine Gr.alloc ?_ _ | refine Gr.drew ?_ | refine Gr.trans ?_ (by assumption) | omega | (dsimp only; omega))
            all_goals simp
  | true =>
    cases y2 with
    | true =>
      obtain rfl : R = false := by rw [HR.out]; simp
      clear HR HC
      go_enter Tryz.func16, Tryz.ntmps16
      go_wp2
      all_goals
        (try (go_step3; (try simp only [Exit.then]); (try change Rg.once _ _ _ _ _ _); rw [Rg.once_goto]; go_wp2))
        (try rw [Rg.once_ret])
        (try rw [Exit.noGoto_ret])
        (try change bodyPost _ _ _ _ _ _)
        first
        | (go_returns; refine ⟨?_, ?_⟩)
        | (refine bodyPost_ret (by simp [results, Tryz.results16, go_sem, *]; try rfl) rfl ⟨?_, ?_⟩)
        rotate_left
        · repeat' (first | exact Gr.refl _ | exact Nat.le_refl _ | exact Nat.le_add_right _ _ | refine Gr.setCell ?_ ?_ _ | refine Gr.alloc ?_ _ | refine Gr.drew ?_ | refine Gr.trans ?_ (by assumption) | omega | (dsimp only; omega))
      all_goals rfl
    | false =>
      cases y3 with
      | true =>
        obtain rfl : R = false := by rw [HR.out]; simp
        clear HR HC
        go_enter Tryz.func16, Tryz.ntmps16
        go_wp2
        all_goals
          (try (go_step3; (try simp only [Exit.then]); (try change Rg.once _ _ _ _ _ _); rw [Rg.once_goto]; go_wp2))
          (try rw [Rg.once_ret])
          (try rw [Exit.noGoto_ret])
          (try change bodyPost _ _ _ _ _ _)
          first
          | (go_returns; refine ⟨?_, ?_⟩)
          | (refine bodyPost_ret (by simp [results, Tryz.results16, go_sem, *]; try rfl) rfl ⟨?_, ?_⟩)
          rotate_left
          · repeat' (first | exact Gr.refl _ | exact Nat.le_refl _ | exact Nat.le_add_right _ _ | refine Gr.setCell ?_ ?_ _ | refine Gr.alloc ?_ _ | refine Gr.drew ?_ | refine Gr.trans ?_ (by assumption) | omega | (dsimp only; omega))
        all_goals rfl
      | false =>
        cases y4 with
        | true =>
          obtain rfl : R = false := by rw [HR.out]; simp
          clear HR HC
          go_enter Tryz.func16, Tryz.ntmps16
          go_wp2
          all_goals
            (try (go_step3; (try simp only [Exit.then]); (try change Rg.once _ _ _ _ _ _); rw [Rg.once_goto]; go_wp2))
            (try rw [Rg.once_ret])
            (try rw [Exit.noGoto_ret])
            (try change bodyPost _ _ _ _ _ _)
            first
            | (go_returns; refine ⟨?_, ?_⟩)
            | (refine bodyPost_ret (by simp [results, Tryz.results16, go_sem, *]; try rfl) rfl ⟨?_, ?_⟩)
            rotate_left
            · repeat' (first | exact Gr.refl _ | exact Nat.le_refl _ | exact Nat.le_add_right _ _ | refine Gr.setCell ?_ ?_ _ | refine Gr.alloc ?_ _ | refine Gr.drew ?_ | refine Gr.trans ?_ (by assumption) | omega | (dsimp only; omega))
          all_goals rfl
        | false =>
          cases y5 with
          | false =>
            obtain rfl : R = B := by rw [HR.out]; simp
            clear HR
            go_enter Tryz.func16, Tryz.ntmps16
            go_wp2_with fail
            refine (HC.out _ ((Gr.refl _).alloc _)).mono ?_
            rintro e w' ⟨rfl, hg⟩
            clear HC
            go_wp2
            all_goals
              (try (go_step3; (try simp only [Exit.then]); (try change Rg.once _ _ _ _ _ _); rw [Rg.once_goto]; go_wp2))
              (try rw [Rg.once_ret])
              (try rw [Exit.noGoto_ret])
              (try change bodyPost _ _ _ _ _ _)
              first
              | (go_returns; refine ⟨?_, ?_⟩)
              | (refine bodyPost_ret (by simp [results, Tryz.results16, go_sem, *]; try rfl) rfl ⟨?_, ?_⟩)
              rotate_left
              · repeat' (first | exact Gr.refl _ | exact Nat.le_refl _ | exact Nat.le_add_right _ _ | refine Gr.setCell ?_ ?_ _ | refine Gr.alloc ?_ _ | refine Gr.drew ?_ | refine Gr.trans ?_ (by assumption) | omega | (dsimp only; omega))
            all_goals simp
          | true =>
            cases y6 with
            | true =>
              obtain rfl : R = false := by rw [HR.out]; simp
              clear HR HC
              go_enter Tryz.func16, Tryz.ntmps16
              go_wp2
              all_goals
                (try (go_step3; (try simp only [Exit.then]); (try change Rg.once _ _ _ _ _ _); rw [Rg.once_goto]; go_wp2))
                (try rw [Rg.once_ret])
                (try rw [Exit.noGoto_ret])
                (try change bodyPost _ _ _ _ _ _)
                first
                | (go_returns; refine ⟨?_, ?_⟩)
                | (refine bodyPost_ret (by simp [results, Tryz.results16, go_sem, *]; try rfl) rfl ⟨?_, ?_⟩)
                rotate_left
                · repeat' (first | exact Gr.refl _ | exact Nat.le_refl _ | exact Nat.le_add_right _ _ | refine Gr.setCell ?_ ?_ _ | refine Gr.alloc ?_ _ | refine Gr.drew ?_ | refine Gr.trans ?_ (by assumption) | omega | (dsimp only; omega))
              all_goals rfl
            | false =>
              obtain rfl : R = B := by rw [HR.out]; simp
              clear HR
              go_enter Tryz.func16, Tryz.ntmps16
              go_wp2_with fail
              refine (HC.out _ ((Gr.refl _).alloc _)).mono ?_
              rintro e w' ⟨rfl, hg⟩
              clear HC
              go_wp2
              all_goals
                (try (go_step3; (try simp only [Exit.then]); (try change Rg.once _ _ _ _ _ _); rw [Rg.once_goto]; go_wp2))
                (try rw [Rg.once_ret])
                (try rw [Exit.noGoto_ret])
                (try change bodyPost _ _ _ _ _ _)
                first
                | (go_returns; refine ⟨?_, ?_⟩)
                | (refine bodyPost_ret (by simp [results, Tryz.results16, go_sem, *]; try rfl) rfl ⟨?_, ?_⟩)
                rotate_left
                · repeat' (first | exact Gr.refl _ | exact Nat.le_refl _ | exact Nat.le_add_right _ _ | refine Gr.setCell ?_ ?_ _ | refine Gr.alloc ?_ _ | refine Gr.drew ?_ | refine Gr.trans ?_ (by assumption) | omega | (dsimp only; omega))
              all_goals simp
theorem safes_id : ∀ xs : List Ex, safeXs xs = (xs.map safeX).all id
  | [] => by rw [safeXs]; rfl
  | x :: xs => by rw [safeXs, safes_id xs]; rfl
theorem safe_any : ∀ (N : Nat) (x : Ex), x.forms ≤ N → ∀ (r : XR) (w : World), Ex.At Al w x r → Calls Tryz.prog 16 #[XR.val r] w (Bp (safeX x) w)
  | 0, .mk h ks, hx, _, _, _ => by rw [Ex.forms] at hx; omega
  | N + 1, .mk h ks, hx, r, w, hat => by
    rw [Ex.forms] at hx
    have hr : r.h = h := by unfold Ex.At at hat; exact hat.1
    have hS : SD w r.oa r.n (ks.map safeX) := by
      unfold Ex.At at hat
      obtain ⟨h1, h2, h3, rs, h4, h5, h6⟩ := hat
      refine ⟨by simp; omega, h3.2, fun k hk' => ?_⟩
      have hkk : k < ks.length := by simpa using hk'
      have hkr : k < rs.length := by omega
      rcases h5 with h0 | ⟨b, off, hoa, hbl, hSb, hfr, hr⟩
      · rw [h0] at hkr; simp at hkr
      · refine ⟨b, off, rs[k], hoa, hbl, hr k hkr, fun W hW => ?_⟩
        rw [List.getElem_map]
        exact safe_any N _ (by have := bd_mem ks _ (List.getElem_mem hkk); omega) _ W ((h6.get k hkk hkr).of hW.size (fun b _ hb => hW.block b hb))
    have := safe_form h r.oa r.n r.cap _ w hS
    rw [safeX, safes_id]
    rw [← hr] at this ⊢
    exact this
end Go.Proofs.YtbeinfhgfflneaaGreat
end
section
namespace Go.Proofs.YtbeinfhgfflneaaGreat
open Go.RowKit
set_option linter.unusedSimpArgs false
set_option linter.unusedVariables false
attribute [local go_sem] Rg.leads_value Rg.leads_skip Rg.leads_enter Rg.brings_value Rg.brings_skip Rg.brings_enter Rg.bringsG_value Rg.bringsG_enter Rg.once_normal Rg.once_exit Rg.once_ret Rg.once_panic Rg.once_goto
def fitL : List V → List Cn → Bool
  | [], cs => cs.length == 0
  | _ :: _, [] => false
  | v :: l, c :: cs => if v.t != 0 && v.t != c.ty then false else fitL l cs
theorem fitL_len : ∀ {l : List V} {cs : List Cn}, fitL l cs = true → l.length = cs.length ∧ ∀ (i : Nat) (v : V) (c : Cn), l[i]? = some v → cs[i]? = some c → v.t = 0 ∨ v.t = c.ty
  | [], cs, h => by
    have : cs.length = 0 := by simpa [fitL] using h
    exact ⟨this.symm, fun i v c hv => by simp at hv⟩
  | _ :: _, [], h => by simp [fitL] at h
  | v :: l, c :: cs, h => by
    unfold fitL at h
    by_cases hc : (v.t != 0 && v.t != c.ty) = true
    · rw [if_pos hc] at h; cases h
    · rw [if_neg hc] at h
      obtain ⟨h1, h2⟩ := fitL_len h
      refine ⟨by simp [h1], fun i v' c' hv hc' => ?_⟩
      cases i with
      | zero =>
        simp at hv hc'
        subst hv hc'
        by_cases h0 : v.t = 0
        · exact .inl h0
        · by_cases h3 : v.t = c.ty
          · exact .inr h3
          · exact absurd (by simp [h0, h3]) hc
      | succ i => exact h2 i v' c' (by simpa using hv) (by simpa using hc')
theorem fitL_at (l : List V) (cs : List Cn) (k : Nat) (h : k < l.length) (h2 : k < cs.length) : fitL (l.drop k) (cs.drop k) = if (l[k]).t != 0 && (l[k]).t != cs[k].ty then false else fitL (l.drop (k + 1)) (cs.drop (k + 1)) := by
  rw [List.drop_eq_getElem_cons h, List.drop_eq_getElem_cons h2]
  rfl
theorem fitL_no (l : List V) (cs : List Cn) (k : Nat) (h : k < l.length) (h2 : ¬ k < cs.length) : fitL (l.drop k) (cs.drop k) = false := by
  rw [List.drop_eq_getElem_cons h, show cs.drop k = [] from List.drop_eq_nil_of_le (by omega)]
  rfl
set_option maxHeartbeats 16000000 in
set_option maxRecDepth 100000 in
theorem fits_any (nm0 : ByteArray) (co : Option Addr) (cc0 : Nat) (xo : Option Addr) (xn xc : Nat) (hd0 : Int) (ro : Option Addr) (rn2 rc2 : Nat) (cols : List Cn) (oa : Option Addr) (c : Nat) (l : List V) (w : World) (hC : CsAt w co cols) (hL : VAt w oa l) (b1 : cols.length ≤ 9223372036854775806) (b2 : l.length ≤ 9223372036854775806) :
    Calls Tryz.prog 14 #[.agg (TR.cells ⟨nm0, co, cols.length, cc0, xo, xn, xc, hd0, ro, rn2, rc2⟩), .slice oa l.length c] w (Bp (fitL l cols) w) := by
  obtain ⟨R, hR⟩ : ∃ R, fitL l cols = R := ⟨_, rfl⟩
  rw [hR]
  obtain ⟨W1, hW1⟩ : ∃ W1, w.alloc (.cells (TR.cells ⟨nm0, co, cols.length, cc0, xo, xn, xc, hd0, ro, rn2, rc2⟩) 41) = W1 := ⟨_, rfl⟩
  have HW1 := hid hW1
  have HG1 : Hid (Gr w W1) := hid (by rw [← hW1]; exact (Gr.refl w).alloc _)
  have HT : Hid (W1.heap[w.heap.size]? = some (.cells (TR.cells ⟨nm0, co, cols.length, cc0, xo, xn, xc, hd0, ro, rn2, rc2⟩) 41 (0, 0))) := hid (by rw [← hW1]; exact alloc_at _ _)
  have HC := hid hC
  have HL := hid hL
  have HR := hid hR
  clear hW1 hC hL hR
  unfold Bp
  go_enter Tryz.func14, Tryz.ntmps14
  go_wp2_with fail
  rw [HW1.out]
  go_loopw [5] (fun s5 wr => Gr W1 wr ∧ ∃ k : Nat, s5 = .int .i64 (k : Int) ∧ k ≤ l.length ∧ k ≤ cols.length ∧ fitL (l.drop k) (cols.drop k) = R) (fun s5 _ => l.length - (intOf s5).toNat)
  · exact ⟨Gr.refl _, 0, rfl, Nat.zero_le _, Nat.zero_le _, HR.out⟩
  · obtain ⟨hg, k, rfl, hk, hk2, hE⟩ := hrel
    have HG := hid hg
    have HE := hid hE
    have HTr := hid ((hg.block _ (lt_of_block HT.out)).trans HT.out)
    have cT := Rg.blk_cells HTr.out
    have lT := lt_of_block HTr.out
    by_cases hkn : k < l.length
    · have t1 : decide ((k : Int) < (l.length : Int)) = true := fi_dec hkn
      have gk : (k : Int) < (l.length : Int) := fi_lt hkn
      have HWK : Hid _ := hid (fi_wrapL hkn b2)
      have HMS := hid (in_ms hkn)
      by_cases hkc : k < cols.length
      · have t2 : decide ((cols.length : Int) ≤ (k : Int)) = false := by rw [decide_eq_false_iff_not]; omega
        have t2n : decide (cols.length ≤ k) = false := by rw [decide_eq_false_iff_not]; omega
        have gc : (k : Int) < (cols.length : Int) := fi_lt hkc
        obtain ⟨b, off, hoa, v0, v1, v2, v3⟩ := v_get (HL.out.keep (HG1.out.trans hg)) k hkn
        obtain ⟨b3, off3, n3, u3, hco, hbl3, hcs3⟩ := HC.out k hkc
        have hoa' : oa = some ⟨b, off, none⟩ := hoa
        have hco' : co = some ⟨b3, off3, none⟩ := hco
        subst hoa' hco'
        have d1 := (HG1.out.trans hg).keep (hcs3 1 _ rfl)
        have hb : b < wr.heap.size := lt_of_cell v0
        have hb3 : b3 < wr.heap.size := lt_of_cell d1
        have hE2 := hE
        rw [fitL_at l cols k hkn hkc] at hE2
        clear hoa hco hcs3 hk hk2 hE HE v1 v2 v3
        generalize (l[k]).t = vt at *
        generalize (cols[k]).ty = ty at *
        obtain ⟨y2, e2⟩ : ∃ x, (vt != 0) = x := ⟨_, rfl⟩
        obtain ⟨y3, e3⟩ : ∃ x, (vt != ty) = x := ⟨_, rfl⟩
        rw [e2, e3] at hE2
        have HE2 := hid hE2
        clear hE2
        cases y2 with
        | false =>
          go_upto_region 4 with fail
          refine Rg.region_text 26 (Below.drew (Below.refl _ _)) (by kernel_rfl) (by kernel_rfl) (fun _ _ d _ _ h => by cases d <;> exact h) ?_
          simp only [List.append_eq, List.cons_append, List.nil_append, List.take_succ_cons, List.take_zero, List.drop_succ_cons, List.drop_zero]
          repeat (first
              | (refine Rg.wpDets_skip (by rfl) ?_; simp only [Act.put, List.setIfInBounds_toArray, List.set_cons_zero, List.set_cons_succ])
              | (refine Rg.wpDets_step ?_ (by rfl) (fun w hS => ?_) ?_
                 rotate_left
                 · have hc := Gr.cells hS
                   have hf := Gr.frees hS
                   go_simp
                   first
                   | (refine ⟨?_, Below.refl _ _⟩; with_reducible rfl)
                 simp only [Act.put, List.setIfInBounds_toArray, List.set_cons_zero, List.set_cons_succ]))
          refine Rg.wpDets_nil ?_
          refine Rg.wpFlts_nil ?_
          refine Rg.wpLays_nil ?_
          intro w1 hK
          have hg : Gr _ w1 := hK.up
          have hc := Gr.cells hg
          have hf := Gr.frees hg
          have hz := Gr.size hg
          try simp only [World.size_alloc, World.size_setCell, World.size_drew] at hz
          try have : 0 < w1.heap.size := by omega
          try have : w.heap.size < w1.heap.size := by omega
          have HGT := hid hg
          clear v0 d1 cT lT e2 e3
          go_wp2_with fail
          exact ⟨⟨HG.out.trans HGT.out, k + 1, in_next, hkn, hkc, HE2.out⟩, HMS.out⟩
        | true =>
          cases y3 with
          | false =>
            go_upto_region 4 with fail
            refine Rg.region_text 26 (Below.drew (Below.refl _ _)) (by kernel_rfl) (by kernel_rfl) (fun _ _ d _ _ h => by cases d <;> exact h) ?_
            simp only [List.append_eq, List.cons_append, List.nil_append, List.take_succ_cons, List.take_zero, List.drop_succ_cons, List.drop_zero]
            repeat (first
                | (refine Rg.wpDets_skip (by rfl) ?_; simp only [Act.put, List.setIfInBounds_toArray, List.set_cons_zero, List.set_cons_succ])
                | (refine Rg.wpDets_step ?_ (by rfl) (fun w hS => ?_) ?_
                   rotate_left
                   · have hc := Gr.cells hS
                     have hf := Gr.frees hS
                     go_simp
                     first
                     | (refine ⟨?_, Below.refl _ _⟩; with_reducible rfl)
                   simp only [Act.put, List.setIfInBounds_toArray, List.set_cons_zero, List.set_cons_succ]))
            refine Rg.wpDets_nil ?_
            refine Rg.wpFlts_nil ?_
            refine Rg.wpLays_nil ?_
            intro w1 hK
            have hg : Gr _ w1 := hK.up
            have hc := Gr.cells hg
            have hf := Gr.frees hg
            have hz := Gr.size hg
            try simp only [World.size_alloc, World.size_setCell, World.size_drew] at hz
            try have : 0 < w1.heap.size := by omega
            try have : w.heap.size < w1.heap.size := by omega
            have HGT := hid hg
            clear v0 d1 cT lT e2 e3
            go_wp2_with fail
            exact ⟨⟨HG.out.trans HGT.out, k + 1, in_next, hkn, hkc, HE2.out⟩, HMS.out⟩
          | true =>
            obtain rfl : false = R := HE2.out
            go_upto_region 4 with fail
            refine Rg.region_text 26 (Below.drew (Below.refl _ _)) (by kernel_rfl) (by kernel_rfl) (fun _ _ d _ _ h => by cases d <;> exact h) ?_
            simp only [List.append_eq, List.cons_append, List.nil_append, List.take_succ_cons, List.take_zero, List.drop_succ_cons, List.drop_zero]
            repeat (first
                | (refine Rg.wpDets_skip (by rfl) ?_; simp only [Act.put, List.setIfInBounds_toArray, List.set_cons_zero, List.set_cons_succ])
                | (refine Rg.wpDets_step ?_ (by rfl) (fun w hS => ?_) ?_
                   rotate_left
                   · have hc := Gr.cells hS
                     have hf := Gr.frees hS
                     go_simp
                     first
                     | (refine ⟨?_, Below.refl _ _⟩; with_reducible rfl)
                   simp only [Act.put, List.setIfInBounds_toArray, List.set_cons_zero, List.set_cons_succ]))
            refine Rg.wpDets_nil ?_
            refine Rg.wpFlts_nil ?_
            refine Rg.wpLays_nil ?_
            intro w1 hK
            have hg : Gr _ w1 := hK.up
            have hc := Gr.cells hg
            have hf := Gr.frees hg
            have hz := Gr.size hg
            try simp only [World.size_alloc, World.size_setCell, World.size_drew] at hz
            try have : 0 < w1.heap.size := by omega
            try have : w.heap.size < w1.heap.size := by omega
            have HGT := hid hg
            clear v0 d1 cT lT e2 e3
            go_wp2_with fail
            go_returns
            exact ⟨rfl, HG1.out.trans (HG.out.trans HGT.out)⟩
      · have t2 : decide ((cols.length : Int) ≤ (k : Int)) = true := by rw [decide_eq_true_iff]; omega
        have t2n : decide (cols.length ≤ k) = true := by rw [decide_eq_true_iff]; omega
        obtain rfl : false = R := by rw [← HE.out, fitL_no l cols k hkn hkc]
        clear HE hE hk hk2
        go_upto_region 4 with fail
        refine Rg.region_text 26 (Below.drew (Below.refl _ _)) (by kernel_rfl) (by kernel_rfl) (fun _ _ d _ _ h => by cases d <;> exact h) ?_
        simp only [List.append_eq, List.cons_append, List.nil_append, List.take_succ_cons, List.take_zero, List.drop_succ_cons, List.drop_zero]
        repeat (first
            | (refine Rg.wpDets_skip (by rfl) ?_; simp only [Act.put, List.setIfInBounds_toArray, List.set_cons_zero, List.set_cons_succ])
            | (refine Rg.wpDets_step ?_ (by rfl) (fun w hS => ?_) ?_
               rotate_left
               · have hc := Gr.cells hS
                 have hf := Gr.frees hS
                 go_simp
                 first
                 | (refine ⟨?_, Below.refl _ _⟩; with_reducible rfl)
               simp only [Act.put, List.setIfInBounds_toArray, List.set_cons_zero, List.set_cons_succ]))
        refine Rg.wpDets_nil ?_
        refine Rg.wpFlts_nil ?_
        refine Rg.wpLays_nil ?_
        intro w1 hK
        have hg : Gr _ w1 := hK.up
        have hc := Gr.cells hg
        have hf := Gr.frees hg
        have hz := Gr.size hg
        try simp only [World.size_alloc, World.size_setCell, World.size_drew] at hz
        try have : 0 < w1.heap.size := by omega
        try have : w.heap.size < w1.heap.size := by omega
        have HGT := hid hg
        clear cT lT
        go_wp2_with fail
        go_returns
        exact ⟨rfl, HG1.out.trans (HG.out.trans HGT.out)⟩
    · have t1 : decide ((k : Int) < (l.length : Int)) = false := fi_dec0 hkn
      have t1n : decide (k < l.length) = false := fi_decn0 hkn
      obtain rfl : k = l.length := by omega
      obtain ⟨x, hx⟩ : ∃ x, (l.length == cols.length) = x := ⟨_, rfl⟩
      have q := nat_eq _ _ x hx
      obtain rfl : R = x := by
        rw [← HE.out, List.drop_length, ← hx, fitL, List.length_drop]
        by_cases h0 : l.length = cols.length
        · rw [h0]; simp
        · rw [beq_eq_false_iff_ne.2 h0, beq_eq_false_iff_ne.2 (by omega)]
      clear HE hE hk hk2 hx HR
      go_wp2_with fail
      go_returns
      exact ⟨rfl, HG1.out.trans HG.out⟩
end Go.Proofs.YtbeinfhgfflneaaGreat
end
section
namespace Go.Proofs.YtbeinfhgfflneaaGreat
set_option linter.unusedSimpArgs false
set_option linter.unusedVariables false
structure Ty1 (n : Int) (s : Bool) (r : V × Int) : Prop where
  ok : r.2 = 0 → r.1.t = 0 ∨ r.1.t = n
  bad : r.2 ≠ 0 → r.2 = 161 ∨ r.2 = 162
  safe : s = true → r.2 = 0
theorem Ty1.null (n : Int) (s : Bool) : Ty1 n s (nul, 0) := ⟨fun _ => .inl rfl, fun h => absurd rfl h, fun _ => rfl⟩
theorem Ty1.bool (s : Bool) (b : Bool) : Ty1 3 s (boolV b, 0) := ⟨fun _ => .inr rfl, fun h => absurd rfl h, fun _ => rfl⟩
theorem Ty1.num (s : Bool) (k : Int) : Ty1 1 s (numV k, 0) := ⟨fun _ => .inr rfl, fun h => absurd rfl h, fun _ => rfl⟩
theorem Ty1.fit (k : Int) : Ty1 1 false (fitR k) := by
  unfold fitR
  split
  · exact .num _ _
  · exact ⟨fun h => absurd h (by decide), fun _ => .inl rfl, fun h => by cases h⟩
theorem Ty1.err {n : Int} {s : Bool} {r : V × Int} (h : Ty1 n s r) (m : Int) (h0 : r.2 ≠ 0) : Ty1 m s (nul, r.2) := ⟨fun e => absurd e h0, fun _ => h.bad h0, fun e => h.safe e⟩
theorem Ty1.weak {n : Int} {s s' : Bool} {r : V × Int} (h : Ty1 n s r) (hs : s' = true → s = true) : Ty1 n s' r := ⟨h.ok, h.bad, fun e => h.safe (hs e)⟩
def Kn (n : Int) (v : V) : Prop := v.t = 0 ∨ v.t = n
theorem kn_typed2 {k : Int} {a b : V} (ha : Kn k a) (hb : Kn k b) : (vtypedB k [a, b]).1 = true := by
  unfold Kn at ha hb
  rcases ha with ha | ha <;> rcases hb with hb | hb <;> simp [vtypedB, typedFrom, ha, hb]
theorem kn_typed1 {k : Int} {a : V} (ha : Kn k a) : (vtypedB k [a]).1 = true := by
  unfold Kn at ha
  rcases ha with ha | ha <;> simp [vtypedB, typedFrom, ha]
theorem arith_ty (op a b : Int) : Ty1 1 false (arithR op a b) := by
  unfold arithR
  repeat' split
  all_goals first | exact .fit _ | exact ⟨fun h => absurd h (by decide), fun _ => .inr rfl, fun h => by cases h⟩
theorem math_ty (op : Int) (a b : V) (h1 : 18 ≤ op) (h2 : op ≤ 22) (ha : Kn 1 a) (hb : Kn 1 b) : Ty1 1 false (mathR op a b) := by
  unfold mathR mathIn
  rw [if_neg (by simp; omega), if_neg (by simp; omega), if_neg (by simp; omega), if_pos (kn_typed2 ha hb)]
  split
  · exact .null _ _
  · rw [if_neg (by simp; omega)]
    exact arith_ty op a.n b.n
theorem cat_ty (a b : V) (ha : Kn 2 a) (hb : Kn 2 b) (s : Bool) : Ty1 2 s (mathR 23 a b) := by
  unfold mathR mathIn
  rw [if_neg (by decide), if_neg (by decide), if_pos (by decide), if_pos (kn_typed2 ha hb)]
  split
  · exact .null _ _
  · exact ⟨fun _ => .inr rfl, fun h => absurd rfl h, fun _ => rfl⟩
theorem less_ty (op : Int) (k : Int) (a b : V) (h1 : 9 ≤ op) (h2 : op ≤ 14) (ha : Kn k a) (hb : Kn k b) (s : Bool) : Ty1 3 s (lessR op a b) := by
  unfold lessR
  rw [if_neg (by simp; omega), if_neg (by simp; omega)]
  unfold Kn at ha hb
  repeat' split
  all_goals first | exact .null _ _ | exact .bool _ _ | skip
  all_goals (exfalso; rename_i h3 h4 h5; simp at h3 h4 h5; omega)
theorem not_ty (a : V) (ha : Kn 3 a) (s : Bool) : Ty1 3 s (notR a) := by
  unfold notR
  unfold Kn at ha
  repeat' split
  all_goals first | exact .null _ _ | exact .bool _ _ | skip
  all_goals (exfalso; rename_i h3 h4; simp at h3 h4; omega)
theorem side_ty (a b : V) (d : Bool) (ha : Kn 3 a) (hb : Kn 3 b) (s : Bool) : Ty1 3 s (sideR (plainV a) (plainV b) d) := by
  unfold sideR
  rw [if_pos (kn_typed2 (k := 3) (a := plainV a) (b := plainV b) ha hb)]
  repeat' split
  all_goals first | exact .null _ _ | exact .bool _ _
theorem neg_ty (a : V) (ha : Kn 1 a) : Ty1 1 false (negR a) := by
  have h := math_ty 19 (numV 0) a (by decide) (by decide) (.inr rfl) ha
  exact h
theorem first_ty (k : Int) (s : Bool) : ∀ (l : List V) (out : V), (∀ v ∈ l, Kn k v) → Kn k out → Ty1 k s (firstV l out)
  | [], out, _, ho => ⟨fun _ => ho, fun h => absurd rfl h, fun _ => rfl⟩
  | v :: r, out, hl, ho => by
    have hv := hl v (by simp)
    have hr : ∀ u ∈ r, Kn k u := fun u hu => hl u (by simp [hu])
    unfold firstV
    unfold Kn at hv ho
    repeat' split
    all_goals first | exact first_ty k s r _ hr ho | exact first_ty k s r _ hr hv | skip
    all_goals (exfalso; rename_i h3 h4 h5; simp at h3 h4 h5; omega)
theorem one_ty (len : Bool) (a : V) (ha : Kn (if len then 2 else 1) a) : Ty1 1 len (oneV len a) := by
  cases len with
  | true =>
    unfold oneV
    have h : (vtypedB (if true = true then 2 else 1) [a]).1 = true := kn_typed1 ha
    rw [if_pos h]
    by_cases h2 : (vtypedB (if true = true then 2 else 1) [a]).2 = true
    · rw [if_pos h2]; exact .null _ _
    · rw [if_neg h2, if_pos rfl]; exact .num _ _
  | false =>
    unfold oneV
    have h : (vtypedB (if false = true then 2 else 1) [a]).1 = true := kn_typed1 ha
    rw [if_pos h]
    by_cases h2 : (vtypedB (if false = true then 2 else 1) [a]).2 = true
    · rw [if_pos h2]; exact .null _ _
    · rw [if_neg h2, if_neg (by decide)]
      by_cases h3 : decide (a.n < 0) = true
      · rw [if_pos h3]; exact neg_ty a ha
      · rw [if_neg h3]; exact .num _ _
theorem den_ty (nt : Bool) (r : V × Int) (s : Bool) (h : Ty1 3 s r) : Ty1 3 s (denR nt r) := by
  unfold denR
  split
  · exact h
  · rename_i hc
    have h0 : r.2 = 0 := by simp at hc; exact hc.1
    exact not_ty r.1 (h.ok h0) s
end Go.Proofs.YtbeinfhgfflneaaGreat
end
section
namespace Go.Proofs.YtbeinfhgfflneaaGreat
set_option linter.unusedSimpArgs false
set_option linter.unusedVariables false
def TyL : List Int → List Bool → List (V × Int) → Prop
  | [], [], [] => True
  | n :: ns, s :: ss, r :: rs => Ty1 n s r ∧ TyL ns ss rs
  | _, _, _ => False
def allS (ss : List Bool) : Bool := ss.all id
theorem TyL.len : ∀ {ns : List Int} {ss : List Bool} {rs : List (V × Int)}, TyL ns ss rs → rs.length = ns.length ∧ ss.length = ns.length
  | [], [], [], _ => ⟨rfl, rfl⟩
  | n :: ns, s :: ss, r :: rs, h => by have := TyL.len h.2; simp [this.1, this.2]
  | [], _ :: _, _, h => h.elim
  | [], [], _ :: _, h => h.elim
  | _ :: _, [], _, h => h.elim
  | _ :: _, _ :: _, [], h => h.elim
theorem kn_of {n k : Int} {s : Bool} {r : V × Int} (h : Ty1 n s r) (h0 : r.2 = 0) (hk : (n == 0 || n == k) = true) : Kn k r.1 := by
  have := h.ok h0
  unfold Kn
  simp at hk
  omega
theorem TyL.kn {k : Int} : ∀ {ns : List Int} {ss : List Bool} {rs : List (V × Int)}, TyL ns ss rs → allB k ns = true → (errR rs = 0 → ∀ v ∈ valsR rs, Kn k v) ∧ (errR rs ≠ 0 → errR rs = 161 ∨ errR rs = 162) ∧ (allS ss = true → errR rs = 0)
  | [], [], [], _, _ => ⟨fun _ v hv => by simp [valsR] at hv, fun h => absurd rfl h, fun _ => rfl⟩
  | n :: ns, s :: ss, r :: rs, h, hk => by
    have hk2 : (n == 0 || n == k) = true ∧ allB k ns = true := by simpa [allB] using hk
    obtain ⟨i1, i2, i3⟩ := TyL.kn h.2 hk2.2
    by_cases h0 : r.2 = 0
    · have e : errR (r :: rs) = errR rs := by simp only [errR]; rw [if_pos (by simpa using h0)]
      rw [e]
      refine ⟨fun he v hv => ?_, i2, fun hs => i3 (by simp [allS] at hs ⊢; exact hs.2)⟩
      rcases List.mem_cons.1 (show v ∈ r.1 :: valsR rs from hv) with rfl | hv
      · exact kn_of h.1 h0 hk2.1
      · exact i1 he v hv
    · have e : errR (r :: rs) = r.2 := by simp only [errR]; rw [if_neg (by simpa using h0)]
      rw [e]
      exact ⟨fun he => absurd he h0, fun _ => h.1.bad h0, fun hs => h.1.safe (by simp [allS] at hs; exact hs.1)⟩
  | [], _ :: _, _, h, _ => h.elim
  | [], [], _ :: _, h, _ => h.elim
  | _ :: _, [], _, h, _ => h.elim
  | _ :: _, _ :: _, [], h, _ => h.elim
theorem inL_ty (k : Int) (a : V) (nt : Bool) (s : Bool) (ha : Kn k a) : ∀ {ns : List Int} {ss : List Bool} {rs : List (V × Int)} (out : V), TyL ns ss rs → allB k ns = true → (s = true → allS ss = true) → Kn 3 out → Ty1 3 s (inL a nt rs out)
  | [], [], [], out, _, _, _, ho => den_ty nt _ s ⟨fun _ => ho, fun h => absurd rfl h, fun _ => rfl⟩
  | n :: ns, s1 :: ss, r :: rs, out, h, hk, hs, ho => by
    have hk2 : (n == 0 || n == k) = true ∧ allB k ns = true := by simpa [allB] using hk
    have hs2 : s = true → allS ss = true := fun e => by have := hs e; simp [allS] at this ⊢; exact this.2
    unfold inL
    by_cases h0 : r.2 = 0
    · rw [if_pos (by simpa using h0)]
      have L := less_ty 9 k a r.1 (by decide) (by decide) ha (kn_of h.1 h0 hk2.1) true
      have e0 := L.safe rfl
      rw [if_pos (by simpa using e0)]
      by_cases h1 : (lessR 9 a r.1).1.t = 0
      · rw [if_pos (by simpa using h1)]
        exact inL_ty k a nt s ha _ h.2 hk2.2 hs2 (L.ok e0)
      · rw [if_neg (by simpa using h1)]
        by_cases h2 : (lessR 9 a r.1).1.b = true
        · rw [if_pos h2]
          exact den_ty nt _ s ⟨fun _ => L.ok e0, fun h => absurd rfl h, fun _ => rfl⟩
        · rw [if_neg h2]
          exact inL_ty k a nt s ha _ h.2 hk2.2 hs2 ho
    · rw [if_neg (by simpa using h0)]
      exact ⟨fun e => absurd e h0, fun _ => h.1.bad h0, fun e => h.1.safe (by have := hs e; simp [allS] at this; exact this.1)⟩
  | [], _ :: _, _, _, h, _, _, _ => h.elim
  | [], [], _ :: _, _, h, _, _, _ => h.elim
  | _ :: _, [], _, _, h, _, _, _ => h.elim
  | _ :: _, _ :: _, [], _, h, _, _, _ => h.elim
theorem bet_ty (k : Int) (nt : Bool) (x l h : V) (s : Bool) (hx : Kn k x) (hl : Kn k l) (hh : Kn k h) : Ty1 3 s (betY nt x l h) := by
  unfold betY
  have L1 := less_ty 12 k l x (by decide) (by decide) hl hx true
  have L2 := less_ty 12 k x h (by decide) (by decide) hx hh true
  rw [if_pos (by simpa using L1.safe rfl), if_pos (by simpa using L2.safe rfl)]
  exact den_ty nt _ s (side_ty _ _ _ (L1.ok (L1.safe rfl)) (L2.ok (L2.safe rfl)) s)
theorem sideY_ty (d : Bool) (f : V → V → V × Int) (a b : V × Int) (s sa sb : Bool) (na nb : Int) (ha : Ty1 na sa a) (hb : Ty1 nb sb b) (ka : (na == 0 || na == 3) = true) (kb : (nb == 0 || nb == 3) = true) (hs : s = true → sa = true ∧ sb = true) (hf : ∀ u v, Kn 3 u → Kn 3 v → Ty1 3 s (f u v)) : Ty1 3 s (sideY d f a b) := by
  unfold sideY
  by_cases h0 : a.2 = 0
  · rw [if_pos (by simpa using h0)]
    split
    · exact .bool _ _
    · by_cases h1 : b.2 = 0
      · rw [if_pos (by simpa using h1)]
        exact hf _ _ (kn_of ha h0 ka) (kn_of hb h1 kb)
      · rw [if_neg (by simpa using h1)]
        exact ⟨fun e => absurd e h1, fun _ => hb.bad h1, fun e => hb.safe (hs e).2⟩
  · rw [if_neg (by simpa using h0)]
    exact ⟨fun e => absurd e h0, fun _ => ha.bad h0, fun e => ha.safe (hs e).1⟩
end Go.Proofs.YtbeinfhgfflneaaGreat
end
section
namespace Go.Proofs.YtbeinfhgfflneaaGreat
open Go.RowKit
set_option linter.unusedSimpArgs false
set_option linter.unusedVariables false
attribute [local go_sem] Rg.leads_value Rg.leads_skip Rg.leads_enter Rg.brings_value Rg.brings_skip Rg.brings_enter Rg.bringsG_value Rg.bringsG_enter Rg.once_normal Rg.once_exit Rg.once_ret Rg.once_panic Rg.once_goto
set_option maxHeartbeats 4000000 in
set_option maxRecDepth 100000 in
theorem lit_form (p : Nat) (rh : Hd) (roa : Option Addr) (rn rc : Nat) (w : World) : Calls Tryz.prog 42 #[.pointer (some ⟨p, 0, none⟩), XR.val ⟨rh, roa, rn, rc⟩] w (Vp (rh.v, 0) w) := by
  obtain ⟨op, ⟨vt, vn, vs, vb⟩, tab, name, t, c, nt, st⟩ := rh
  unfold XR.val Vp pairR
  go_enter Tryz.func42, Tryz.ntmps42
  go_wp2
  all_goals
    (try (go_step3; (try simp only [Exit.then]); (try change Rg.once _ _ _ _ _ _); rw [Rg.once_goto]; go_wp2))
    (try rw [Rg.once_ret])
    (try rw [Exit.noGoto_ret])
    (try change bodyPost _ _ _ _ _ _)
    first
    | (go_returns; refine ⟨?_, ?_⟩)
    | (refine bodyPost_ret (by simp [results, Tryz.results42, go_sem, *]; try rfl) rfl ⟨?_, ?_⟩)
    rotate_left
    · repeat' (first | exact Gr.refl _ | exact Nat.le_refl _ | exact Nat.le_add_right _ _ | refine Gr.setCell ?_ ?_ _ | refine Gr.alloc ?_ _ | refine Gr.drew ?_ | refine Gr.trans ?_ (by assumption) | omega | (dsimp only; omega))
  all_goals rfl
set_option maxHeartbeats 4000000 in
set_option maxRecDepth 100000 in
theorem not_form (p : Nat) (rh : Hd) (roa : Option Addr) (rn rc : Nat) (w : World) (a : V × Int) (hK : KD p w roa rn [a]) : Calls Tryz.prog 48 #[.pointer (some ⟨p, 0, none⟩), XR.val ⟨rh, roa, rn, rc⟩] w (Vp (oneY notR a) w) := by
  obtain ⟨b, off, rk, hoa, hbl, hcs, HC⟩ := kd_get hK 0 a rfl
  obtain rfl : rn = 1 := hK.1
  clear hK
  subst hoa
  simp only [Nat.zero_mul, Nat.add_zero] at hcs
  obtain ⟨k0, k1, k2, k3, k4, k5, k6, k7, k8, k9, k10, k11⟩ := kid_cells hcs
  clear hcs
  have NC : Hid (∀ W, _) := hid (fun W => vnot_any a.1 W)
  obtain ⟨R, hR⟩ : ∃ R, oneY notR a = R := ⟨_, rfl⟩
  rw [hR]
  obtain ⟨op, ⟨vt, vn, vs, vb⟩, tab, name, t, c, nt, st⟩ := rh
  obtain ⟨⟨ta, na, sa, ba⟩, ea⟩ := a
  have HC := hid HC
  by_cases h : ea = 0
  · subst h
    have e2 : R = notR ⟨ta, na, sa, ba⟩ := hR.symm
    subst e2
    clear hR
    generalize notR ⟨ta, na, sa, ba⟩ = N at *
    obtain ⟨⟨tn, nn, sn, bn⟩, en⟩ := N
    unfold XR.val Vp pairR at *
    (try unfold V.val at *)
    go_enter Tryz.func48, Tryz.ntmps48
    go_wp2_with fail
    refine (HC.out _ (((Gr.refl _).alloc _).alloc _)).mono ?_
    rintro e w' ⟨rfl, hg⟩
    have hc := hg.cells
    have hf := hg.frees
    have hz := hg.size
    try simp only [World.size_alloc, World.size_setCell, World.size_drew] at hz
    try have : 0 < w'.heap.size := by omega
    try have : w.heap.size < w'.heap.size := by omega
    try have : w.heap.size + 1 < w'.heap.size := by omega
    try have : w.heap.size + 1 + 1 < w'.heap.size := by omega
    try have : w.heap.size + 1 + 1 + 1 < w'.heap.size := by omega
    go_wp2_with (first | (go_at_call 77; ((with_reducible refine (NC.out _).mono ?_)); rintro e w' ⟨rfl, hg⟩; have hc := hg.cells; have hf := hg.frees; have hz := hg.size; (try simp only [World.size_alloc, World.size_setCell, World.size_drew] at hz); (try have : 0 < w'.heap.size := by omega); (try have : w.heap.size < w'.heap.size := by omega); (try have : w.heap.size + 1 < w'.heap.size := by omega); (try have : w.heap.size + 1 + 1 < w'.heap.size := by omega); (try have : w.heap.size + 1 + 1 + 1 < w'.heap.size := by omega)))
    all_goals
      (try (go_step3; (try simp only [Exit.then]); (try change Rg.once _ _ _ _ _ _); rw [Rg.once_goto]; go_wp2))
      (try rw [Rg.once_ret])
      (try rw [Exit.noGoto_ret])
      (try change bodyPost _ _ _ _ _ _)
      first
      | (go_returns; refine ⟨?_, ?_⟩)
      | (refine bodyPost_ret (by simp [results, Tryz.results48, go_sem, *]; try rfl) rfl ⟨?_, ?_⟩)
      rotate_left
      · repeat' (first | exact Gr.refl _ | exact Nat.le_refl _ | exact Nat.le_add_right _ _ | refine Gr.setCell ?_ ?_ _ | refine Gr.alloc ?_ _ | refine Gr.drew ?_ | refine Gr.trans ?_ (by assumption) | omega | (dsimp only; omega))
    all_goals rfl
  · have q1 : (ea != 0) = true := by simpa using h
    have e2 : R = (nul, ea) := by
      rw [← hR]
      show (if (ea == 0) = true then _ else _) = _
      rw [if_neg (by simpa using h)]
    subst e2
    clear hR h NC
    unfold XR.val Vp pairR nul at *
    (try unfold V.val at *)
    go_enter Tryz.func48, Tryz.ntmps48
    go_wp2_with fail
    refine (HC.out _ (((Gr.refl _).alloc _).alloc _)).mono ?_
    rintro e w' ⟨rfl, hg⟩
    have hc := hg.cells
    have hf := hg.frees
    have hz := hg.size
    try simp only [World.size_alloc, World.size_setCell, World.size_drew] at hz
    try have : 0 < w'.heap.size := by omega
    try have : w.heap.size < w'.heap.size := by omega
    try have : w.heap.size + 1 < w'.heap.size := by omega
    try have : w.heap.size + 1 + 1 < w'.heap.size := by omega
    try have : w.heap.size + 1 + 1 + 1 < w'.heap.size := by omega
    go_wp2
    all_goals
      (try (go_step3; (try simp only [Exit.then]); (try change Rg.once _ _ _ _ _ _); rw [Rg.once_goto]; go_wp2))
      (try rw [Rg.once_ret])
      (try rw [Exit.noGoto_ret])
      (try change bodyPost _ _ _ _ _ _)
      first
      | (go_returns; refine ⟨?_, ?_⟩)
      | (refine bodyPost_ret (by simp [results, Tryz.results48, go_sem, *]; try rfl) rfl ⟨?_, ?_⟩)
      rotate_left
      · repeat' (first | exact Gr.refl _ | exact Nat.le_refl _ | exact Nat.le_add_right _ _ | refine Gr.setCell ?_ ?_ _ | refine Gr.alloc ?_ _ | refine Gr.drew ?_ | refine Gr.trans ?_ (by assumption) | omega | (dsimp only; omega))
    all_goals rfl
set_option maxHeartbeats 4000000 in
set_option maxRecDepth 100000 in
theorem neg_form (p : Nat) (rh : Hd) (roa : Option Addr) (rn rc : Nat) (w : World) (a : V × Int) (hK : KD p w roa rn [a]) (ha : Vl.fitsB a.1.n = true) : Calls Tryz.prog 52 #[.pointer (some ⟨p, 0, none⟩), XR.val ⟨rh, roa, rn, rc⟩] w (Vp (oneY negR a) w) := by
  obtain ⟨b, off, rk, hoa, hbl, hcs, HC⟩ := kd_get hK 0 a rfl
  obtain rfl : rn = 1 := hK.1
  clear hK
  subst hoa
  simp only [Nat.zero_mul, Nat.add_zero] at hcs
  obtain ⟨k0, k1, k2, k3, k4, k5, k6, k7, k8, k9, k10, k11⟩ := kid_cells hcs
  clear hcs
  have NC : Hid (∀ W, _) := hid (fun W => neg_any a.1 W ha)
  obtain ⟨R, hR⟩ : ∃ R, oneY negR a = R := ⟨_, rfl⟩
  rw [hR]
  obtain ⟨op, ⟨vt, vn, vs, vb⟩, tab, name, t, c, nt, st⟩ := rh
  obtain ⟨⟨ta, na, sa, ba⟩, ea⟩ := a
  have HC := hid HC
  by_cases h : ea = 0
  · subst h
    have e2 : R = negR ⟨ta, na, sa, ba⟩ := hR.symm
    subst e2
    clear hR
    generalize negR ⟨ta, na, sa, ba⟩ = N at *
    obtain ⟨⟨tn, nn, sn, bn⟩, en⟩ := N
    unfold XR.val Vp pairR at *
    (try unfold V.val at *)
    go_enter Tryz.func52, Tryz.ntmps52
    go_wp2_with fail
    refine (HC.out _ (((Gr.refl _).alloc _).alloc _)).mono ?_
    rintro e w' ⟨rfl, hg⟩
    have hc := hg.cells
    have hf := hg.frees
    have hz := hg.size
    try simp only [World.size_alloc, World.size_setCell, World.size_drew] at hz
    try have : 0 < w'.heap.size := by omega
    try have : w.heap.size < w'.heap.size := by omega
    try have : w.heap.size + 1 < w'.heap.size := by omega
    try have : w.heap.size + 1 + 1 < w'.heap.size := by omega
    try have : w.heap.size + 1 + 1 + 1 < w'.heap.size := by omega
    go_wp2_with (first | (go_at_call 80; ((with_reducible refine (NC.out _).mono ?_)); rintro e w' ⟨rfl, hg⟩; have hc := hg.cells; have hf := hg.frees; have hz := hg.size; (try simp only [World.size_alloc, World.size_setCell, World.size_drew] at hz); (try have : 0 < w'.heap.size := by omega); (try have : w.heap.size < w'.heap.size := by omega); (try have : w.heap.size + 1 < w'.heap.size := by omega); (try have : w.heap.size + 1 + 1 < w'.heap.size := by omega); (try have : w.heap.size + 1 + 1 + 1 < w'.heap.size := by omega)))
    all_goals
      (try (go_step3; (try simp only [Exit.then]); (try change Rg.once _ _ _ _ _ _); rw [Rg.once_goto]; go_wp2))
      (try rw [Rg.once_ret])
      (try rw [Exit.noGoto_ret])
      (try change bodyPost _ _ _ _ _ _)
      first
      | (go_returns; refine ⟨?_, ?_⟩)
      | (refine bodyPost_ret (by simp [results, Tryz.results52, go_sem, *]; try rfl) rfl ⟨?_, ?_⟩)
      rotate_left
      · repeat' (first | exact Gr.refl _ | exact Nat.le_refl _ | exact Nat.le_add_right _ _ | refine Gr.setCell ?_ ?_ _ | refine Gr.alloc ?_ _ | refine Gr.drew ?_ | refine Gr.trans ?_ (by assumption) | omega | (dsimp only; omega))
    all_goals rfl
  · have q1 : (ea != 0) = true := by simpa using h
    have e2 : R = (nul, ea) := by
      rw [← hR]
      show (if (ea == 0) = true then _ else _) = _
      rw [if_neg (by simpa using h)]
    subst e2
    clear hR h NC
    unfold XR.val Vp pairR nul at *
    (try unfold V.val at *)
    go_enter Tryz.func52, Tryz.ntmps52
    go_wp2_with fail
    refine (HC.out _ (((Gr.refl _).alloc _).alloc _)).mono ?_
    rintro e w' ⟨rfl, hg⟩
    have hc := hg.cells
    have hf := hg.frees
    have hz := hg.size
    try simp only [World.size_alloc, World.size_setCell, World.size_drew] at hz
    try have : 0 < w'.heap.size := by omega
    try have : w.heap.size < w'.heap.size := by omega
    try have : w.heap.size + 1 < w'.heap.size := by omega
    try have : w.heap.size + 1 + 1 < w'.heap.size := by omega
    try have : w.heap.size + 1 + 1 + 1 < w'.heap.size := by omega
    go_wp2
    all_goals
      (try (go_step3; (try simp only [Exit.then]); (try change Rg.once _ _ _ _ _ _); rw [Rg.once_goto]; go_wp2))
      (try rw [Rg.once_ret])
      (try rw [Exit.noGoto_ret])
      (try change bodyPost _ _ _ _ _ _)
      first
      | (go_returns; refine ⟨?_, ?_⟩)
      | (refine bodyPost_ret (by simp [results, Tryz.results52, go_sem, *]; try rfl) rfl ⟨?_, ?_⟩)
      rotate_left
      · repeat' (first | exact Gr.refl _ | exact Nat.le_refl _ | exact Nat.le_add_right _ _ | refine Gr.setCell ?_ ?_ _ | refine Gr.alloc ?_ _ | refine Gr.drew ?_ | refine Gr.trans ?_ (by assumption) | omega | (dsimp only; omega))
    all_goals rfl
set_option maxHeartbeats 4000000 in
set_option maxRecDepth 100000 in
theorem isNull_form (p : Nat) (rh : Hd) (roa : Option Addr) (rn rc : Nat) (w : World) (a : V × Int) (hK : KD p w roa rn [a]) : Calls Tryz.prog 49 #[.pointer (some ⟨p, 0, none⟩), XR.val ⟨rh, roa, rn, rc⟩] w (Vp (oneY (isNullR rh.nt) a) w) := by
  obtain ⟨b, off, rk, hoa, hbl, hcs, HC⟩ := kd_get hK 0 a rfl
  obtain rfl : rn = 1 := hK.1
  clear hK
  subst hoa
  simp only [Nat.zero_mul, Nat.add_zero] at hcs
  obtain ⟨k0, k1, k2, k3, k4, k5, k6, k7, k8, k9, k10, k11⟩ := kid_cells hcs
  clear hcs
  obtain ⟨R, hR⟩ : ∃ R, oneY (isNullR rh.nt) a = R := ⟨_, rfl⟩
  rw [hR]
  obtain ⟨op, ⟨vt, vn, vs, vb⟩, tab, name, t, c, nt, st⟩ := rh
  obtain ⟨⟨ta, na, sa, ba⟩, ea⟩ := a
  have HC := hid HC
  by_cases h : ea = 0
  · subst h
    have e2 : R = isNullR nt ⟨ta, na, sa, ba⟩ := hR.symm
    subst e2
    clear hR
    unfold isNullR boolV
    unfold XR.val Vp pairR at *
    (try unfold V.val at *)
    obtain ⟨b1, t1⟩ : ∃ b, (ta == 0) = b := ⟨_, rfl⟩
    obtain ⟨b2, t2⟩ : ∃ b, (b1 != nt) = b := ⟨_, rfl⟩
    simp only [t1, t2]
    go_enter Tryz.func49, Tryz.ntmps49
    go_wp2_with fail
    refine (HC.out _ (((Gr.refl _).alloc _).alloc _)).mono ?_
    rintro e w' ⟨rfl, hg⟩
    have hc := hg.cells
    have hf := hg.frees
    have hz := hg.size
    try simp only [World.size_alloc, World.size_setCell, World.size_drew] at hz
    try have : 0 < w'.heap.size := by omega
    try have : w.heap.size < w'.heap.size := by omega
    try have : w.heap.size + 1 < w'.heap.size := by omega
    try have : w.heap.size + 1 + 1 < w'.heap.size := by omega
    try have : w.heap.size + 1 + 1 + 1 < w'.heap.size := by omega
    go_wp2
    all_goals
      (try (go_step3; (try simp only [Exit.then]); (try change Rg.once _ _ _ _ _ _); rw [Rg.once_goto]; go_wp2))
      (try rw [Rg.once_ret])
      (try rw [Exit.noGoto_ret])
      (try change bodyPost _ _ _ _ _ _)
      first
      | (go_returns; refine ⟨?_, ?_⟩)
      | (refine bodyPost_ret (by simp [results, Tryz.results49, go_sem, *]; try rfl) rfl ⟨?_, ?_⟩)
      rotate_left
      · repeat' (first | exact Gr.refl _ | exact Nat.le_refl _ | exact Nat.le_add_right _ _ | refine Gr.setCell ?_ ?_ _ | refine Gr.alloc ?_ _ | refine Gr.drew ?_ | refine Gr.trans ?_ (by assumption) | omega | (dsimp only; omega))
    all_goals (rw [← t2]; rfl)
  · have q1 : (ea != 0) = true := by simpa using h
    have e2 : R = (nul, ea) := by
      rw [← hR]
      show (if (ea == 0) = true then _ else _) = _
      rw [if_neg (by simpa using h)]
    subst e2
    clear hR h
    unfold XR.val Vp pairR nul at *
    (try unfold V.val at *)
    go_enter Tryz.func49, Tryz.ntmps49
    go_wp2_with fail
    refine (HC.out _ (((Gr.refl _).alloc _).alloc _)).mono ?_
    rintro e w' ⟨rfl, hg⟩
    have hc := hg.cells
    have hf := hg.frees
    have hz := hg.size
    try simp only [World.size_alloc, World.size_setCell, World.size_drew] at hz
    try have : 0 < w'.heap.size := by omega
    try have : w.heap.size < w'.heap.size := by omega
    try have : w.heap.size + 1 < w'.heap.size := by omega
    try have : w.heap.size + 1 + 1 < w'.heap.size := by omega
    try have : w.heap.size + 1 + 1 + 1 < w'.heap.size := by omega
    go_wp2
    all_goals
      (try (go_step3; (try simp only [Exit.then]); (try change Rg.once _ _ _ _ _ _); rw [Rg.once_goto]; go_wp2))
      (try rw [Rg.once_ret])
      (try rw [Exit.noGoto_ret])
      (try change bodyPost _ _ _ _ _ _)
      first
      | (go_returns; refine ⟨?_, ?_⟩)
      | (refine bodyPost_ret (by simp [results, Tryz.results49, go_sem, *]; try rfl) rfl ⟨?_, ?_⟩)
      rotate_left
      · repeat' (first | exact Gr.refl _ | exact Nat.le_refl _ | exact Nat.le_add_right _ _ | refine Gr.setCell ?_ ?_ _ | refine Gr.alloc ?_ _ | refine Gr.drew ?_ | refine Gr.trans ?_ (by assumption) | omega | (dsimp only; omega))
    all_goals rfl
end Go.Proofs.YtbeinfhgfflneaaGreat
end
section
namespace Go.Proofs.YtbeinfhgfflneaaGreat
open Go.RowKit
set_option linter.unusedSimpArgs false
set_option linter.unusedVariables false
attribute [local go_sem] Rg.leads_value Rg.leads_skip Rg.leads_enter Rg.brings_value Rg.brings_skip Rg.brings_enter Rg.bringsG_value Rg.bringsG_enter Rg.once_normal Rg.once_exit Rg.once_ret Rg.once_panic Rg.once_goto
set_option maxHeartbeats 8000000 in
set_option maxRecDepth 100000 in
theorem side_form (p : Nat) (rh : Hd) (roa : Option Addr) (rn rc : Nat) (w : World) (a b : V × Int) (d : Bool) (n : FuncId) (f : V → V → V × Int) (hK : KD p w roa rn [a, b]) (hF : ∀ args W, (callFunc n args).run Tryz.prog W = .ok (.enter n args) W)
    (hf : ∀ W, Calls Tryz.prog n #[a.1.val, b.1.val] W (Vp (f a.1 b.1) W)) : Calls Tryz.prog 74 #[.pointer (some ⟨p, 0, none⟩), XR.val ⟨rh, roa, rn, rc⟩, .bool d, .func (.func n) #[] #[]] w (Vp (sideY d f a b) w) := by
  obtain ⟨g, off, rk, hoa, hbl, hcs, HC⟩ := kd_get hK 0 a rfl
  obtain ⟨g', off', rl, hoa', _, hcs', HD⟩ := kd_get hK 1 b rfl
  obtain rfl : rn = 2 := hK.1
  subst hoa
  cases hoa'
  clear hK
  simp only [Nat.zero_mul, Nat.add_zero, Nat.one_mul] at hcs hcs'
  obtain ⟨k0, k1, k2, k3, k4, k5, k6, k7, k8, k9, k10, k11⟩ := kid_cells hcs
  have HCS := hid hcs'
  clear hcs hcs'
  have HF : Hid (∀ W, _) := hid hf
  have HR : Hid (sideY d f a b = if a.2 == 0 then (if a.1.t == 3 && a.1.b == d then (boolV d, 0) else if b.2 == 0 then f a.1 b.1 else (nul, b.2)) else (nul, a.2)) := hid rfl
  generalize sideY d f a b = R at *
  generalize f a.1 b.1 = N at *
  obtain ⟨op, ⟨vt, vn, vs, vb⟩, tab, name, t, c, nt, st⟩ := rh
  obtain ⟨⟨ta, na, sa, ba⟩, ea⟩ := a
  obtain ⟨⟨tb, nb, sb, bb⟩, eb⟩ := b
  obtain ⟨⟨tn, nn, sn, bn⟩, en⟩ := N
  have HC := hid HC
  have HD := hid HD
  clear hf
  by_cases ha : ea = 0
  · subst ha
    obtain ⟨x1, t1⟩ : ∃ x, (ta == 3) = x := ⟨_, rfl⟩
    obtain ⟨x2, t2⟩ : ∃ x, (ba == d) = x := ⟨_, rfl⟩
    by_cases hx : (x1 && x2) = true
    · obtain ⟨hx1, hx2⟩ : x1 = true ∧ x2 = true := by simpa using hx
      obtain rfl : R = (boolV d, 0) := by rw [HR.out]; simp only [t1, t2, hx1, hx2]; rfl
      subst hx1 hx2
      clear HR hx HF HD HCS
      unfold XR.val Vp pairR boolV at *
      (try unfold V.val at *)
      go_enter Tryz.func74, Tryz.ntmps74
      go_wp2_with fail
      refine (HC.out _ (((Gr.refl _).alloc _).alloc _)).mono ?_
      rintro e w' ⟨rfl, hg⟩
      have hc := hg.cells
      have hf := hg.frees
      have hz := hg.size
      try simp only [World.size_alloc, World.size_setCell, World.size_drew] at hz
      try have : 0 < w'.heap.size := by omega
      try have : w.heap.size < w'.heap.size := by omega
      try have : w.heap.size + 1 < w'.heap.size := by omega
      try have : w.heap.size + 1 + 1 < w'.heap.size := by omega
      try have : w.heap.size + 1 + 1 + 1 < w'.heap.size := by omega
      go_wp2
      all_goals
        (try (go_step3; (try simp only [Exit.then]); (try change Rg.once _ _ _ _ _ _); rw [Rg.once_goto]; go_wp2))
        (try rw [Rg.once_ret])
        (try rw [Exit.noGoto_ret])
        (try change bodyPost _ _ _ _ _ _)
        first
        | (go_returns; refine ⟨?_, ?_⟩)
        | (refine bodyPost_ret (by simp [results, Tryz.results74, go_sem, *]; try rfl) rfl ⟨?_, ?_⟩)
        rotate_left
        · repeat' (first | exact Gr.refl _ | exact Nat.le_refl _ | exact Nat.le_add_right _ _ | refine Gr.setCell ?_ ?_ _ | refine Gr.alloc ?_ _ | refine Gr.drew ?_ | refine Gr.trans ?_ (by assumption) | omega | (dsimp only; omega))
      all_goals rfl
    · have hx : (x1 && x2) = false := by simpa using hx
      by_cases hb : eb = 0
      · subst hb
        obtain rfl : R = (⟨tn, nn, sn, bn⟩, en) := by rw [HR.out]; simp only [t1, t2, hx]; rfl
        clear HR
        unfold XR.val Vp pairR at *
        (try unfold V.val at *)
        cases x1 <;> cases x2 <;> first | (exact absurd hx (by decide)) | skip
        all_goals
          clear hx
          go_enter Tryz.func74, Tryz.ntmps74
          go_wp2_with fail
          refine (HC.out _ (((Gr.refl _).alloc _).alloc _)).mono ?_
          rintro e w' ⟨rfl, hg⟩
          have hc := hg.cells
          have hf := hg.frees
          have hz := hg.size
          try simp only [World.size_alloc, World.size_setCell, World.size_drew] at hz
          try have : 0 < w'.heap.size := by omega
          try have : w.heap.size < w'.heap.size := by omega
          try have : w.heap.size + 1 < w'.heap.size := by omega
          try have : w.heap.size + 1 + 1 < w'.heap.size := by omega
          try have : w.heap.size + 1 + 1 + 1 < w'.heap.size := by omega
          have HG1 : Gr w w' := (((Gr.refl _).alloc _).alloc _).trans hg
          have HD1 := fun W (h : Gr w' W) => HD.out W (HG1.trans h)
          have HHD := hid HD1
          obtain ⟨l0, l1, l2, l3, l4, l5, l6, l7, l8, l9, l10, l11⟩ := kid_cells (w := w') (fun i u hu => HG1.keep (HCS.out i u hu))
          have : g < w'.heap.size := lt_of_cell l0
          clear HD1 HG1
          go_wp2_with fail
          refine (HHD.out _ ?_).mono ?_
          · repeat' (first | exact Gr.refl _ | exact Nat.le_refl _ | exact Nat.le_add_right _ _ | refine Gr.setCell ?_ ?_ _ | refine Gr.alloc ?_ _ | refine Gr.drew ?_ | refine Gr.trans ?_ (by assumption) | omega | (dsimp only; omega))
          rintro e w2 ⟨rfl, hg2⟩
          have hc2 := hg2.cells
          have hf2 := hg2.frees
          have hz2 := hg2.size
          (try simp only [World.size_alloc, World.size_setCell, World.size_drew] at hz2)
          have : w.heap.size < w2.heap.size := by omega
          have : w.heap.size + 1 < w2.heap.size := by omega
          have : w'.heap.size < w2.heap.size := by omega
          go_wp2_with (refine (HF.out _).mono ?_; rintro e w3 ⟨rfl, hg3⟩; have hc3 := hg3.cells; have hf3 := hg3.frees; have hz3 := hg3.size; (try simp only [World.size_alloc, World.size_setCell, World.size_drew] at hz3); (have : w.heap.size < w3.heap.size := by omega); (have : w.heap.size + 1 < w3.heap.size := by omega))
          all_goals
            (try (go_step3; (try simp only [Exit.then]); (try change Rg.once _ _ _ _ _ _); rw [Rg.once_goto]; go_wp2))
            (try rw [Rg.once_ret])
            (try rw [Exit.noGoto_ret])
            (try change bodyPost _ _ _ _ _ _)
            first
            | (go_returns; refine ⟨?_, ?_⟩)
            | (refine bodyPost_ret (by simp [results, Tryz.results74, go_sem, *]; try rfl) rfl ⟨?_, ?_⟩)
            rotate_left
            · repeat' (first | exact Gr.refl _ | exact Nat.le_refl _ | exact Nat.le_add_right _ _ | refine Gr.setCell ?_ ?_ _ | refine Gr.alloc ?_ _ | refine Gr.drew ?_ | refine Gr.trans ?_ (by assumption) | omega | (dsimp only; omega))
          all_goals rfl
      · obtain rfl : R = (nul, eb) := by rw [HR.out]; simp only [t1, t2, hx]; show (if (eb == 0) = true then _ else _) = _; rw [if_neg (by simpa using hb)]
        have q1 : (eb != 0) = true := by simpa using hb
        clear HR HF hb
        unfold XR.val Vp pairR nul at *
        (try unfold V.val at *)
        cases x1 <;> cases x2 <;> first | (exact absurd hx (by decide)) | skip
        all_goals
          clear hx
          go_enter Tryz.func74, Tryz.ntmps74
          go_wp2_with fail
          refine (HC.out _ (((Gr.refl _).alloc _).alloc _)).mono ?_
          rintro e w' ⟨rfl, hg⟩
          have hc := hg.cells
          have hf := hg.frees
          have hz := hg.size
          try simp only [World.size_alloc, World.size_setCell, World.size_drew] at hz
          try have : 0 < w'.heap.size := by omega
          try have : w.heap.size < w'.heap.size := by omega
          try have : w.heap.size + 1 < w'.heap.size := by omega
          try have : w.heap.size + 1 + 1 < w'.heap.size := by omega
          try have : w.heap.size + 1 + 1 + 1 < w'.heap.size := by omega
          have HG1 : Gr w w' := (((Gr.refl _).alloc _).alloc _).trans hg
          have HD1 := fun W (h : Gr w' W) => HD.out W (HG1.trans h)
          have HHD := hid HD1
          obtain ⟨l0, l1, l2, l3, l4, l5, l6, l7, l8, l9, l10, l11⟩ := kid_cells (w := w') (fun i u hu => HG1.keep (HCS.out i u hu))
          have : g < w'.heap.size := lt_of_cell l0
          clear HD1 HG1
          go_wp2_with fail
          refine (HHD.out _ ?_).mono ?_
          · repeat' (first | exact Gr.refl _ | exact Nat.le_refl _ | exact Nat.le_add_right _ _ | refine Gr.setCell ?_ ?_ _ | refine Gr.alloc ?_ _ | refine Gr.drew ?_ | refine Gr.trans ?_ (by assumption) | omega | (dsimp only; omega))
          rintro e w2 ⟨rfl, hg2⟩
          have hc2 := hg2.cells
          have hf2 := hg2.frees
          have hz2 := hg2.size
          (try simp only [World.size_alloc, World.size_setCell, World.size_drew] at hz2)
          have : w.heap.size < w2.heap.size := by omega
          have : w.heap.size + 1 < w2.heap.size := by omega
          have : w'.heap.size < w2.heap.size := by omega
          go_wp2
          all_goals
            (try (go_step3; (try simp only [Exit.then]); (try change Rg.once _ _ _ _ _ _); rw [Rg.once_goto]; go_wp2))
            (try rw [Rg.once_ret])
            (try rw [Exit.noGoto_ret])
            (try change bodyPost _ _ _ _ _ _)
            first
            | (go_returns; refine ⟨?_, ?_⟩)
            | (refine bodyPost_ret (by simp [results, Tryz.results74, go_sem, *]; try rfl) rfl ⟨?_, ?_⟩)
            rotate_left
            · repeat' (first | exact Gr.refl _ | exact Nat.le_refl _ | exact Nat.le_add_right _ _ | refine Gr.setCell ?_ ?_ _ | refine Gr.alloc ?_ _ | refine Gr.drew ?_ | refine Gr.trans ?_ (by assumption) | omega | (dsimp only; omega))
          all_goals rfl
  · have q1 : (ea != 0) = true := by simpa using ha
    obtain rfl : R = (nul, ea) := by rw [HR.out]; show (if (ea == 0) = true then _ else _) = _; rw [if_neg (by simpa using ha)]
    clear HR ha HF HD HCS
    unfold XR.val Vp pairR nul at *
    (try unfold V.val at *)
    go_enter Tryz.func74, Tryz.ntmps74
    go_wp2_with fail
    refine (HC.out _ (((Gr.refl _).alloc _).alloc _)).mono ?_
    rintro e w' ⟨rfl, hg⟩
    have hc := hg.cells
    have hf := hg.frees
    have hz := hg.size
    try simp only [World.size_alloc, World.size_setCell, World.size_drew] at hz
    try have : 0 < w'.heap.size := by omega
    try have : w.heap.size < w'.heap.size := by omega
    try have : w.heap.size + 1 < w'.heap.size := by omega
    try have : w.heap.size + 1 + 1 < w'.heap.size := by omega
    try have : w.heap.size + 1 + 1 + 1 < w'.heap.size := by omega
    go_wp2
    all_goals
      (try (go_step3; (try simp only [Exit.then]); (try change Rg.once _ _ _ _ _ _); rw [Rg.once_goto]; go_wp2))
      (try rw [Rg.once_ret])
      (try rw [Exit.noGoto_ret])
      (try change bodyPost _ _ _ _ _ _)
      first
      | (go_returns; refine ⟨?_, ?_⟩)
      | (refine bodyPost_ret (by simp [results, Tryz.results74, go_sem, *]; try rfl) rfl ⟨?_, ?_⟩)
      rotate_left
      · repeat' (first | exact Gr.refl _ | exact Nat.le_refl _ | exact Nat.le_add_right _ _ | refine Gr.setCell ?_ ?_ _ | refine Gr.alloc ?_ _ | refine Gr.drew ?_ | refine Gr.trans ?_ (by assumption) | omega | (dsimp only; omega))
    all_goals rfl
set_option maxHeartbeats 4000000 in
set_option maxRecDepth 100000 in
theorem or_form (p : Nat) (rh : Hd) (roa : Option Addr) (rn rc : Nat) (w : World) (a b : V × Int) (hK : KD p w roa rn [a, b]) : Calls Tryz.prog 46 #[.pointer (some ⟨p, 0, none⟩), XR.val ⟨rh, roa, rn, rc⟩] w (Vp (sideX true orR [a, b]) w) := by
  have SC : Hid (∀ W, Gr w W → _) := hid (fun W h => side_form p rh roa rn rc W a b true 75 orR (hK.keep h) (fun args W => by kernel_rfl) (fun W => vor_any a.1 b.1 W))
  obtain ⟨op, ⟨vt, vn, vs, vb⟩, tab, name, t, c, nt, st⟩ := rh
  have e0 : sideX true orR [a, b] = sideY true orR a b := rfl
  rw [e0]
  clear e0 hK
  generalize sideY true orR a b = R at *
  obtain ⟨⟨tn, nn, sn, bn⟩, en⟩ := R
  unfold XR.val Vp pairR at *
  go_enter Tryz.func46, Tryz.ntmps46
  go_wp2_with fail
  refine (SC.out _ (((Gr.refl _).alloc _).alloc _)).mono ?_
  rintro e w' ⟨rfl, hg⟩
  have hc := hg.cells
  have hf := hg.frees
  have hz := hg.size
  try simp only [World.size_alloc, World.size_setCell, World.size_drew] at hz
  try have : 0 < w'.heap.size := by omega
  try have : w.heap.size < w'.heap.size := by omega
  try have : w.heap.size + 1 < w'.heap.size := by omega
  try have : w.heap.size + 1 + 1 < w'.heap.size := by omega
  try have : w.heap.size + 1 + 1 + 1 < w'.heap.size := by omega
  go_wp2
  all_goals
    (try (go_step3; (try simp only [Exit.then]); (try change Rg.once _ _ _ _ _ _); rw [Rg.once_goto]; go_wp2))
    (try rw [Rg.once_ret])
    (try rw [Exit.noGoto_ret])
    (try change bodyPost _ _ _ _ _ _)
    first
    | (go_returns; refine ⟨?_, ?_⟩)
    | (refine bodyPost_ret (by simp [results, Tryz.results46, go_sem, *]; try rfl) rfl ⟨?_, ?_⟩)
    rotate_left
    · repeat' (first | exact Gr.refl _ | exact Nat.le_refl _ | exact Nat.le_add_right _ _ | refine Gr.setCell ?_ ?_ _ | refine Gr.alloc ?_ _ | refine Gr.drew ?_ | refine Gr.trans ?_ (by assumption) | omega | (dsimp only; omega))
  all_goals rfl
set_option maxHeartbeats 4000000 in
set_option maxRecDepth 100000 in
theorem and_form (p : Nat) (rh : Hd) (roa : Option Addr) (rn rc : Nat) (w : World) (a b : V × Int) (hK : KD p w roa rn [a, b]) : Calls Tryz.prog 47 #[.pointer (some ⟨p, 0, none⟩), XR.val ⟨rh, roa, rn, rc⟩] w (Vp (sideX false andR [a, b]) w) := by
  have SC : Hid (∀ W, Gr w W → _) := hid (fun W h => side_form p rh roa rn rc W a b false 76 andR (hK.keep h) (fun args W => by kernel_rfl) (fun W => vand_any a.1 b.1 W))
  obtain ⟨op, ⟨vt, vn, vs, vb⟩, tab, name, t, c, nt, st⟩ := rh
  have e0 : sideX false andR [a, b] = sideY false andR a b := rfl
  rw [e0]
  clear e0 hK
  generalize sideY false andR a b = R at *
  obtain ⟨⟨tn, nn, sn, bn⟩, en⟩ := R
  unfold XR.val Vp pairR at *
  go_enter Tryz.func47, Tryz.ntmps47
  go_wp2_with fail
  refine (SC.out _ (((Gr.refl _).alloc _).alloc _)).mono ?_
  rintro e w' ⟨rfl, hg⟩
  have hc := hg.cells
  have hf := hg.frees
  have hz := hg.size
  try simp only [World.size_alloc, World.size_setCell, World.size_drew] at hz
  try have : 0 < w'.heap.size := by omega
  try have : w.heap.size < w'.heap.size := by omega
  try have : w.heap.size + 1 < w'.heap.size := by omega
  try have : w.heap.size + 1 + 1 < w'.heap.size := by omega
  try have : w.heap.size + 1 + 1 + 1 < w'.heap.size := by omega
  go_wp2
  all_goals
    (try (go_step3; (try simp only [Exit.then]); (try change Rg.once _ _ _ _ _ _); rw [Rg.once_goto]; go_wp2))
    (try rw [Rg.once_ret])
    (try rw [Exit.noGoto_ret])
    (try change bodyPost _ _ _ _ _ _)
    first
    | (go_returns; refine ⟨?_, ?_⟩)
    | (refine bodyPost_ret (by simp [results, Tryz.results47, go_sem, *]; try rfl) rfl ⟨?_, ?_⟩)
    rotate_left
    · repeat' (first | exact Gr.refl _ | exact Nat.le_refl _ | exact Nat.le_add_right _ _ | refine Gr.setCell ?_ ?_ _ | refine Gr.alloc ?_ _ | refine Gr.drew ?_ | refine Gr.trans ?_ (by assumption) | omega | (dsimp only; omega))
  all_goals rfl
end Go.Proofs.YtbeinfhgfflneaaGreat
end
section
namespace Go.Proofs.YtbeinfhgfflneaaGreat
open Go.RowKit
theorem in_form (p : Nat) (rh : Hd) (roa : Option Addr) (rn rc : Nat) (w : World) (rs : List (V × Int)) (hK : KD p w roa rn rs) (hcap : rn ≤ rc) : Calls Tryz.prog 50 #[.pointer (some ⟨p, 0, none⟩), XR.val ⟨rh, roa, rn, rc⟩] w (Vp (inX rh.nt rs) w) := by
  match rs, hK with
  | [], hK => exact in_few p rh roa rn rc w (by rw [hK.1]; decide)
  | [_], hK => exact in_few p rh roa rn rc w (by rw [hK.1]; exact (by decide : 1 < 2))
  | a :: b :: r, hK =>
    obtain ⟨g, off, rk, hoa, hbl, hcs, HC⟩ := kd_get hK 0 a rfl
    obtain rfl : rn = r.length + 2 := hK.1
    subst hoa
    obtain ⟨op, ⟨vt, vn, vs, vb⟩, tab, name, t, c, nt, st⟩ := rh
    have hb := hK.2.1
    refine in_loop p r.length g off rc op vt vn vs vb tab name t c nt st w a (b :: r) rfl (by omega) hcap ⟨rk, by simpa using hcs, HC⟩ (fun k hk => ?_)
    obtain ⟨g', off', rl, hoa', _, hcs', HD⟩ := hK.2.2 (k + 1) (by simpa using hk)
    cases hoa'
    exact ⟨rl, fun i u hu => by have := hcs' i u hu; rwa [show off + (k + 1) * 12 + i = off + 12 + k * 12 + i from by omega] at this, HD⟩
end Go.Proofs.YtbeinfhgfflneaaGreat
end
section
namespace Go.Proofs.YtbeinfhgfflneaaGreat
open Go.RowKit
set_option linter.unusedSimpArgs false
set_option linter.unusedVariables false
attribute [local go_sem] Rg.leads_value Rg.leads_skip Rg.leads_enter Rg.brings_value Rg.brings_skip Rg.brings_enter Rg.bringsG_value Rg.bringsG_enter Rg.once_normal Rg.once_exit Rg.once_ret Rg.once_panic Rg.once_goto
theorem colR_low (rows : List (List V)) (t c : Int) (h : t < 0) : colR rows t c = (nul, 1) := by unfold colR; rw [if_pos (by simpa using h)]
theorem colR_high (rows : List (List V)) (t : Nat) (c : Int) (h : rows.length ≤ t) : colR rows (t : Int) c = (nul, 1) := by
  unfold colR
  rw [if_neg (by simp)]
  have : rows[(t : Int).toNat]? = none := by rw [List.getElem?_eq_none]; simpa using h
  rw [this]
theorem colR_at (rows : List (List V)) (t : Nat) (c : Int) (h : t < rows.length) : colR rows (t : Int) c = cellR rows[t] c := by
  unfold colR
  rw [if_neg (by simp)]
  have : rows[(t : Int).toNat]? = some rows[t] := List.getElem?_eq_getElem h
  rw [this]
theorem cellR_low (l : List V) (c : Int) (h : c < 0) : cellR l c = (nul, 1) := by unfold cellR; rw [if_pos (by simpa using h)]
theorem cellR_high (l : List V) (c : Nat) (h : l.length ≤ c) : cellR l (c : Int) = (nul, 1) := by
  unfold cellR
  rw [if_neg (by simp)]
  have : l[(c : Int).toNat]? = none := by rw [List.getElem?_eq_none]; simpa using h
  rw [this]
theorem cellR_at (l : List V) (c : Nat) (h : c < l.length) : cellR l (c : Int) = (l[c], 0) := by
  unfold cellR
  rw [if_neg (by simp)]
  have : l[(c : Int).toNat]? = some l[c] := List.getElem?_eq_getElem h
  rw [this]
set_option maxHeartbeats 8000000 in
set_option maxRecDepth 100000 in
theorem col_form (p : Nat) (rh : Hd) (roa : Option Addr) (rn rc : Nat) (w : World) (rows : List (List V)) (ag : Ex → V × Int) (hE : EnvAt p w rows ag) : Calls Tryz.prog 43 #[.pointer (some ⟨p, 0, none⟩), XR.val ⟨rh, roa, rn, rc⟩] w (Vp (colR rows rh.t rh.c) w) := by
  obtain ⟨oa, cp, v2, v3, hh, hr⟩ := hE.ex
  have hpl := hE.lt
  have cP := Rg.blk_cells hh
  have p0 : w.cell? ⟨p, 0, none⟩ = some (.slice oa rows.length cp) := cP 0
  clear cP hE hh
  have hp2 : p < w.heap.size + 1 + 1 := by omega
  obtain ⟨op, ⟨vt, vn, vs, vb⟩, tab, name, t, c, nt, st⟩ := rh
  show Calls _ _ _ _ (Vp (colR rows t c) w)
  unfold XR.val
  simp only
  rcases Int.lt_or_le t 0 with ht | ht
  · rw [colR_low rows t c ht]
    have t1 : decide (t < 0) = true := by simpa using ht
    unfold Vp pairR nul
    clear ht hr
    go_enter Tryz.func43, Tryz.ntmps43
    go_wp2_with fail
    refine Rg.region_text 31 (Below.drew (Below.refl _ _)) (by kernel_rfl) (by kernel_rfl) (fun _ _ d _ _ h => by cases d <;> exact h) ?_
    simp only [List.append_eq, List.cons_append, List.nil_append, List.take_succ_cons, List.take_zero, List.drop_succ_cons, List.drop_zero]
    repeat (first
        | (refine Rg.wpDets_skip (by rfl) ?_; simp only [Act.put, List.setIfInBounds_toArray, List.set_cons_zero, List.set_cons_succ])
        | (refine Rg.wpDets_step ?_ (by rfl) (fun w hS => ?_) ?_
           rotate_left
           · have hc := Gr.cells hS
             have hf := Gr.frees hS
             go_simp
             first
             | (refine ⟨?_, Below.refl _ _⟩; with_reducible rfl)
           simp only [Act.put, List.setIfInBounds_toArray, List.set_cons_zero, List.set_cons_succ]))
    refine Rg.wpDets_nil ?_
    refine Rg.wpFlts_nil ?_
    refine Rg.wpLays_nil ?_
    intro w' hK
    have hg : Gr _ w' := hK.up
    have hc := hg.cells
    have hf := hg.frees
    have hz := hg.size
    try simp only [World.size_alloc, World.size_setCell, World.size_drew] at hz
    try have : 0 < w'.heap.size := by omega
    try have : w.heap.size < w'.heap.size := by omega
    try have : w.heap.size + 1 < w'.heap.size := by omega
    try have : w.heap.size + 1 + 1 < w'.heap.size := by omega
    try have : w.heap.size + 1 + 1 + 1 < w'.heap.size := by omega
    go_wp2
    all_goals
      (try (go_step3; (try simp only [Exit.then]); (try change Rg.once _ _ _ _ _ _); rw [Rg.once_goto]; go_wp2))
      (try rw [Rg.once_ret])
      (try rw [Exit.noGoto_ret])
      (try change bodyPost _ _ _ _ _ _)
      first
      | (go_returns; refine ⟨?_, ?_⟩)
      | (refine bodyPost_ret (by simp [results, Tryz.results43, go_sem, *]; try rfl) rfl ⟨?_, ?_⟩)
      rotate_left
      · repeat' (first | exact Gr.refl _ | exact Nat.le_refl _ | exact Nat.le_add_right _ _ | refine Gr.setCell ?_ ?_ _ | refine Gr.alloc ?_ _ | refine Gr.drew ?_ | refine Gr.trans ?_ (by assumption) | omega | (dsimp only; omega))
    all_goals rfl
  obtain ⟨k, rfl⟩ := Int.eq_ofNat_of_zero_le ht
  have t1 : decide ((k : Int) < 0) = false := by simp
  by_cases hk : k < rows.length
  · rw [colR_at rows k c hk]
    have t2 : decide ((rows.length : Int) ≤ (k : Int)) = false := by rw [decide_eq_false_iff_not]; omega
    have t2n : decide (rows.length ≤ k) = false := by rw [decide_eq_false_iff_not]; omega
    rcases hr with h0 | ⟨b, off, rfl, hbl, hrow⟩
    · rw [h0] at hk; simp at hk
    obtain ⟨oi, ci, r0, hat⟩ := hrow k hk
    have hb3 : b < w.heap.size + 1 + 1 := by omega
    have g1 : (k : Int) < (rows.length : Int) := by omega
    rcases Int.lt_or_le c 0 with hc0 | hc0
    · rw [cellR_low _ c hc0]
      have t3 : decide (c < 0) = true := by simpa using hc0
      generalize (rows[k]).length = m at *
      unfold Vp pairR nul
      clear hc0 hk ht hrow hat
      go_enter Tryz.func43, Tryz.ntmps43
      go_wp2_with fail
      refine Rg.region_text 31 (Below.drew (Below.refl _ _)) (by kernel_rfl) (by kernel_rfl) (fun _ _ d _ _ h => by cases d <;> exact h) ?_
      simp only [List.append_eq, List.cons_append, List.nil_append, List.take_succ_cons, List.take_zero, List.drop_succ_cons, List.drop_zero]
      repeat (first
          | (refine Rg.wpDets_skip (by rfl) ?_; simp only [Act.put, List.setIfInBounds_toArray, List.set_cons_zero, List.set_cons_succ])
          | (refine Rg.wpDets_step ?_ (by rfl) (fun w hS => ?_) ?_
             rotate_left
             · have hc := Gr.cells hS
               have hf := Gr.frees hS
               go_simp
               first
               | (refine ⟨?_, Below.refl _ _⟩; with_reducible rfl)
             simp only [Act.put, List.setIfInBounds_toArray, List.set_cons_zero, List.set_cons_succ]))
      refine Rg.wpDets_nil ?_
      refine Rg.wpFlts_nil ?_
      refine Rg.wpLays_nil ?_
      intro w' hK
      have hg : Gr _ w' := hK.up
      have hc := hg.cells
      have hf := hg.frees
      have hz := hg.size
      try simp only [World.size_alloc, World.size_setCell, World.size_drew] at hz
      try have : 0 < w'.heap.size := by omega
      try have : w.heap.size < w'.heap.size := by omega
      try have : w.heap.size + 1 < w'.heap.size := by omega
      try have : w.heap.size + 1 + 1 < w'.heap.size := by omega
      try have : w.heap.size + 1 + 1 + 1 < w'.heap.size := by omega
      go_wp2
      all_goals
        (try (go_step3; (try simp only [Exit.then]); (try change Rg.once _ _ _ _ _ _); rw [Rg.once_goto]; go_wp2))
        (try rw [Rg.once_ret])
        (try rw [Exit.noGoto_ret])
        (try change bodyPost _ _ _ _ _ _)
        first
        | (go_returns; refine ⟨?_, ?_⟩)
        | (refine bodyPost_ret (by simp [results, Tryz.results43, go_sem, *]; try rfl) rfl ⟨?_, ?_⟩)
        rotate_left
        · repeat' (first | exact Gr.refl _ | exact Nat.le_refl _ | exact Nat.le_add_right _ _ | refine Gr.setCell ?_ ?_ _ | refine Gr.alloc ?_ _ | refine Gr.drew ?_ | refine Gr.trans ?_ (by assumption) | omega | (dsimp only; omega))
      all_goals rfl
    obtain ⟨j, rfl⟩ := Int.eq_ofNat_of_zero_le hc0
    have t3 : decide ((j : Int) < 0) = false := by simp
    by_cases hj : j < (rows[k]).length
    · rw [cellR_at _ j hj]
      have t4 : decide (((rows[k]).length : Int) ≤ (j : Int)) = false := by rw [decide_eq_false_iff_not]; omega
      have t4n : decide ((rows[k]).length ≤ j) = false := by rw [decide_eq_false_iff_not]; omega
      have g2 : (j : Int) < ((rows[k]).length : Int) := by omega
      obtain ⟨b2, off2, rfl, v0, v1, v2', v3'⟩ := v_get hat j hj
      have hb2 := lt_of_cell v0
      have hb4 : b2 < w.heap.size + 1 + 1 := by omega
      generalize (rows[k])[j] = v at *
      generalize (rows[k]).length = m at *
      obtain ⟨tv, nv, sv, bv⟩ := v
      unfold Vp pairR
      clear hc0 hk ht hrow hat hj
      go_enter Tryz.func43, Tryz.ntmps43
      go_wp2_with fail
      refine Rg.region_text 31 (Below.drew (Below.refl _ _)) (by kernel_rfl) (by kernel_rfl) (fun _ _ d _ _ h => by cases d <;> exact h) ?_
      simp only [List.append_eq, List.cons_append, List.nil_append, List.take_succ_cons, List.take_zero, List.drop_succ_cons, List.drop_zero]
      repeat (first
          | (refine Rg.wpDets_skip (by rfl) ?_; simp only [Act.put, List.setIfInBounds_toArray, List.set_cons_zero, List.set_cons_succ])
          | (refine Rg.wpDets_step ?_ (by rfl) (fun w hS => ?_) ?_
             rotate_left
             · have hc := Gr.cells hS
               have hf := Gr.frees hS
               go_simp
               first
               | (refine ⟨?_, Below.refl _ _⟩; with_reducible rfl)
             simp only [Act.put, List.setIfInBounds_toArray, List.set_cons_zero, List.set_cons_succ]))
      refine Rg.wpDets_nil ?_
      refine Rg.wpFlts_nil ?_
      refine Rg.wpLays_nil ?_
      intro w' hK
      have hg : Gr _ w' := hK.up
      have hc := hg.cells
      have hf := hg.frees
      have hz := hg.size
      try simp only [World.size_alloc, World.size_setCell, World.size_drew] at hz
      try have : 0 < w'.heap.size := by omega
      try have : w.heap.size < w'.heap.size := by omega
      try have : w.heap.size + 1 < w'.heap.size := by omega
      try have : w.heap.size + 1 + 1 < w'.heap.size := by omega
      try have : w.heap.size + 1 + 1 + 1 < w'.heap.size := by omega
      have : p < w'.heap.size := by omega
      have : b < w'.heap.size := by omega
      have : b2 < w'.heap.size := by omega
      go_wp2_with fail
      refine Rg.region_text 12 (Below.drew (Below.refl _ _)) (by kernel_rfl) (by kernel_rfl) (fun _ _ d _ _ h => by cases d <;> exact h) ?_
      simp only [List.append_eq, List.cons_append, List.nil_append, List.take_succ_cons, List.take_zero, List.drop_succ_cons, List.drop_zero]
      repeat (first
          | (refine Rg.wpDets_skip (by rfl) ?_; simp only [Act.put, List.setIfInBounds_toArray, List.set_cons_zero, List.set_cons_succ])
          | (refine Rg.wpDets_step ?_ (by rfl) (fun w hS => ?_) ?_
             rotate_left
             · have hc := Gr.cells hS
               have hf := Gr.frees hS
               go_simp
               first
               | (refine ⟨?_, Below.refl _ _⟩; with_reducible rfl)
             simp only [Act.put, List.setIfInBounds_toArray, List.set_cons_zero, List.set_cons_succ]))
      refine Rg.wpDets_nil ?_
      refine Rg.wpFlts_nil ?_
      refine Rg.wpLays_nil ?_
      intro w' hK
      have hg : Gr _ w' := hK.up
      have hc := hg.cells
      have hf := hg.frees
      have hz := hg.size
      try simp only [World.size_alloc, World.size_setCell, World.size_drew] at hz
      try have : 0 < w'.heap.size := by omega
      try have : w.heap.size < w'.heap.size := by omega
      try have : w.heap.size + 1 < w'.heap.size := by omega
      try have : w.heap.size + 1 + 1 < w'.heap.size := by omega
      try have : w.heap.size + 1 + 1 + 1 < w'.heap.size := by omega
      go_wp2
      all_goals
        (try (go_step3; (try simp only [Exit.then]); (try change Rg.once _ _ _ _ _ _); rw [Rg.once_goto]; go_wp2))
        (try rw [Rg.once_ret])
        (try rw [Exit.noGoto_ret])
        (try change bodyPost _ _ _ _ _ _)
        first
        | (go_returns; refine ⟨?_, ?_⟩)
        | (refine bodyPost_ret (by simp [results, Tryz.results43, go_sem, *]; try rfl) rfl ⟨?_, ?_⟩)
        rotate_left
        · repeat' (first | exact Gr.refl _ | exact Nat.le_refl _ | exact Nat.le_add_right _ _ | refine Gr.setCell ?_ ?_ _ | refine Gr.alloc ?_ _ | refine Gr.drew ?_ | refine Gr.trans ?_ (by assumption) | omega | (dsimp only; omega))
      all_goals rfl
    · rw [cellR_high _ j (by omega)]
      have t4 : decide (((rows[k]).length : Int) ≤ (j : Int)) = true := by rw [decide_eq_true_iff]; omega
      have t4n : decide ((rows[k]).length ≤ j) = true := by rw [decide_eq_true_iff]; omega
      generalize (rows[k]).length = m at *
      unfold Vp pairR nul
      clear hc0 hk ht hrow hat hj
      go_enter Tryz.func43, Tryz.ntmps43
      go_wp2_with fail
      refine Rg.region_text 31 (Below.drew (Below.refl _ _)) (by kernel_rfl) (by kernel_rfl) (fun _ _ d _ _ h => by cases d <;> exact h) ?_
      simp only [List.append_eq, List.cons_append, List.nil_append, List.take_succ_cons, List.take_zero, List.drop_succ_cons, List.drop_zero]
      repeat (first
          | (refine Rg.wpDets_skip (by rfl) ?_; simp only [Act.put, List.setIfInBounds_toArray, List.set_cons_zero, List.set_cons_succ])
          | (refine Rg.wpDets_step ?_ (by rfl) (fun w hS => ?_) ?_
             rotate_left
             · have hc := Gr.cells hS
               have hf := Gr.frees hS
               go_simp
               first
               | (refine ⟨?_, Below.refl _ _⟩; with_reducible rfl)
             simp only [Act.put, List.setIfInBounds_toArray, List.set_cons_zero, List.set_cons_succ]))
      refine Rg.wpDets_nil ?_
      refine Rg.wpFlts_nil ?_
      refine Rg.wpLays_nil ?_
      intro w' hK
      have hg : Gr _ w' := hK.up
      have hc := hg.cells
      have hf := hg.frees
      have hz := hg.size
      try simp only [World.size_alloc, World.size_setCell, World.size_drew] at hz
      try have : 0 < w'.heap.size := by omega
      try have : w.heap.size < w'.heap.size := by omega
      try have : w.heap.size + 1 < w'.heap.size := by omega
      try have : w.heap.size + 1 + 1 < w'.heap.size := by omega
      try have : w.heap.size + 1 + 1 + 1 < w'.heap.size := by omega
      go_wp2
      all_goals
        (try (go_step3; (try simp only [Exit.then]); (try change Rg.once _ _ _ _ _ _); rw [Rg.once_goto]; go_wp2))
        (try rw [Rg.once_ret])
        (try rw [Exit.noGoto_ret])
        (try change bodyPost _ _ _ _ _ _)
        first
        | (go_returns; refine ⟨?_, ?_⟩)
        | (refine bodyPost_ret (by simp [results, Tryz.results43, go_sem, *]; try rfl) rfl ⟨?_, ?_⟩)
        rotate_left
        · repeat' (first | exact Gr.refl _ | exact Nat.le_refl _ | exact Nat.le_add_right _ _ | refine Gr.setCell ?_ ?_ _ | refine Gr.alloc ?_ _ | refine Gr.drew ?_ | refine Gr.trans ?_ (by assumption) | omega | (dsimp only; omega))
      all_goals rfl
  · rw [colR_high rows k c (by omega)]
    have t2 : decide ((rows.length : Int) ≤ (k : Int)) = true := by rw [decide_eq_true_iff]; omega
    have t2n : decide (rows.length ≤ k) = true := by rw [decide_eq_true_iff]; omega
    unfold Vp pairR nul
    clear ht hr hk
    go_enter Tryz.func43, Tryz.ntmps43
    go_wp2_with fail
    refine Rg.region_text 31 (Below.drew (Below.refl _ _)) (by kernel_rfl) (by kernel_rfl) (fun _ _ d _ _ h => by cases d <;> exact h) ?_
    simp only [List.append_eq, List.cons_append, List.nil_append, List.take_succ_cons, List.take_zero, List.drop_succ_cons, List.drop_zero]
    repeat (first
        | (refine Rg.wpDets_skip (by rfl) ?_; simp only [Act.put, List.setIfInBounds_toArray, List.set_cons_zero, List.set_cons_succ])
        | (refine Rg.wpDets_step ?_ (by rfl) (fun w hS => ?_) ?_
           rotate_left
           · have hc := Gr.cells hS
             have hf := Gr.frees hS
             go_simp
             first
             | (refine ⟨?_, Below.refl _ _⟩; with_reducible rfl)
           simp only [Act.put, List.setIfInBounds_toArray, List.set_cons_zero, List.set_cons_succ]))
    refine Rg.wpDets_nil ?_
    refine Rg.wpFlts_nil ?_
    refine Rg.wpLays_nil ?_
    intro w' hK
    have hg : Gr _ w' := hK.up
    have hc := hg.cells
    have hf := hg.frees
    have hz := hg.size
    try simp only [World.size_alloc, World.size_setCell, World.size_drew] at hz
    try have : 0 < w'.heap.size := by omega
    try have : w.heap.size < w'.heap.size := by omega
    try have : w.heap.size + 1 < w'.heap.size := by omega
    try have : w.heap.size + 1 + 1 < w'.heap.size := by omega
    try have : w.heap.size + 1 + 1 + 1 < w'.heap.size := by omega
    go_wp2
    all_goals
      (try (go_step3; (try simp only [Exit.then]); (try change Rg.once _ _ _ _ _ _); rw [Rg.once_goto]; go_wp2))
      (try rw [Rg.once_ret])
      (try rw [Exit.noGoto_ret])
      (try change bodyPost _ _ _ _ _ _)
      first
      | (go_returns; refine ⟨?_, ?_⟩)
      | (refine bodyPost_ret (by simp [results, Tryz.results43, go_sem, *]; try rfl) rfl ⟨?_, ?_⟩)
      rotate_left
      · repeat' (first | exact Gr.refl _ | exact Nat.le_refl _ | exact Nat.le_add_right _ _ | refine Gr.setCell ?_ ?_ _ | refine Gr.alloc ?_ _ | refine Gr.drew ?_ | refine Gr.trans ?_ (by assumption) | omega | (dsimp only; omega))
    all_goals rfl
end Go.Proofs.YtbeinfhgfflneaaGreat
end
section
namespace Go.Proofs.YtbeinfhgfflneaaGreat
open Go.RowKit
set_option linter.unusedSimpArgs false
set_option linter.unusedVariables false
attribute [local go_sem] Rg.leads_value Rg.leads_skip Rg.leads_enter Rg.brings_value Rg.brings_skip Rg.brings_enter Rg.bringsG_value Rg.bringsG_enter Rg.once_normal Rg.once_exit Rg.once_ret Rg.once_panic Rg.once_goto
set_option maxHeartbeats 4000000 in
set_option maxRecDepth 100000 in
theorem vcall_coal (name : ByteArray) (oa : Option Addr) (c : Nat) (l : List V) (w : World) (hat : VAt w oa l) (hb : l.length ≤ 2000000) (h1 : (name.toList == [99, 111, 97, 108, 101, 115, 99, 101]) = true) (hl : 0 < l.length) : Calls Tryz.prog 73 #[.string name, .slice oa l.length c] w (Vp (firstV l nul) w) := by
  have FC : Hid (∀ W, Gr w W → _) := hid (fun W h => first_full oa c l W (hat.keep h) hb)
  have t1 : decide ((0 : Int) < (l.length : Int)) = true := by rw [decide_eq_true_iff]; omega
  have t1n : decide (0 < l.length) = true := by rw [decide_eq_true_iff]; omega
  generalize firstV l nul = R at *
  obtain ⟨⟨tn, nn, sn, bn⟩, en⟩ := R
  clear hat hb hl
  unfold Vp pairR at *
  go_enter Tryz.func73, Tryz.ntmps73
  go_wp2_with (first | (go_at_call 92; ((with_reducible refine (FC.out _ ((Gr.refl _).alloc _)).mono ?_)); rintro e w' ⟨rfl, hg⟩; have hc := hg.cells; have hf := hg.frees; have hz := hg.size; (try simp only [World.size_alloc, World.size_setCell, World.size_drew] at hz); (try have : 0 < w'.heap.size := by omega); (try have : w.heap.size < w'.heap.size := by omega); (try have : w.heap.size + 1 < w'.heap.size := by omega); (try have : w.heap.size + 1 + 1 < w'.heap.size := by omega); (try have : w.heap.size + 1 + 1 + 1 < w'.heap.size := by omega)))
  all_goals
    (try (go_step3; (try simp only [Exit.then]); (try change Rg.once _ _ _ _ _ _); rw [Rg.once_goto]; go_wp2))
    (try rw [Rg.once_ret])
    (try rw [Exit.noGoto_ret])
    (try change bodyPost _ _ _ _ _ _)
    first
    | (go_returns; refine ⟨?_, ?_⟩)
    | (refine bodyPost_ret (by simp [results, Tryz.results73, go_sem, *]; try rfl) rfl ⟨?_, ?_⟩)
    rotate_left
    · repeat' (first | exact Gr.refl _ | exact Nat.le_refl _ | exact Nat.le_add_right _ _ | refine Gr.setCell ?_ ?_ _ | refine Gr.alloc ?_ _ | refine Gr.drew ?_ | refine Gr.trans ?_ (by assumption) | omega | (dsimp only; omega))
  all_goals rfl
set_option maxHeartbeats 4000000 in
set_option maxRecDepth 100000 in
theorem vcall_len (name : ByteArray) (oa : Option Addr) (n c : Nat) (w : World) (h1 : (name.toList == [99, 111, 97, 108, 101, 115, 99, 101] && decide (0 < n)) = false) (hl : ¬ n = 1) : Calls Tryz.prog 73 #[.string name, .slice oa n c] w (Vp (nul, 1) w) := by
  obtain ⟨x1, e1⟩ : ∃ x, (name.toList == [99, 111, 97, 108, 101, 115, 99, 101]) = x := ⟨_, rfl⟩
  obtain ⟨x2, e2⟩ : ∃ x, (name.toList == [108, 101, 110, 103, 116, 104]) = x := ⟨_, rfl⟩
  obtain ⟨x3, e3⟩ : ∃ x, (name.toList == [97, 98, 115]) = x := ⟨_, rfl⟩
  have e2' : (name.toList != [108, 101, 110, 103, 116, 104]) = !x2 := by rw [← e2]; rfl
  have e3' : (name.toList != [97, 98, 115]) = !x3 := by rw [← e3]; rfl
  obtain ⟨x4, e4⟩ : ∃ x, decide (0 < n) = x := ⟨_, rfl⟩
  have e4' : decide ((0 : Int) < (n : Int)) = x4 := by rw [← e4]; simp
  have e5 : ((n : Int) != 1) = true := by simp; omega
  rw [e1, e4] at h1
  clear hl
  unfold Vp pairR nul
  cases x1 <;> cases x4 <;> first | (exact absurd h1 (by decide)) | skip
  all_goals (cases x2 <;> cases x3)
  all_goals
    clear h1
    go_enter Tryz.func73, Tryz.ntmps73
    go_wp2
    all_goals
      (try (go_step3; (try simp only [Exit.then]); (try change Rg.once _ _ _ _ _ _); rw [Rg.once_goto]; go_wp2))
      (try rw [Rg.once_ret])
      (try rw [Exit.noGoto_ret])
      (try change bodyPost _ _ _ _ _ _)
      first
      | (go_returns; refine ⟨?_, ?_⟩)
      | (refine bodyPost_ret (by simp [results, Tryz.results73, go_sem, *]; try rfl) rfl ⟨?_, ?_⟩)
      rotate_left
      · repeat' (first | exact Gr.refl _ | exact Nat.le_refl _ | exact Nat.le_add_right _ _ | refine Gr.setCell ?_ ?_ _ | refine Gr.alloc ?_ _ | refine Gr.drew ?_ | refine Gr.trans ?_ (by assumption) | omega | (dsimp only; omega))
    all_goals rfl
set_option maxHeartbeats 4000000 in
set_option maxRecDepth 100000 in
theorem vcall_name (name : ByteArray) (oa : Option Addr) (c : Nat) (w : World) (h1 : (name.toList == [99, 111, 97, 108, 101, 115, 99, 101]) = false) (h2 : (name.toList == [108, 101, 110, 103, 116, 104]) = false) (h3 : (name.toList == [97, 98, 115]) = false) : Calls Tryz.prog 73 #[.string name, .slice oa 1 c] w (Vp (nul, 1) w) := by
  have e2' : (name.toList != [108, 101, 110, 103, 116, 104]) = true := by unfold bne; rw [h2]; rfl
  have e3' : (name.toList != [97, 98, 115]) = true := by unfold bne; rw [h3]; rfl
  unfold Vp pairR nul
  go_enter Tryz.func73, Tryz.ntmps73
  go_wp2
  all_goals
    (try (go_step3; (try simp only [Exit.then]); (try change Rg.once _ _ _ _ _ _); rw [Rg.once_goto]; go_wp2))
    (try rw [Rg.once_ret])
    (try rw [Exit.noGoto_ret])
    (try change bodyPost _ _ _ _ _ _)
    first
    | (go_returns; refine ⟨?_, ?_⟩)
    | (refine bodyPost_ret (by simp [results, Tryz.results73, go_sem, *]; try rfl) rfl ⟨?_, ?_⟩)
    rotate_left
    · repeat' (first | exact Gr.refl _ | exact Nat.le_refl _ | exact Nat.le_add_right _ _ | refine Gr.setCell ?_ ?_ _ | refine Gr.alloc ?_ _ | refine Gr.drew ?_ | refine Gr.trans ?_ (by assumption) | omega | (dsimp only; omega))
  all_goals rfl
set_option maxHeartbeats 8000000 in
set_option maxRecDepth 100000 in
theorem vcall_one (x2 : Bool) (name : ByteArray) (oa : Option Addr) (c : Nat) (a : V) (w : World) (hat : VAt w oa [a]) (ha : Bd a.n) (hs : a.s.size ≤ 9223372036854775807) (h1 : (name.toList == [99, 111, 97, 108, 101, 115, 99, 101]) = false) (h2 : (name.toList == [108, 101, 110, 103, 116, 104]) = x2) (h3 : x2 = true ∨ (name.toList == [97, 98, 115]) = true) : Calls Tryz.prog 73 #[.string name, .slice oa 1 c] w (Vp (oneV x2 a) w) := by
  have e2' : (name.toList != [108, 101, 110, 103, 116, 104]) = !x2 := by unfold bne; rw [h2]
  obtain ⟨x3, e3⟩ : ∃ x, (name.toList == [97, 98, 115]) = x := ⟨_, rfl⟩
  have e3' : (name.toList != [97, 98, 115]) = !x3 := by unfold bne; rw [e3]
  obtain ⟨b, off, rfl, v0, v1, v2, v3⟩ := v_get hat 0 (by simp)
  simp only [Nat.zero_mul, Nat.add_zero, List.getElem_cons_zero] at v0 v1 v2 v3
  have hbl := lt_of_cell v0
  have TC := fun (k : Int) (g : Nat) (W : World) (h : ∀ i, W.cell? ⟨g, i, none⟩ = a.cells[i]?) => typed1 k a g 1 W (h 0) (h 1) (h 2) (h 3)
  have NC : Hid (∀ W, _) := hid (fun W => neg_any a W ((Vl.fits_iff _).2 ha))
  have HR : Hid (oneV x2 a = if (vtypedB (if x2 then 2 else 1) [a]).1 then (if (vtypedB (if x2 then 2 else 1) [a]).2 then (nul, 0) else if x2 then (numV a.s.size, 0) else if decide (a.n < 0) then negR a else (numV a.n, 0)) else (nul, 160)) := hid rfl
  generalize oneV x2 a = R at *
  obtain ⟨tv, nv, sv, bv⟩ := a
  cases x2 with
  | false =>
    obtain rfl : x3 = true := by
      rcases h3 with h | h
      · cases h
      · rw [← e3]; exact h
    have TC : Hid (∀ g W, _) := hid (fun g W h => TC 1 g W h)
    have HR : Hid (R = if (vtypedB 1 [⟨tv, nv, sv, bv⟩]).1 then (if (vtypedB 1 [⟨tv, nv, sv, bv⟩]).2 then (nul, 0) else if decide (nv < 0) then negR ⟨tv, nv, sv, bv⟩ else (numV nv, 0)) else (nul, 160)) := hid HR.out
    generalize vtypedB 1 [⟨tv, nv, sv, bv⟩] = tb at *
    obtain ⟨y1, y2⟩ := tb
    generalize negR ⟨tv, nv, sv, bv⟩ = N at *
    obtain ⟨⟨tn, nn, sn, bn⟩, en⟩ := N
    obtain ⟨x4, e4⟩ : ∃ x, decide (nv < 0) = x := ⟨_, rfl⟩
    simp only [e4] at HR
    have MC : Hid (∀ W, _) := hid (fun W => vnumber_any nv W)
    clear hat h3
    unfold Vp pairR V.val at *
    cases y1 <;> cases y2 <;> cases x4
    all_goals
      obtain rfl := HR.out
      clear HR
      go_enter Tryz.func73, Tryz.ntmps73
      go_wp2_with fail
      refine (TC.out _ _ ?_).mono ?_
      · intro i
        rw [Rg.blk_cells (alloc_two _ _ _)]
        rfl
      rintro e w1 ⟨rfl, hg⟩
      have hG1 : Gr w w1 := (((Gr.refl w).alloc _).alloc _).trans hg
      have hZ1 := (hg.block w.heap.size (by rw [World.size_alloc, World.size_alloc]; exact in_two _)).trans ((((Gr.refl _).alloc _).block _ (by rw [World.size_alloc]; exact Nat.lt_succ_self _)).trans (alloc_at w _))
      have cZ := Rg.blk_cells hZ1
      have fZ := Rg.blk_free hZ1
      have lZ := lt_blk hZ1
      have w0' := hG1.keep v0
      have w1' := hG1.keep v1
      have w2' := hG1.keep v2
      have w3' := hG1.keep v3
      have hb1 : b < w1.heap.size := lt_of_cell w0'
      clear hg hZ1
      go_wp2_with (first | (go_at_call 80; ((with_reducible refine (NC.out _).mono ?_)); rintro e w' ⟨rfl, hg⟩; have hc := hg.cells; have hf := hg.frees; have hz := hg.size; (try simp only [World.size_alloc, World.size_setCell, World.size_drew] at hz); (try have : 0 < w'.heap.size := by omega); (try have : w.heap.size < w'.heap.size := by omega); (try have : w.heap.size + 1 < w'.heap.size := by omega); (try have : w.heap.size + 1 + 1 < w'.heap.size := by omega); (try have : w.heap.size + 1 + 1 + 1 < w'.heap.size := by omega)) | (go_at_call 94; ((with_reducible refine (MC.out _).mono ?_)); rintro e w' ⟨rfl, hg⟩; have hc := hg.cells; have hf := hg.frees; have hz := hg.size; (try simp only [World.size_alloc, World.size_setCell, World.size_drew] at hz); (try have : 0 < w'.heap.size := by omega); (try have : w.heap.size < w'.heap.size := by omega); (try have : w.heap.size + 1 < w'.heap.size := by omega); (try have : w.heap.size + 1 + 1 < w'.heap.size := by omega); (try have : w.heap.size + 1 + 1 + 1 < w'.heap.size := by omega)))
      all_goals
        (try (go_step3; (try simp only [Exit.then]); (try change Rg.once _ _ _ _ _ _); rw [Rg.once_goto]; go_wp2))
        (try rw [Rg.once_ret])
        (try rw [Exit.noGoto_ret])
        (try change bodyPost _ _ _ _ _ _)
        first
        | (go_returns; refine ⟨?_, ?_⟩)
        | (refine bodyPost_ret (by simp [results, Tryz.results73, go_sem, *]; try rfl) rfl ⟨?_, ?_⟩)
        rotate_left
        · repeat' (first | exact Gr.refl _ | exact Nat.le_refl _ | exact Nat.le_add_right _ _ | refine Gr.setCell ?_ ?_ _ | refine Gr.alloc ?_ _ | refine Gr.drew ?_ | refine Gr.trans ?_ (by assumption) | omega | (dsimp only; omega))
      all_goals rfl
  | true =>
    have TC : Hid (∀ g W, _) := hid (fun g W h => TC 2 g W h)
    have HR : Hid (R = if (vtypedB 2 [⟨tv, nv, sv, bv⟩]).1 then (if (vtypedB 2 [⟨tv, nv, sv, bv⟩]).2 then (nul, 0) else (numV sv.size, 0)) else (nul, 160)) := hid HR.out
    generalize vtypedB 2 [⟨tv, nv, sv, bv⟩] = tb at *
    obtain ⟨y1, y2⟩ := tb
    have MC : Hid (∀ W, _) := hid (fun W => vnumber_any (sv.size : Int) W)
    clear hat h3 NC
    unfold Vp pairR at *
    cases y1 <;> cases y2
    all_goals
      obtain rfl := HR.out
      clear HR
      go_enter Tryz.func73, Tryz.ntmps73
      go_wp2_with fail
      refine (TC.out _ _ ?_).mono ?_
      · intro i
        rw [Rg.blk_cells (alloc_two _ _ _)]
        rfl
      rintro e w1 ⟨rfl, hg⟩
      have hG1 : Gr w w1 := (((Gr.refl w).alloc _).alloc _).trans hg
      have hZ1 := (hg.block w.heap.size (by rw [World.size_alloc, World.size_alloc]; exact in_two _)).trans ((((Gr.refl _).alloc _).block _ (by rw [World.size_alloc]; exact Nat.lt_succ_self _)).trans (alloc_at w _))
      have cZ := Rg.blk_cells hZ1
      have fZ := Rg.blk_free hZ1
      have lZ := lt_blk hZ1
      have w0' := hG1.keep v0
      have w1' := hG1.keep v1
      have w2' := hG1.keep v2
      have w3' := hG1.keep v3
      have hb1 : b < w1.heap.size := lt_of_cell w0'
      clear hg hZ1
      go_wp2_with (first | (go_at_call 94; ((with_reducible refine (MC.out _).mono ?_)); rintro e w' ⟨rfl, hg⟩; have hc := hg.cells; have hf := hg.frees; have hz := hg.size; (try simp only [World.size_alloc, World.size_setCell, World.size_drew] at hz); (try have : 0 < w'.heap.size := by omega); (try have : w.heap.size < w'.heap.size := by omega); (try have : w.heap.size + 1 < w'.heap.size := by omega); (try have : w.heap.size + 1 + 1 < w'.heap.size := by omega); (try have : w.heap.size + 1 + 1 + 1 < w'.heap.size := by omega)))
      all_goals
        (try (go_step3; (try simp only [Exit.then]); (try change Rg.once _ _ _ _ _ _); rw [Rg.once_goto]; go_wp2))
        (try rw [Rg.once_ret])
        (try rw [Exit.noGoto_ret])
        (try change bodyPost _ _ _ _ _ _)
        first
        | (go_returns; refine ⟨?_, ?_⟩)
        | (refine bodyPost_ret (by simp [results, Tryz.results73, go_sem, *]; try rfl) rfl ⟨?_, ?_⟩)
        rotate_left
        · repeat' (first | exact Gr.refl _ | exact Nat.le_refl _ | exact Nat.le_add_right _ _ | refine Gr.setCell ?_ ?_ _ | refine Gr.alloc ?_ _ | refine Gr.drew ?_ | refine Gr.trans ?_ (by assumption) | omega | (dsimp only; omega))
      all_goals rfl
end Go.Proofs.YtbeinfhgfflneaaGreat
end
section
namespace Go.Proofs.YtbeinfhgfflneaaGreat
open Go.RowKit
set_option linter.unusedSimpArgs false
set_option linter.unusedVariables false
attribute [local go_sem] Rg.leads_value Rg.leads_skip Rg.leads_enter Rg.brings_value Rg.brings_skip Rg.brings_enter Rg.bringsG_value Rg.bringsG_enter Rg.once_normal Rg.once_exit Rg.once_ret Rg.once_panic Rg.once_goto
theorem vcall_full (name : ByteArray) (oa : Option Addr) (c : Nat) (l : List V) (w : World) (hat : VAt w oa l) (hb : l.length ≤ 2000000) (hv : ∀ v ∈ l, Bd v.n ∧ v.s.size ≤ 9223372036854775807) : Calls Tryz.prog 73 #[.string name, .slice oa l.length c] w (Vp (callV name l) w) := by
  unfold callV
  cases h1 : (name.toList == [99, 111, 97, 108, 101, 115, 99, 101] && decide (0 < l.length)) with
  | true =>
    rw [if_pos rfl]
    rw [Bool.and_eq_true] at h1
    exact vcall_coal name oa c l w hat hb h1.1 (by simpa using h1.2)
  | false =>
    rw [if_neg (by decide)]
    match l, hat, hv, h1 with
    | [], hat, hv, h1 => exact vcall_len name oa 0 c w h1 (by decide)
    | [a], hat, hv, h1 =>
      have h0 : (name.toList == [99, 111, 97, 108, 101, 115, 99, 101]) = false := by simpa using h1
      have ha := hv a (by simp)
      show Calls _ _ _ _ (Vp (if name.toList == [108, 101, 110, 103, 116, 104] then oneV true a else if name.toList == [97, 98, 115] then oneV false a else (nul, 1)) w)
      cases h2 : (name.toList == [108, 101, 110, 103, 116, 104]) with
      | true => exact vcall_one true name oa c a w hat ha.1 ha.2 h0 h2 (.inl rfl)
      | false =>
        cases h3 : (name.toList == [97, 98, 115]) with
        | true => exact vcall_one false name oa c a w hat ha.1 ha.2 h0 h2 (.inr h3)
        | false => exact vcall_name name oa c w h0 h2 h3
    | a :: b :: r, hat, hv, h1 => exact vcall_len name oa (r.length + 2) c w h1 (by omega)
set_option maxHeartbeats 4000000 in
set_option maxRecDepth 100000 in
theorem call_form (p : Nat) (rh : Hd) (roa : Option Addr) (rn rc : Nat) (w : World) (rs : List (V × Int)) (hK : KD p w roa rn rs) (hv : ∀ r ∈ rs, Bd r.1.n ∧ r.1.s.size ≤ 9223372036854775807) : Calls Tryz.prog 45 #[.pointer (some ⟨p, 0, none⟩), XR.val ⟨rh, roa, rn, rc⟩] w (Vp (callX rh.name rs) w) := by
  have KC : Hid (∀ W, Gr w W → _) := hid (fun W h => kids_form p rh roa rn rc W rs (hK.keep h))
  have hlen : (valsR rs).length = rs.length := by simp [valsR]
  have hb := hK.2.1
  have hn := hK.1
  have VC : Hid (∀ oa c W, VAt W oa (valsR rs) → Calls Tryz.prog 73 #[.string rh.name, .slice oa rs.length c] W (Vp (callV rh.name (valsR rs)) W)) := hid (fun oa c W h => by
    have := vcall_full rh.name oa c (valsR rs) W h (by omega) (fun v hv' => by
      obtain ⟨r, h1, rfl⟩ := List.mem_map.1 hv'
      exact hv r h1)
    rwa [hlen] at this)
  have HR : Hid (callX rh.name rs = if errR rs == 0 then callV rh.name (valsR rs) else (nul, errR rs)) := hid rfl
  generalize callX rh.name rs = R at *
  obtain ⟨N, hN⟩ : ∃ N, callV rh.name (valsR rs) = N := ⟨_, rfl⟩
  rw [hN] at HR VC
  clear hK hN hlen hb hn hv
  obtain ⟨op, ⟨vt, vn, vs, vb⟩, tab, name, t, c, nt, st⟩ := rh
  obtain ⟨⟨tn, nn, sn, bn⟩, en⟩ := N
  unfold XR.val Vp at *
  go_enter Tryz.func45, Tryz.ntmps45
  go_wp2_with fail
  refine (KC.out _ (((Gr.refl _).alloc _).alloc _)).mono ?_
  rintro e w1 hKp
  obtain ⟨hg, ⟨h0, oa, cc, rfl, hat⟩ | ⟨h0, rfl⟩⟩ := hKp
  · obtain rfl : R = (⟨tn, nn, sn, bn⟩, en) := by rw [HR.out, if_pos (by simpa using h0)]
    have VC1 := hid (VC.out oa cc w1 hat)
    clear HR KC h0 VC hat
    unfold pairR at VC1
    have hc := hg.cells
    have hf := hg.frees
    have hz := hg.size
    try simp only [World.size_alloc, World.size_setCell, World.size_drew] at hz
    have : w.heap.size < w1.heap.size := by omega
    have : w.heap.size + 1 < w1.heap.size := by omega
    go_wp2_with (first | (go_at_call 73; ((with_reducible refine (VC1.out).mono ?_)); rintro e w' ⟨rfl, hg⟩; have hc := hg.cells; have hf := hg.frees; have hz := hg.size; (try simp only [World.size_alloc, World.size_setCell, World.size_drew] at hz); (try have : 0 < w'.heap.size := by omega); (try have : w.heap.size < w'.heap.size := by omega); (try have : w.heap.size + 1 < w'.heap.size := by omega); (try have : w.heap.size + 1 + 1 < w'.heap.size := by omega); (try have : w.heap.size + 1 + 1 + 1 < w'.heap.size := by omega)))
    all_goals
      (try (go_step3; (try simp only [Exit.then]); (try change Rg.once _ _ _ _ _ _); rw [Rg.once_goto]; go_wp2))
      (try rw [Rg.once_ret])
      (try rw [Exit.noGoto_ret])
      (try change bodyPost _ _ _ _ _ _)
      first
      | (go_returns; refine ⟨?_, ?_⟩)
      | (refine bodyPost_ret (by simp [results, Tryz.results45, go_sem, *]; try rfl) rfl ⟨?_, ?_⟩)
      rotate_left
      · repeat' (first | exact Gr.refl _ | exact Nat.le_refl _ | exact Nat.le_add_right _ _ | refine Gr.setCell ?_ ?_ _ | refine Gr.alloc ?_ _ | refine Gr.drew ?_ | refine Gr.trans ?_ (by assumption) | omega | (dsimp only; omega))
    all_goals rfl
  · obtain ⟨ea, hEA⟩ : ∃ ea, errR rs = ea := ⟨_, rfl⟩
    obtain rfl : R = (nul, ea) := by rw [HR.out, if_neg (by simpa using h0), hEA]
    rw [hEA] at h0
    simp only [hEA]
    have q1 : (ea != 0) = true := by simpa using h0
    clear HR KC h0 VC hEA
    have hc := hg.cells
    have hf := hg.frees
    have hz := hg.size
    try simp only [World.size_alloc, World.size_setCell, World.size_drew] at hz
    have : w.heap.size < w1.heap.size := by omega
    have : w.heap.size + 1 < w1.heap.size := by omega
    go_wp2
    all_goals
      (try (go_step3; (try simp only [Exit.then]); (try change Rg.once _ _ _ _ _ _); rw [Rg.once_goto]; go_wp2))
      (try rw [Rg.once_ret])
      (try rw [Exit.noGoto_ret])
      (try change bodyPost _ _ _ _ _ _)
      first
      | (go_returns; refine ⟨?_, ?_⟩)
      | (refine bodyPost_ret (by simp [results, Tryz.results45, go_sem, *]; try rfl) rfl ⟨?_, ?_⟩)
      rotate_left
      · repeat' (first | exact Gr.refl _ | exact Nat.le_refl _ | exact Nat.le_add_right _ _ | refine Gr.setCell ?_ ?_ _ | refine Gr.alloc ?_ _ | refine Gr.drew ?_ | refine Gr.trans ?_ (by assumption) | omega | (dsimp only; omega))
    all_goals rfl
end Go.Proofs.YtbeinfhgfflneaaGreat
end
section
namespace Go.Proofs.YtbeinfhgfflneaaGreat
open Go.RowKit
set_option linter.unusedSimpArgs false
set_option linter.unusedVariables false
theorem evH_less (rows : List (List V)) (agv : V × Int) (h : Hd) (rs : List (V × Int)) (h1 : 9 ≤ h.op) (h2 : h.op ≤ 14) : evH rows agv h rs = twoX (lessR h.op) rs := by
  unfold evH
  have e : ∀ k : Int, k < 9 ∨ 14 < k → (h.op == k) = false := fun k hk => by simp; omega
  rw [e 1 (by omega), e 3 (by omega), e 4 (by omega), e 5 (by omega), e 6 (by omega), e 7 (by omega), e 8 (by omega), e 15 (by omega), e 16 (by omega), e 17 (by omega), e 24 (by omega)]
  have t : (decide (9 ≤ h.op) && decide (h.op ≤ 14)) = true := by simp; omega
  rw [t]
  rfl
theorem evH_math (rows : List (List V)) (agv : V × Int) (h : Hd) (rs : List (V × Int)) (h1 : 18 ≤ h.op) (h2 : h.op ≤ 23) : evH rows agv h rs = twoX (mathR h.op) rs := by
  unfold evH
  have e : ∀ k : Int, k < 18 ∨ 23 < k → (h.op == k) = false := fun k hk => by simp; omega
  rw [e 1 (by omega), e 3 (by omega), e 4 (by omega), e 5 (by omega), e 6 (by omega), e 7 (by omega), e 8 (by omega), e 15 (by omega), e 16 (by omega), e 17 (by omega), e 24 (by omega)]
  have t : (decide (9 ≤ h.op) && decide (h.op ≤ 14)) = false := by simp; omega
  have t2 : (decide (18 ≤ h.op) && decide (h.op ≤ 23)) = true := by simp; omega
  rw [t, t2]
  rfl
theorem evH_out (rows : List (List V)) (agv : V × Int) (h : Hd) (rs : List (V × Int)) (h1 : h.op < 0 ∨ 25 ≤ h.op) : evH rows agv h rs = (nul, 1) := by
  unfold evH
  have e : ∀ k : Int, 0 ≤ k ∧ k < 25 → (h.op == k) = false := fun k hk => by simp; omega
  rw [e 1 (by omega), e 3 (by omega), e 4 (by omega), e 5 (by omega), e 6 (by omega), e 7 (by omega), e 8 (by omega), e 15 (by omega), e 16 (by omega), e 17 (by omega), e 24 (by omega)]
  have t : (decide (9 ≤ h.op) && decide (h.op ≤ 14)) = false := by simp; omega
  have t2 : (decide (18 ≤ h.op) && decide (h.op ≤ 23)) = false := by simp; omega
  rw [t, t2]
  rfl
theorem rs_none {rs : List (V × Int)} (h : rs.length = 0) : rs = [] := List.eq_nil_of_length_eq_zero h
theorem rs_one {rs : List (V × Int)} (h : rs.length = 1) : ∃ a, rs = [a] := List.length_eq_one_iff.1 h
theorem rs_two {rs : List (V × Int)} (h : rs.length = 2) : ∃ a b, rs = [a, b] := by
  match rs, h with
  | [a, b], _ => exact ⟨a, b, rfl⟩
theorem rs_three {rs : List (V × Int)} (h : rs.length = 3) : ∃ a b c, rs = [a, b, c] := by
  match rs, h with
  | [a, b, c], _ => exact ⟨a, b, c, rfl⟩
theorem two_no (f : V → V → V × Int) (rs : List (V × Int)) (h : ¬ rs.length = 2) : twoX f rs = (nul, 1) := by
  match rs, h with
  | [], _ => rfl
  | [_], _ => rfl
  | [_, _], h => exact absurd rfl h
  | _ :: _ :: _ :: _, _ => rfl
theorem side_no (d : Bool) (f : V → V → V × Int) (rs : List (V × Int)) (h : ¬ rs.length = 2) : sideX d f rs = (nul, 1) := by
  match rs, h with
  | [], _ => rfl
  | [_], _ => rfl
  | [_, _], h => exact absurd rfl h
  | _ :: _ :: _ :: _, _ => rfl
theorem one_no (f : V → V × Int) (rs : List (V × Int)) (h : ¬ rs.length = 1) : oneX f rs = (nul, 1) := by
  match rs, h with
  | [], _ => rfl
  | [_], h => exact absurd rfl h
  | _ :: _ :: _, _ => rfl
theorem bet_no (nt : Bool) (rs : List (V × Int)) (h : ¬ rs.length = 3) : betX nt rs = (nul, 1) := by
  match rs, h with
  | [], _ => rfl
  | [_], _ => rfl
  | [_, _], _ => rfl
  | [_, _, _], h => exact absurd rfl h
  | _ :: _ :: _ :: _ :: _, _ => rfl
theorem lit_no (v : V) (rs : List (V × Int)) (h : ¬ rs.length = 0) : litX v rs = (nul, 1) := by
  cases rs with
  | nil => exact absurd rfl h
  | cons a r => rfl
theorem col_no (rows : List (List V)) (t c : Int) (rs : List (V × Int)) (h : ¬ rs.length = 0) : colX rows t c rs = (nul, 1) := by
  cases rs with
  | nil => exact absurd rfl h
  | cons a r => rfl
set_option maxHeartbeats 4000000 in
set_option maxRecDepth 100000 in
theorem ex_form (p : Nat) (rh : Hd) (roa : Option Addr) (rn rc : Nat) (w : World) (rows : List (List V)) (ag : Ex → V × Int) (rs : List (V × Int)) (agv : V × Int) (hE : EnvAt p w rows ag) (hK : KD p w roa rn rs)
    (hA : ∀ W, Gr w W → Calls Tryz.prog 44 #[.pointer (some ⟨p, 0, none⟩), XR.val ⟨rh, roa, rn, rc⟩] W (Vp agv W)) (hb : ∀ r ∈ rs, Bd r.1.n ∧ r.1.s.size ≤ 9223372036854775807) (hs : ∀ a b, rs = [a, b] → a.1.s.size + b.1.s.size ≤ 9223372036854775807) (hcap : rn ≤ rc) :
    Calls Tryz.prog 18 #[.pointer (some ⟨p, 0, none⟩), XR.val ⟨rh, roa, rn, rc⟩] w (Vp (evH rows agv rh rs) w) := by
  have hn := hK.1
  by_cases h9 : 9 ≤ rh.op ∧ rh.op ≤ 14
  · rw [evH_less rows agv rh rs h9.1 h9.2]
    by_cases hl : rs.length = 2
    · obtain ⟨a, b, rfl⟩ := rs_two hl
      exact expr_some p rh roa rn rc w 53 2 _ (fun W => table_less rh.op W h9.1 h9.2) (.inr (by rw [hn, hl]; rfl)) (fun args W => by kernel_rfl) (fun W h => less_form p rh roa rn rc W a b (hK.keep h))
    · rw [two_no _ _ hl]
      exact expr_few p rh roa rn rc w 53 2 (fun W => table_less rh.op W h9.1 h9.2) (by rw [hn]; exact hl)
  by_cases h18 : 18 ≤ rh.op ∧ rh.op ≤ 23
  · rw [evH_math rows agv rh rs h18.1 h18.2]
    by_cases hl : rs.length = 2
    · obtain ⟨a, b, rfl⟩ := rs_two hl
      exact expr_some p rh roa rn rc w 54 2 _ (fun W => table_math rh.op W h18.1 h18.2) (.inr (by rw [hn, hl]; rfl)) (fun args W => by kernel_rfl) (fun W h => math_form p rh roa rn rc W a b (hK.keep h) (hb a (by simp)).1 (hb b (by simp)).1 (hs a b rfl))
    · rw [two_no _ _ hl]
      exact expr_few p rh roa rn rc w 54 2 (fun W => table_math rh.op W h18.1 h18.2) (by rw [hn]; exact hl)
  rcases Int.lt_or_le rh.op 0 with h0 | h0
  · rw [evH_out rows agv rh rs (.inl h0)]
    exact expr_none p rh roa rn rc w (fun W => table_low rh.op W h0)
  rcases Int.lt_or_le rh.op 25 with h25 | h25
  rotate_left
  · rw [evH_out rows agv rh rs (.inr h25)]
    exact expr_none p rh roa rn rc w (fun W => table_high rh.op W h25)
  have hk : rh.op = 0 ∨ rh.op = 1 ∨ rh.op = 2 ∨ rh.op = 3 ∨ rh.op = 4 ∨ rh.op = 5 ∨ rh.op = 6 ∨ rh.op = 7 ∨ rh.op = 8 ∨ rh.op = 15 ∨ rh.op = 16 ∨ rh.op = 17 ∨ rh.op = 24 := by omega
  clear h9 h18 h0 h25
  rcases hk with hk | hk | hk | hk | hk | hk | hk | hk | hk | hk | hk | hk | hk
  · have ev : evH rows agv rh rs = (nul, 1) := by unfold evH; rw [hk]; rfl
    rw [ev]
    exact expr_none p rh roa rn rc w (fun W => by have h := table_at 0 W (by decide) (by decide) (by decide) _ _ rfl rfl; rw [hk]; exact h)
  · have ev : evH rows agv rh rs = litX rh.v rs := by unfold evH; rw [hk]; rfl
    rw [ev]
    by_cases hl : rs.length = 0
    · obtain rfl := rs_none hl
      exact expr_some p rh roa rn rc w 42 0 _ (fun W => by have h := table_at 1 W (by decide) (by decide) (by decide) _ _ rfl rfl; rw [hk]; exact h) (.inr (by rw [hn, hl]; rfl)) (fun args W => by kernel_rfl) (fun W h => lit_form p rh roa rn rc W)
    · rw [lit_no _ _ hl]
      exact expr_few p rh roa rn rc w 42 0 (fun W => by have h := table_at 1 W (by decide) (by decide) (by decide) _ _ rfl rfl; rw [hk]; exact h) (by rw [hn]; exact hl)
  · have ev : evH rows agv rh rs = (nul, 1) := by unfold evH; rw [hk]; rfl
    rw [ev]
    exact expr_none p rh roa rn rc w (fun W => by have h := table_at 2 W (by decide) (by decide) (by decide) _ _ rfl rfl; rw [hk]; exact h)
  · have ev : evH rows agv rh rs = colX rows rh.t rh.c rs := by unfold evH; rw [hk]; rfl
    rw [ev]
    by_cases hl : rs.length = 0
    · obtain rfl := rs_none hl
      exact expr_some p rh roa rn rc w 43 0 _ (fun W => by have h := table_at 3 W (by decide) (by decide) (by decide) _ _ rfl rfl; rw [hk]; exact h) (.inr (by rw [hn, hl]; rfl)) (fun args W => by kernel_rfl) (fun W h => col_form p rh roa rn rc W rows ag (hE.keep h))
    · rw [col_no _ _ _ _ hl]
      exact expr_few p rh roa rn rc w 43 0 (fun W => by have h := table_at 3 W (by decide) (by decide) (by decide) _ _ rfl rfl; rw [hk]; exact h) (by rw [hn]; exact hl)
  · have ev : evH rows agv rh rs = agv := by unfold evH; rw [hk]; rfl
    rw [ev]
    exact expr_some p rh roa rn rc w 44 (-1) _ (fun W => by have h := table_at 4 W (by decide) (by decide) (by decide) _ _ rfl rfl; rw [hk]; exact h) (.inl (by decide)) (fun args W => by kernel_rfl) (fun W h => hA W h)
  · have ev : evH rows agv rh rs = callX rh.name rs := by unfold evH; rw [hk]; rfl
    rw [ev]
    exact expr_some p rh roa rn rc w 45 (-1) _ (fun W => by have h := table_at 5 W (by decide) (by decide) (by decide) _ _ rfl rfl; rw [hk]; exact h) (.inl (by decide)) (fun args W => by kernel_rfl) (fun W h => call_form p rh roa rn rc W rs (hK.keep h) (fun r hr => ⟨(hb r hr).1, (hb r hr).2⟩))
  · have ev : evH rows agv rh rs = sideX true orR rs := by unfold evH; rw [hk]; rfl
    rw [ev]
    by_cases hl : rs.length = 2
    · obtain ⟨a, b, rfl⟩ := rs_two hl
      exact expr_some p rh roa rn rc w 46 2 _ (fun W => by have h := table_at 6 W (by decide) (by decide) (by decide) _ _ rfl rfl; rw [hk]; exact h) (.inr (by rw [hn, hl]; rfl)) (fun args W => by kernel_rfl) (fun W h => or_form p rh roa rn rc W a b (hK.keep h))
    · rw [side_no _ _ _ hl]
      exact expr_few p rh roa rn rc w 46 2 (fun W => by have h := table_at 6 W (by decide) (by decide) (by decide) _ _ rfl rfl; rw [hk]; exact h) (by rw [hn]; exact hl)
  · have ev : evH rows agv rh rs = sideX false andR rs := by unfold evH; rw [hk]; rfl
    rw [ev]
    by_cases hl : rs.length = 2
    · obtain ⟨a, b, rfl⟩ := rs_two hl
      exact expr_some p rh roa rn rc w 47 2 _ (fun W => by have h := table_at 7 W (by decide) (by decide) (by decide) _ _ rfl rfl; rw [hk]; exact h) (.inr (by rw [hn, hl]; rfl)) (fun args W => by kernel_rfl) (fun W h => and_form p rh roa rn rc W a b (hK.keep h))
    · rw [side_no _ _ _ hl]
      exact expr_few p rh roa rn rc w 47 2 (fun W => by have h := table_at 7 W (by decide) (by decide) (by decide) _ _ rfl rfl; rw [hk]; exact h) (by rw [hn]; exact hl)
  · have ev : evH rows agv rh rs = oneX notR rs := by unfold evH; rw [hk]; rfl
    rw [ev]
    by_cases hl : rs.length = 1
    · obtain ⟨a, rfl⟩ := rs_one hl
      exact expr_some p rh roa rn rc w 48 1 _ (fun W => by have h := table_at 8 W (by decide) (by decide) (by decide) _ _ rfl rfl; rw [hk]; exact h) (.inr (by rw [hn, hl]; rfl)) (fun args W => by kernel_rfl) (fun W h => not_form p rh roa rn rc W a (hK.keep h))
    · rw [one_no _ _ hl]
      exact expr_few p rh roa rn rc w 48 1 (fun W => by have h := table_at 8 W (by decide) (by decide) (by decide) _ _ rfl rfl; rw [hk]; exact h) (by rw [hn]; exact hl)
  · have ev : evH rows agv rh rs = oneX (isNullR rh.nt) rs := by unfold evH; rw [hk]; rfl
    rw [ev]
    by_cases hl : rs.length = 1
    · obtain ⟨a, rfl⟩ := rs_one hl
      exact expr_some p rh roa rn rc w 49 1 _ (fun W => by have h := table_at 15 W (by decide) (by decide) (by decide) _ _ rfl rfl; rw [hk]; exact h) (.inr (by rw [hn, hl]; rfl)) (fun args W => by kernel_rfl) (fun W h => isNull_form p rh roa rn rc W a (hK.keep h))
    · rw [one_no _ _ hl]
      exact expr_few p rh roa rn rc w 49 1 (fun W => by have h := table_at 15 W (by decide) (by decide) (by decide) _ _ rfl rfl; rw [hk]; exact h) (by rw [hn]; exact hl)
  · have ev : evH rows agv rh rs = inX rh.nt rs := by unfold evH; rw [hk]; rfl
    rw [ev]
    exact expr_some p rh roa rn rc w 50 (-1) _ (fun W => by have h := table_at 16 W (by decide) (by decide) (by decide) _ _ rfl rfl; rw [hk]; exact h) (.inl (by decide)) (fun args W => by kernel_rfl) (fun W h => in_form p rh roa rn rc W rs (hK.keep h) hcap)
  · have ev : evH rows agv rh rs = betX rh.nt rs := by unfold evH; rw [hk]; rfl
    rw [ev]
    by_cases hl : rs.length = 3
    · obtain ⟨a, b, d, rfl⟩ := rs_three hl
      exact expr_some p rh roa rn rc w 51 3 _ (fun W => by have h := table_at 17 W (by decide) (by decide) (by decide) _ _ rfl rfl; rw [hk]; exact h) (.inr (by rw [hn, hl]; rfl)) (fun args W => by kernel_rfl) (fun W h => between_form p rh roa rn rc W a b d (hK.keep h))
    · rw [bet_no _ _ hl]
      exact expr_few p rh roa rn rc w 51 3 (fun W => by have h := table_at 17 W (by decide) (by decide) (by decide) _ _ rfl rfl; rw [hk]; exact h) (by rw [hn]; exact hl)
  · have ev : evH rows agv rh rs = oneX negR rs := by unfold evH; rw [hk]; rfl
    rw [ev]
    by_cases hl : rs.length = 1
    · obtain ⟨a, rfl⟩ := rs_one hl
      exact expr_some p rh roa rn rc w 52 1 _ (fun W => by have h := table_at 24 W (by decide) (by decide) (by decide) _ _ rfl rfl; rw [hk]; exact h) (.inr (by rw [hn, hl]; rfl)) (fun args W => by kernel_rfl) (fun W h => neg_form p rh roa rn rc W a (hK.keep h) ((Vl.fits_iff _).2 (hb a (by simp)).1))
    · rw [one_no _ _ hl]
      exact expr_few p rh roa rn rc w 52 1 (fun W => by have h := table_at 24 W (by decide) (by decide) (by decide) _ _ rfl rfl; rw [hk]; exact h) (by rw [hn]; exact hl)
theorem forms_mem : ∀ (xs : List Ex) (y : Ex), y ∈ xs → y.forms ≤ Exs.forms xs
  | [], y, h => by simp at h
  | x :: xs, y, h => by
    rw [Exs.forms]
    rcases List.mem_cons.1 h with rfl | h
    · omega
    · have := forms_mem xs y h; omega
theorem fits_mem (c : Nat) : ∀ (xs : List Ex), Exs.fitsX c xs → ∀ y ∈ xs, Ex.fitsX c y
  | [], _, y, h => by simp at h
  | x :: xs, hf, y, h => by
    rw [Exs.fitsX] at hf
    rcases List.mem_cons.1 h with rfl | h
    · exact hf.1
    · exact fits_mem c xs hf.2 y h
theorem VBs.pair {S : Nat} {a b : V × Int} (h : VBs S [a, b]) : a.1.s.size + b.1.s.size ≤ S := by
  obtain ⟨a1, b1, e1, h1, a2, b2, e2, h2, _⟩ := h
  have := h1.2
  have := h2.2
  omega
theorem ev_any (p : Nat) (rows : List (List V)) (ag : Ex → V × Int) (c : Nat) (hr : ∀ l ∈ rows, ∀ v ∈ l, VB c v) (ha : ∀ x, VB c (ag x).1) : ∀ (N : Nat) (x : Ex), x.forms ≤ N → ∀ (r : XR) (w : World), EnvAt p w rows ag → Ex.At Al w x r → Ex.fitsX c x → x.forms * c ≤ 9223372036854775807 →
    Calls Tryz.prog 18 #[.pointer (some ⟨p, 0, none⟩), XR.val r] w (Vp (evX rows ag x) w)
  | 0, x, hN, _, _, _, _, _, _ => by cases x; rw [Ex.forms] at hN; omega
  | N + 1, .mk h ks, hN, ⟨rh, roa, rn, rc⟩, w, hE, hx, hf, hs => by
    have hx0 := hx
    unfold Ex.At at hx
    obtain ⟨e1, e2, e3, _⟩ := hx
    have e1 : rh = h := e1
    subst e1
    rw [Ex.fitsX] at hf
    rw [Ex.forms] at hN hs
    rw [Nat.add_mul, Nat.one_mul] at hs
    have hv := vb_evXs c rows ag hr ha ks hf.2 (by omega)
    have hK := kd_of hE hx0 (fun y hy r' W hE' hx' => ev_any p rows ag c hr ha N y (by have := forms_mem ks y hy; omega) r' W hE' hx' (fits_mem c ks hf.2 y hy) (by
      have := forms_mem ks y hy
      exact Nat.le_trans (Nat.mul_le_mul_right c this) (by omega)))
    rw [evX]
    refine ex_form p rh roa rn rc w rows ag (evXs rows ag ks) (ag (.mk rh ks)) hE hK (fun W hW => hE.agg W _ _ hW (hx0.of hW.size (fun b _ hb => hW.block b hb))) (fun r hr' => ?_) (fun a b e => ?_) e3.1
    · have := hv.each r hr'
      exact ⟨this.1, by have := this.2; omega⟩
    · rw [e] at hv
      have := hv.pair
      omega
end Go.Proofs.YtbeinfhgfflneaaGreat
end
section
namespace Go.Proofs.YtbeinfhgfflneaaGreat
set_option linter.unusedSimpArgs false
set_option linter.unusedVariables false
theorem typedK_ok {m : Bool} {kids kind : Int} {l : List Int} {k : Int} (h : typedK m kids kind l = (k, 0)) : m = true ∧ allB kids l = true ∧ k = kind := by
  unfold typedK at h
  cases m with
  | false => simp at h
  | true =>
    rw [if_pos rfl] at h
    cases ha : allB kids l with
    | false => rw [ha] at h; simp at h
    | true => rw [ha] at h; simp at h; exact ⟨rfl, rfl, h.symm⟩
theorem ty_none {ns : List Int} {ss : List Bool} {rs : List (V × Int)} (h : TyL ns ss rs) (hn : ns.length = 0) : rs = [] ∧ ss = [] := by
  have := h.len
  exact ⟨List.eq_nil_of_length_eq_zero (by omega), List.eq_nil_of_length_eq_zero (by omega)⟩
theorem ty_one {ns : List Int} {ss : List Bool} {rs : List (V × Int)} (h : TyL ns ss rs) (hn : ns.length = 1) : ∃ n s r, ns = [n] ∧ ss = [s] ∧ rs = [r] ∧ Ty1 n s r := by
  have hl := h.len
  match ns, ss, rs, hn, hl, h with
  | [n], [s], [r], _, _, h => exact ⟨n, s, r, rfl, rfl, rfl, h.1⟩
theorem ty_two {ns : List Int} {ss : List Bool} {rs : List (V × Int)} (h : TyL ns ss rs) (hn : ns.length = 2) : ∃ n s r n2 s2 r2, ns = [n, n2] ∧ ss = [s, s2] ∧ rs = [r, r2] ∧ Ty1 n s r ∧ Ty1 n2 s2 r2 := by
  have hl := h.len
  match ns, ss, rs, hn, hl, h with
  | [n, n2], [s, s2], [r, r2], _, _, h => exact ⟨n, s, r, n2, s2, r2, rfl, rfl, rfl, h.1, h.2.1⟩
theorem one_form {ns : List Int} {ss : List Bool} {rs : List (V × Int)} (h : TyL ns ss rs) (hn : ns.length = 1) (kids kind : Int) (hk : allB kids ns = true) (s : Bool) (hs : s = true → allS ss = true) (f : V → V × Int) (hf : ∀ v, Kn kids v → Ty1 kind s (f v)) : Ty1 kind s (oneX f rs) := by
  obtain ⟨n, s1, r, rfl, rfl, rfl, h1⟩ := ty_one h hn
  show Ty1 kind s (oneY f r)
  unfold oneY
  by_cases h0 : r.2 = 0
  · rw [if_pos (by simpa using h0)]
    exact hf _ (kn_of h1 h0 (by simpa [allB] using hk))
  · rw [if_neg (by simpa using h0)]
    exact ⟨fun e => absurd e h0, fun _ => h1.bad h0, fun e => h1.safe (by have := hs e; simpa [allS] using this)⟩
theorem two_form {ns : List Int} {ss : List Bool} {rs : List (V × Int)} (h : TyL ns ss rs) (hn : ns.length = 2) (kids kind : Int) (hk : allB kids ns = true) (s : Bool) (hs : s = true → allS ss = true) (f : V → V → V × Int) (hf : ∀ u v, Kn kids u → Kn kids v → Ty1 kind s (f u v)) : Ty1 kind s (twoX f rs) := by
  obtain ⟨k1, k2, k3⟩ := h.kn hk
  have hl := h.len
  match rs, k1, k2, k3, hl with
  | [a, b], k1, k2, k3, _ =>
    show Ty1 kind s (if errR [a, b] == 0 then f a.1 b.1 else (nul, errR [a, b]))
    by_cases h0 : errR [a, b] = 0
    · rw [if_pos (by simpa using h0)]
      have := k1 h0
      exact hf _ _ (this a.1 (by simp [valsR])) (this b.1 (by simp [valsR]))
    · rw [if_neg (by simpa using h0)]
      exact ⟨fun e => absurd e h0, fun _ => k2 h0, fun e => k3 (hs e)⟩
  | [], _, _, _, hl => simp at hl; omega
  | [_], _, _, _, hl => simp at hl; omega
  | _ :: _ :: _ :: _, _, _, _, hl => simp at hl; omega
theorem side_form' {ns : List Int} {ss : List Bool} {rs : List (V × Int)} (h : TyL ns ss rs) (hn : ns.length = 2) (hk : allB 3 ns = true) (s : Bool) (hs : s = true → allS ss = true) (d : Bool) (f : V → V → V × Int) (hf : ∀ u v, Kn 3 u → Kn 3 v → Ty1 3 s (f u v)) : Ty1 3 s (sideX d f rs) := by
  obtain ⟨n, s1, r, n2, s2, r2, rfl, rfl, rfl, h1, h2⟩ := ty_two h hn
  have hk' : (n == 0 || n == 3) = true ∧ (n2 == 0 || n2 == 3) = true := by simpa [allB] using hk
  exact sideY_ty d f r r2 s s1 s2 n n2 h1 h2 hk'.1 hk'.2 (fun e => by have := hs e; simpa [allS] using this) hf
end Go.Proofs.YtbeinfhgfflneaaGreat
end
section
namespace Go.Proofs.YtbeinfhgfflneaaGreat
set_option linter.unusedSimpArgs false
set_option linter.unusedVariables false
theorem ite_snd {c : Bool} {a b : Int × Int} {k : Int} (h : (if c then a else b) = (k, 0)) (ha : a.2 ≠ 0) : c = false ∧ b = (k, 0) := by
  cases c with
  | true => rw [if_pos rfl] at h; rw [h] at ha; exact absurd rfl ha
  | false => exact ⟨rfl, by rwa [if_neg (by decide)] at h⟩
theorem agg_no (in_ : Bool) (h : Hd) (l : List Int) (k : Int) : ¬ aggK false in_ h l = (k, 0) := by
  intro e
  unfold aggK at e
  obtain ⟨_, e⟩ := ite_snd e (by decide)
  obtain ⟨_, e⟩ := ite_snd e (by decide)
  simp at e
theorem call_ty {ns : List Int} {ss : List Bool} {rs : List (V × Int)} (h : Hd) (hT : TyL ns ss rs) (k : Int) (hK : callK h ns = (k, 0)) (s : Bool) (hs : s = true → allS ss = true ∧ isName h.name [97, 98, 115] = false) : Ty1 k s (callX h.name rs) := by
  unfold callK at hK
  obtain ⟨c1, hK⟩ := ite_snd hK (by decide)
  obtain ⟨c2, hK⟩ := ite_snd hK (by decide)
  have hl := hT.len
  have hlen : 0 < (valsR rs).length := by
    simp [valsR]
    have : ns.length ≠ 0 := by simpa using c1
    omega
  have main : ∀ (kd : Int), allB kd ns = true → (∀ vs : List V, (∀ v ∈ vs, Kn kd v) → vs.length = ns.length → Ty1 k s (callV h.name vs)) → Ty1 k s (callX h.name rs) := fun kd hkd hf => by
    obtain ⟨k1, k2, k3⟩ := hT.kn hkd
    unfold callX
    by_cases h0 : errR rs = 0
    · rw [if_pos (by simpa using h0)]
      exact hf _ (k1 h0) (by simp [valsR, hl.1])
    · rw [if_neg (by simpa using h0)]
      exact ⟨fun e => absurd e h0, fun _ => k2 h0, fun e => k3 (hs e).1⟩
  cases hc : isName h.name [99, 111, 97, 108, 101, 115, 99, 101] with
  | true =>
    rw [hc] at hK
    cases ha : allB (firstK ns) ns with
    | false => rw [ha] at hK; simp at hK
    | true =>
      rw [ha] at hK
      have hk : k = firstK ns := by simp at hK; exact hK.symm
      subst hk
      refine main _ ha (fun vs hv hvl => ?_)
      unfold callV
      have hc' : (h.name.toList == [99, 111, 97, 108, 101, 115, 99, 101]) = true := hc
      rw [if_pos (by rw [hc']; simp; simp [valsR] at hlen; omega)]
      exact first_ty _ s vs nul hv (.inl rfl)
  | false =>
    rw [hc] at hK
    simp only [Bool.false_and, Bool.false_or, Bool.false_eq_true, if_false] at hK
    obtain ⟨c3, hK⟩ := ite_snd hK (by decide)
    have hn1 : ns.length = 1 := by simpa using c3
    have hc' : (h.name.toList == [99, 111, 97, 108, 101, 115, 99, 101]) = false := hc
    cases hle : isName h.name [108, 101, 110, 103, 116, 104] with
    | true =>
      rw [hle, if_pos rfl] at hK
      obtain ⟨_, hk, rfl⟩ := typedK_ok hK
      refine main _ hk (fun vs hv hvl => ?_)
      match vs, hvl, hv with
      | [a], _, hv =>
        unfold callV
        rw [hc']
        have hle' : (h.name.toList == [108, 101, 110, 103, 116, 104]) = true := hle
        show Ty1 1 s (if h.name.toList == [108, 101, 110, 103, 116, 104] then oneV true a else _)
        rw [if_pos hle']
        exact (one_ty true a (hv a (by simp))).weak (fun _ => rfl)
      | [], hvl, _ => simp at hvl; omega
      | _ :: _ :: _, hvl, _ => simp at hvl; omega
    | false =>
      rw [hle, if_neg (by decide)] at hK
      obtain ⟨_, hk, rfl⟩ := typedK_ok hK
      have hab : isName h.name [97, 98, 115] = true := by
        cases hab : isName h.name [97, 98, 115] with
        | true => rfl
        | false => rw [hle, hab, hc] at c2; simp at c2
      have hs0 : s = false := by
        cases s with
        | false => rfl
        | true => have := (hs rfl).2; rw [hab] at this; cases this
      subst hs0
      refine main _ hk (fun vs hv hvl => ?_)
      match vs, hvl, hv with
      | [a], _, hv =>
        unfold callV
        rw [hc']
        have hle' : (h.name.toList == [108, 101, 110, 103, 116, 104]) = false := hle
        have hab' : (h.name.toList == [97, 98, 115]) = true := hab
        show Ty1 1 false (if h.name.toList == [108, 101, 110, 103, 116, 104] then oneV true a else if h.name.toList == [97, 98, 115] then oneV false a else _)
        rw [if_neg (by rw [hle']; decide), if_pos hab']
        exact one_ty false a (hv a (by simp))
      | [], hvl, _ => simp at hvl; omega
      | _ :: _ :: _, hvl, _ => simp at hvl; omega
end Go.Proofs.YtbeinfhgfflneaaGreat
end
section
namespace Go.Proofs.YtbeinfhgfflneaaGreat
set_option linter.unusedSimpArgs false
set_option linter.unusedVariables false
theorem allS_safe {h : Hd} {ss : List Bool} (e : (safeH h && allS ss) = true) : allS ss = true := by simp at e; exact e.2
theorem form_ty (rows : List (List V)) (agv : V × Int) (in_ : Bool) (h : Hd) (ns : List Int) (ss : List Bool) (rs : List (V × Int)) (k : Int) (hT : TyL ns ss rs) (hK : kindK false in_ h ns = (k, 0)) : Ty1 k (safeH h && allS ss) (evH rows agv h rs) := by
  have hl := hT.len
  unfold kindK at hK
  simp only at hK
  by_cases o1 : h.op = 1
  · rw [if_pos (by simpa using o1)] at hK
    have ev : evH rows agv h rs = litX h.v rs := by unfold evH; rw [o1]; rfl
    obtain ⟨c, hK⟩ := ite_snd hK (by decide)
    have hn : ns.length = 0 := by simp at c; simpa using c.1.1
    obtain ⟨rfl, rfl⟩ := ty_none hT hn
    rw [ev]
    have hk : h.v.t = k := by simpa using hK
    exact ⟨fun _ => .inr hk, fun e => absurd rfl e, fun _ => rfl⟩
  rw [if_neg (by simpa using o1)] at hK
  by_cases o4 : h.op = 4
  · rw [if_pos (by simpa using o4)] at hK
    exact absurd hK (agg_no in_ h ns k)
  rw [if_neg (by simpa using o4)] at hK
  by_cases o5 : h.op = 5
  · rw [if_pos (by simpa using o5)] at hK
    have ev : evH rows agv h rs = callX h.name rs := by unfold evH; rw [o5]; rfl
    rw [ev]
    refine call_ty h hT k hK _ (fun e => ⟨allS_safe e, ?_⟩)
    simp [safeH, o5] at e
    exact e.1
  rw [if_neg (by simpa using o5)] at hK
  by_cases o8 : h.op = 8
  · rw [if_pos (by simpa using o8)] at hK
    have ev : evH rows agv h rs = oneX notR rs := by unfold evH; rw [o8]; rfl
    obtain ⟨m, hk, rfl⟩ := typedK_ok hK
    rw [ev]
    exact one_form hT (by simpa using m) 3 3 hk _ allS_safe _ (fun v hv => not_ty v hv _)
  rw [if_neg (by simpa using o8)] at hK
  by_cases o67 : (h.op == 6 || h.op == 7) = true
  · rw [if_pos o67] at hK
    obtain ⟨m, hk, rfl⟩ := typedK_ok hK
    have o67' : h.op = 6 ∨ h.op = 7 := by simpa using o67
    rcases o67' with o | o
    · have ev : evH rows agv h rs = sideX true orR rs := by unfold evH; rw [o]; rfl
      rw [ev]
      exact side_form' hT (by simpa using m) hk _ allS_safe _ _ (fun u v hu hv => side_ty u v true hu hv _)
    · have ev : evH rows agv h rs = sideX false andR rs := by unfold evH; rw [o]; rfl
      rw [ev]
      exact side_form' hT (by simpa using m) hk _ allS_safe _ _ (fun u v hu hv => side_ty u v false hu hv _)
  rw [if_neg o67] at hK
  by_cases o24 : h.op = 24
  · rw [if_pos (by simpa using o24)] at hK
    have ev : evH rows agv h rs = oneX negR rs := by unfold evH; rw [o24]; rfl
    obtain ⟨m, hk, rfl⟩ := typedK_ok hK
    rw [ev]
    have hs : safeH h = false := by simp [safeH, o24]
    rw [hs]
    exact one_form hT (by simpa using m) 1 1 hk _ (fun e => by simp at e) _ (fun v hv => (neg_ty v hv).weak (fun e => by simp at e))
  rw [if_neg (by simpa using o24)] at hK
  by_cases o18 : (decide (18 ≤ h.op) && decide (h.op ≤ 22)) = true
  · rw [if_pos o18] at hK
    obtain ⟨m, hk, rfl⟩ := typedK_ok hK
    have o18' : 18 ≤ h.op ∧ h.op ≤ 22 := by simpa using o18
    rw [evH_math rows agv h rs o18'.1 (by omega)]
    have hs : safeH h = false := by simp [safeH]; omega
    rw [hs]
    exact two_form hT (by simpa using m) 1 1 hk _ (fun e => by simp at e) _ (fun u v hu hv => (math_ty h.op u v o18'.1 o18'.2 hu hv).weak (fun e => by simp at e))
  rw [if_neg o18] at hK
  by_cases o23 : h.op = 23
  · rw [if_pos (by simpa using o23)] at hK
    obtain ⟨m, hk, rfl⟩ := typedK_ok hK
    rw [evH_math rows agv h rs (by omega) (by omega), o23]
    exact two_form hT (by simpa using m) 2 2 hk _ allS_safe _ (fun u v hu hv => cat_ty u v hu hv _)
  rw [if_neg (by simpa using o23)] at hK
  by_cases o9 : (decide (9 ≤ h.op) && decide (h.op ≤ 14)) = true
  · rw [if_pos o9] at hK
    obtain ⟨m, hk, rfl⟩ := typedK_ok hK
    have o9' : 9 ≤ h.op ∧ h.op ≤ 14 := by simpa using o9
    rw [evH_less rows agv h rs o9'.1 o9'.2]
    exact two_form hT (by simpa using m) _ 3 hk _ allS_safe _ (fun u v hu hv => less_ty h.op _ u v o9'.1 o9'.2 hu hv _)
  rw [if_neg o9] at hK
  by_cases o15 : h.op = 15
  · rw [if_pos (by simpa using o15)] at hK
    have ev : evH rows agv h rs = oneX (isNullR h.nt) rs := by unfold evH; rw [o15]; rfl
    obtain ⟨m, hk, rfl⟩ := typedK_ok hK
    rw [ev]
    exact one_form hT (by simpa using m) _ 3 hk _ allS_safe _ (fun v hv => .bool _ _)
  rw [if_neg (by simpa using o15)] at hK
  by_cases o16 : h.op = 16
  · rw [if_pos (by simpa using o16)] at hK
    have ev : evH rows agv h rs = inX h.nt rs := by unfold evH; rw [o16]; rfl
    obtain ⟨m, hk, rfl⟩ := typedK_ok hK
    have hn : 2 ≤ ns.length := by simpa using m
    rw [ev]
    match ns, ss, rs, hT, hk, hn with
    | n :: n2 :: ns, s :: s2 :: ss, r :: r2 :: rs, hT, hk, _ =>
      show Ty1 3 _ (if r.2 == 0 then inL r.1 h.nt (r2 :: rs) (boolV false) else (nul, r.2))
      have hk2 : (n == 0 || n == firstK (n :: n2 :: ns)) = true ∧ allB (firstK (n :: n2 :: ns)) (n2 :: ns) = true := by
        have : allB (firstK (n :: n2 :: ns)) (n :: n2 :: ns) = true := hk
        simpa [allB] using this
      by_cases h0 : r.2 = 0
      · rw [if_pos (by simpa using h0)]
        exact inL_ty _ r.1 h.nt _ (kn_of hT.1 h0 hk2.1) _ hT.2 hk2.2 (fun e => by have := allS_safe e; simp [allS] at this ⊢; exact this.2) (.inr rfl)
      · rw [if_neg (by simpa using h0)]
        exact ⟨fun e => absurd e h0, fun _ => hT.1.bad h0, fun e => hT.1.safe (by have := allS_safe e; simp [allS] at this; exact this.1)⟩
  rw [if_neg (by simpa using o16)] at hK
  by_cases o17 : h.op = 17
  · rw [if_pos (by simpa using o17)] at hK
    have ev : evH rows agv h rs = betX h.nt rs := by unfold evH; rw [o17]; rfl
    obtain ⟨m, hk, rfl⟩ := typedK_ok hK
    have hn : ns.length = 3 := by simpa using m
    obtain ⟨k1, k2, k3⟩ := hT.kn hk
    rw [ev]
    obtain ⟨a, b, d, rfl⟩ := rs_three (rs := rs) (by omega)
    show Ty1 3 _ (if errR [a, b, d] == 0 then betY h.nt a.1 b.1 d.1 else (nul, errR [a, b, d]))
    by_cases h0 : errR [a, b, d] = 0
    · rw [if_pos (by simpa using h0)]
      have hv := k1 h0
      exact bet_ty _ h.nt a.1 b.1 d.1 _ (hv a.1 (by simp [valsR])) (hv b.1 (by simp [valsR])) (hv d.1 (by simp [valsR]))
    · rw [if_neg (by simpa using h0)]
      exact ⟨fun e => absurd e h0, fun _ => k2 h0, fun e => k3 (allS_safe e)⟩
  rw [if_neg (by simpa using o17)] at hK
  simp at hK
end Go.Proofs.YtbeinfhgfflneaaGreat
end
section
namespace Go.Proofs.YtbeinfhgfflneaaGreat
open Go.RowKit
set_option linter.unusedSimpArgs false
set_option linter.unusedVariables false
attribute [local go_sem] Rg.leads_value Rg.leads_skip Rg.leads_enter Rg.brings_value Rg.brings_skip Rg.brings_enter Rg.bringsG_value Rg.bringsG_enter Rg.once_normal Rg.once_exit Rg.once_ret Rg.once_panic Rg.once_goto
set_option maxHeartbeats 4000000 in
set_option maxRecDepth 100000 in
theorem idx_nil (f : Value) (w : World) : Calls Tryz.prog 40 #[.slice none 0 0, f] w fun e w' => e = .returned (.int .i64 (-1)) ∧ w' = w := by
  go_enter Tryz.func40, Tryz.ntmps40
  go_wp2_with fail
  go_loopw [8] (fun s8 wr => s8 = .int .i64 0 ∧ wr = w) (fun _ _ => 0)
  · exact ⟨rfl, rfl⟩
  · obtain ⟨rfl, rfl⟩ := hrel
    go_wp2
    go_returns
    exact ⟨rfl, rfl⟩
set_option maxHeartbeats 4000000 in
set_option maxRecDepth 100000 in
theorem agg_none (p : Nat) (r : XR) (w : World) (c1 : w.cell? ⟨p, 1, none⟩ = some (.slice none 0 0)) : Calls Tryz.prog 44 #[.pointer (some ⟨p, 0, none⟩), XR.val r] w (Vp (nul, 1) w) := by
  obtain ⟨⟨op, ⟨vt, vn, vs, vb⟩, tab, name, t, c, nt, st⟩, roa, rn, rc⟩ := r
  have hp := lt_of_cell c1
  unfold XR.val Vp pairR nul
  go_enter Tryz.func44, Tryz.ntmps44
  go_wp2_with (refine (idx_nil _ _).mono ?_; rintro e w' ⟨rfl, rfl⟩)
  all_goals
    (try (go_step3; (try simp only [Exit.then]); (try change Rg.once _ _ _ _ _ _); rw [Rg.once_goto]; go_wp2))
    (try rw [Rg.once_ret])
    (try rw [Exit.noGoto_ret])
    (try change bodyPost _ _ _ _ _ _)
    first
    | (go_returns; refine ⟨?_, ?_⟩)
    | (refine bodyPost_ret (by simp [results, Tryz.results44, go_sem, *]; try rfl) rfl ⟨?_, ?_⟩)
    rotate_left
    · repeat' (first | exact Gr.refl _ | exact Nat.le_refl _ | exact Nat.le_add_right _ _ | refine Gr.setCell ?_ ?_ _ | refine Gr.alloc ?_ _ | refine Gr.drew ?_ | refine Gr.trans ?_ (by assumption) | omega | (dsimp only; omega))
  all_goals rfl
mutual
def Ex.noAgg : Ex → Bool
  | .mk h ks => (h.op != 4) && Exs.noAgg ks
def Exs.noAgg : List Ex → Bool
  | [] => true
  | x :: xs => Ex.noAgg x && Exs.noAgg xs
end
theorem noagg_mem : ∀ (xs : List Ex), Exs.noAgg xs = true → ∀ y ∈ xs, Ex.noAgg y = true
  | [], _, y, h => by simp at h
  | x :: xs, hf, y, h => by
    rw [Exs.noAgg, Bool.and_eq_true] at hf
    rcases List.mem_cons.1 h with rfl | h
    · exact hf.1
    · exact noagg_mem xs hf.2 y h
set_option maxHeartbeats 8000000 in
set_option maxRecDepth 100000 in
theorem walk_step (h : Hd) (ks : List Ex) (roa : Option Addr) (rn rc : Nat) (go gw : Nat) (w : World) (hx : Ex.At Al w (.mk h ks) ⟨h, roa, rn, rc⟩) (h4 : (h.op == 4) = false) (cw : w.cell? ⟨gw, 0, none⟩ = some (.func (.func 27) #[] #[.pointer (some ⟨go, 0, none⟩), .pointer (some ⟨gw, 0, none⟩)]))
    (hrec : ∀ y ∈ ks, ∀ r' W, Gr w W → Ex.At Al W y r' → Calls Tryz.prog 27 #[XR.val r', .pointer (some ⟨go, 0, none⟩), .pointer (some ⟨gw, 0, none⟩)] W fun e w' => e = .returned (.tuple #[]) ∧ Gr W w') :
    Calls Tryz.prog 27 #[XR.val ⟨h, roa, rn, rc⟩, .pointer (some ⟨go, 0, none⟩), .pointer (some ⟨gw, 0, none⟩)] w fun e w' => e = .returned (.tuple #[]) ∧ Gr w w' := by
  unfold Ex.At at hx
  obtain ⟨_, hn, hfit, rs, hl, hrow, hats⟩ := hx
  have hn : rn = ks.length := hn
  have hbd : rn ≤ 2000000 := hfit.2
  have HKID : Hid (∀ k (hk : k < rn), ∃ b off rk, roa = some ⟨b, off, none⟩ ∧ b < w.heap.size ∧ (∀ i u, (xF rk)[i]? = some u → w.cell? ⟨b, off + k * 12 + i, none⟩ = some u) ∧ ∀ W, Gr w W → Calls Tryz.prog 27 #[XR.val rk, .pointer (some ⟨go, 0, none⟩), .pointer (some ⟨gw, 0, none⟩)] W fun e w' => e = .returned (.tuple #[]) ∧ Gr W w') := hid (fun k hk => by
    have hkk : k < ks.length := by omega
    have hkr : k < rs.length := by omega
    rcases hrow with h0 | ⟨b, off, hoa, hbl, hSb, hfr, hr⟩
    · rw [h0] at hkr; simp at hkr
    · exact ⟨b, off, rs[k], hoa, hbl, hr k hkr, fun W hW => hrec _ (List.getElem_mem hkk) _ W hW ((hats.get k hkk hkr).of hW.size (fun b _ hb => hW.block b hb))⟩)
  have lw := lt_of_cell cw
  clear hrow hats hl hrec hn hfit
  obtain ⟨op, ⟨vt, vn, vs, vb⟩, tab, name, t, c, nt, st⟩ := h
  have h4 : (op == 4) = false := h4
  unfold XR.val at *
  have CW := hid cw
  clear cw
  go_enter Tryz.func27, Tryz.ntmps27
  go_wp2_with fail
  go_loopw [25] (fun s25 wr => ∃ k : Nat, s25 = .int .i64 (k : Int) ∧ k ≤ rn ∧ Gr w wr) (fun s25 _ => rn - (intOf s25).toNat)
  · exact ⟨0, rfl, Nat.zero_le _, (Gr.refl _).alloc _⟩
  · obtain ⟨k, rfl, hk, hg⟩ := hrel
    have HG := hid hg
    by_cases hkn : k < rn
    · have t1 : decide ((k : Int) < (rn : Int)) = true := fi_dec hkn
      have gk : (k : Int) < (rn : Int) := fi_lt hkn
      have HWK := hid (fi_wrap hkn hbd)
      have HMS := hid (in_ms hkn)
      obtain ⟨b, off, rk, rfl, hbl, hcs, HC⟩ := HKID.out k hkn
      obtain ⟨k0, k1, k2, k3, k4, k5, k6, k7, k8, k9, k10, k11⟩ := kid_cells (w := wr) (fun i u hu => hg.keep (hcs i u hu))
      have HC := hid (fun W h => HC W (hg.trans h))
      have HAL := hid (alloc_at wr (.cells zeroX 26))
      have HGB := hid (fun W5 h => gr_boxE (w1 := wr) (o := .cells zeroX 26) (W := W5) h)
      clear hcs hg hk
      unfold XR.val at HC
      go_wp2_with (first | (guard_target =~ wpList _ _ _ (Oper.mk _ (Op.store 26 _ _) _ _ _ _ :: _) _ _; refine st_row (ty := 26) rfl rfl wr.heap.size rk.cells rfl rfl 26 _ HAL.out (by kernel_rfl) rfl (by kernel_rfl) ?_; intro W5 hW5 gW5 zW5; have hg5 := HGB.out W5 gW5; have HW5 := hid hW5; have c5 := (HG.out.trans hg5).keep CW.out; clear gW5 zW5 hW5) | (guard_target =~ wpList _ _ _ (Oper.mk _ (Op.load 26 _) _ _ _ _ :: _) _ _; refine wpList_load_row rfl 26 _ rfl wr.heap.size rfl 26 rk.cells (0, 0) _ HW5.out Tryz.underlying26 rfl (by kernel_rfl) ?_))
      refine (HC.out W5 hg5).mono ?_
      rintro e w3 ⟨rfl, hg3⟩
      have HX := hid (HG.out.trans (hg5.trans hg3))
      clear hg5 hg3 HC HAL HGB HW5 k0 k1 k2 k3 k4 k5 k6 k7 k8 k9 k10 k11 c5 HG CW
      go_wp2
      exact ⟨⟨k + 1, in_next, hkn, HX.out⟩, HMS.out⟩
    · have t1 : decide ((k : Int) < (rn : Int)) = false := fi_dec0 hkn
      have t1n : decide (k < rn) = false := fi_decn0 hkn
      clear HKID CW HG
      go_wp2
      exact ⟨rfl, .tuple #[], by simp [results, Tryz.results27], rfl, hg⟩
end Go.Proofs.YtbeinfhgfflneaaGreat
end
section
namespace Go.Proofs.YtbeinfhgfflneaaGreat
open Go.RowKit
set_option linter.unusedSimpArgs false
set_option linter.unusedVariables false
attribute [local go_sem] Rg.leads_value Rg.leads_skip Rg.leads_enter Rg.brings_value Rg.brings_skip Rg.brings_enter Rg.bringsG_value Rg.bringsG_enter Rg.once_normal Rg.once_exit Rg.once_ret Rg.once_panic Rg.once_goto
theorem run_store_func {P : Program} {w : World} {a : Addr} {m : Mode} (f : Fn) (ts cs : Array Value) : (store a (.func f ts cs) m).run P w = stored P w a (.func f ts cs) m := run_store P w a _ m rfl
attribute [local go_sem] run_store_func
theorem walk_any (go gw : Nat) : ∀ (N : Nat) (x : Ex), x.forms ≤ N → Ex.noAgg x = true → ∀ (r : XR) (w : World), Ex.At Al w x r → w.cell? ⟨gw, 0, none⟩ = some (.func (.func 27) #[] #[.pointer (some ⟨go, 0, none⟩), .pointer (some ⟨gw, 0, none⟩)]) →
    Calls Tryz.prog 27 #[XR.val r, .pointer (some ⟨go, 0, none⟩), .pointer (some ⟨gw, 0, none⟩)] w fun e w' => e = .returned (.tuple #[]) ∧ Gr w w'
  | 0, x, hN, _, _, _, _, _ => by cases x; rw [Ex.forms] at hN; omega
  | N + 1, .mk h ks, hN, hna, ⟨rh, roa, rn, rc⟩, w, hx, cw => by
    have e1 : rh = h := by
      unfold Ex.At at hx
      exact hx.1
    subst e1
    rw [Ex.noAgg, Bool.and_eq_true] at hna
    rw [Ex.forms] at hN
    refine walk_step rh ks roa rn rc go gw w hx (by simpa [bne] using hna.1) cw (fun y hy r' W hW hx' => walk_any go gw N y (by have := forms_mem ks y hy; omega) (noagg_mem ks hna.2 y hy) r' W hx' (hW.keep cw))
set_option maxHeartbeats 8000000 in
set_option maxRecDepth 100000 in
theorem aggs_one (x : Ex) (hna : Ex.noAgg x = true) (r : XR) (g : Nat) (w : World) (hx : Ex.At Al w x r) (hcs : ∀ i u, (xF r)[i]? = some u → w.cell? ⟨g, i, none⟩ = some u) : Calls Tryz.prog 17 #[.slice (some ⟨g, 0, none⟩) 1 1] w fun e w' => e = .returned (.slice none 0 0) ∧ Gr w w' := by
  have HX := hid hx
  have HCS := hid hcs
  have hgl : g < w.heap.size := lt_of_cell (hcs 0 _ rfl)
  clear hx hcs
  go_enter Tryz.func17, Tryz.ntmps17
  go_wp2_with fail
  have hG0 : Gr w ((w.alloc (.cells #[.slice none 0 0] 24)).alloc (.cells #[(.func (.func 27) #[] #[.pointer (some ⟨w.heap.size, 0, none⟩), .pointer (some ⟨w.heap.size + 1, 0, none⟩)])] 75)) := ((Gr.refl w).alloc _).alloc _
  have hcw : (((w.alloc (.cells #[.slice none 0 0] 24)).alloc (.cells #[(.func (.func 27) #[] #[.pointer (some ⟨w.heap.size, 0, none⟩), .pointer (some ⟨w.heap.size + 1, 0, none⟩)])] 75))).cell? ⟨w.heap.size + 1, 0, none⟩ = some (.func (.func 27) #[] #[.pointer (some ⟨w.heap.size, 0, none⟩), .pointer (some ⟨w.heap.size + 1, 0, none⟩)]) := Rg.blk_cells (alloc_two _ _ _) 0
  have hco : (((w.alloc (.cells #[.slice none 0 0] 24)).alloc (.cells #[(.func (.func 27) #[] #[.pointer (some ⟨w.heap.size, 0, none⟩), .pointer (some ⟨w.heap.size + 1, 0, none⟩)])] 75))).cell? ⟨w.heap.size, 0, none⟩ = some (.slice none 0 0) := Rg.blk_cells ((((Gr.refl _).alloc _).block _ (by rw [World.size_alloc]; exact Nat.lt_succ_self _)).trans (alloc_at _ _)) 0
  generalize ((w.alloc (.cells #[.slice none 0 0] 24)).alloc (.cells #[(.func (.func 27) #[] #[.pointer (some ⟨w.heap.size, 0, none⟩), .pointer (some ⟨w.heap.size + 1, 0, none⟩)])] 75)) = W0 at *
  have HG0 := hid hG0
  have HCW := hid hcw
  have HCO := hid hco
  clear hG0 hcw hco
  go_loopw [10] (fun s10 wr => ∃ k : Nat, s10 = .int .i64 (k : Int) ∧ k ≤ 1 ∧ Gr W0 wr) (fun s10 _ => 1 - (intOf s10).toNat)
  · exact ⟨0, rfl, Nat.zero_le _, Gr.refl _⟩
  · obtain ⟨k, rfl, hk, hg⟩ := hrel
    have HG := hid hg
    have cw := hg.keep HCW.out
    have co := hg.keep HCO.out
    have lcw := lt_of_cell cw
    have lco := lt_of_cell co
    by_cases hk0 : k = 0
    · subst hk0
      have hgw := HG0.out.trans hg
      obtain ⟨k0, k1, k2, k3, k4, k5, k6, k7, k8, k9, k10, k11⟩ := kid_cells (w := wr) (b := g) (o := 0) (rk := r) (fun i u hu => by rw [Nat.zero_add]; exact hgw.keep (HCS.out i u hu))
      simp only [Nat.zero_add] at k1 k2 k3 k4 k5 k6 k7 k8 k9 k10 k11
      have lg : g < wr.heap.size := lt_of_cell k0
      have HXr := hid (HX.out.of hgw.size (fun b _ hb => hgw.block b hb))
      have HAL := hid (alloc_at wr (.cells zeroX 26))
      have HGB := hid (fun W5 h => gr_boxE (w1 := wr) (o := .cells zeroX 26) (W := W5) h)
      clear hgw hg hk
      go_wp2_with (first | (guard_target =~ wpList _ _ _ (Oper.mk _ (Op.store 26 _ _) _ _ _ _ :: _) _ _; refine st_row (ty := 26) rfl rfl wr.heap.size r.cells rfl rfl 26 _ HAL.out (by kernel_rfl) rfl (by kernel_rfl) ?_; intro W5 hW5 gW5 zW5; have hg5 := HGB.out W5 gW5; have HW5 := hid hW5; have c5 := hg5.keep cw; have l5 := lt_of_cell c5; clear gW5 zW5 hW5) | (guard_target =~ wpList _ _ _ (Oper.mk _ (Op.load 26 _) _ _ _ _ :: _) _ _; refine wpList_load_row rfl 26 _ rfl wr.heap.size rfl 26 r.cells (0, 0) _ HW5.out Tryz.underlying26 rfl (by kernel_rfl) ?_))
      refine (walk_any w.heap.size (w.heap.size + 1) x.forms x (Nat.le_refl _) hna r W5 (HXr.out.of hg5.size (fun b _ hb => hg5.block b hb)) c5).mono ?_
      rintro e w3 ⟨rfl, hg3⟩
      have HX3 := hid (HG.out.trans (hg5.trans hg3))
      clear hg5 hg3 HAL HGB HW5 k0 k1 k2 k3 k4 k5 k6 k7 k8 k9 k10 k11 c5 HG cw co
      go_wp2
      exact ⟨⟨1, rfl, Nat.le_refl _, HX3.out⟩, Nat.zero_lt_one⟩
    · obtain rfl : k = 1 := Nat.le_antisymm hk (Nat.pos_of_ne_zero hk0)
      have HF := hid (HG0.out.trans hg)
      clear HCS HX HG hk0 hk hg HG0 HCW HCO cw
      go_wp2_with (refine (clip_any none 0 0 (Nat.le_refl 0) _).mono ?_; rintro e w' ⟨rfl, rfl⟩)
      go_returns
      exact ⟨rfl, HF.out⟩
end Go.Proofs.YtbeinfhgfflneaaGreat
end
section
namespace Go.Proofs.YtbeinfhgfflneaaGreat
open Go.RowKit
set_option linter.unusedSimpArgs false
set_option linter.unusedVariables false
attribute [local go_sem] Rg.leads_value Rg.leads_skip Rg.leads_enter Rg.brings_value Rg.brings_skip Rg.brings_enter Rg.bringsG_value Rg.bringsG_enter Rg.once_normal Rg.once_exit Rg.once_ret Rg.once_panic Rg.once_goto Rg.bringsS_value Rg.bringsS_skip Rg.bringsS_enter Rg.still_value Rg.still_skip Rg.still_enter
def agN : Ex → V × Int := fun _ => (nul, 1)
def ExSt (W0 : World) (r : XR) (rv : Value) (s : Nat) (v : Nat → Value) (W : World) : Prop := Gr W0 W ∧ (s = 1 → ∃ g, v 2 = .slice (some ⟨g, 0, none⟩) 1 1 ∧ ∀ i u, (xF r)[i]? = some u → W.cell? ⟨g, i, none⟩ = some u) ∧ (s = 3 → ∃ p, v 6 = .pointer (some ⟨p, 0, none⟩) ∧ W.heap[p]? = some (.cells #[rv, .slice none 0 0, .slice none 0 0] 58 (0, 0)))
theorem env_of (p : Nat) (W : World) (oa : Option Addr) (cc : Nat) (rows : List (List V)) (h : W.heap[p]? = some (.cells #[.slice oa rows.length cc, .slice none 0 0, .slice none 0 0] 58 (0, 0))) (hr : RowsAt W oa rows) : EnvAt p W rows agN :=
  ⟨⟨oa, cc, _, _, h, hr⟩, fun W' x r hW hx => agg_none p r W' (Rg.blk_cells ((hW.block p (lt_blk h)).trans h) 1)⟩
set_option maxHeartbeats 8000000 in
set_option maxRecDepth 100000 in
theorem eexpr_any (x : Ex) (r : XR) (oa : Option Addr) (cc : Nat) (rows : List (List V)) (k : Nat) (w : World) (hx : Ex.At Al w x r) (hna : Ex.noAgg x = true) (hr : RowsAt w oa rows) (hf : Ex.fitsX k x) (hv : ∀ l ∈ rows, ∀ v ∈ l, VB k v) (hs : x.forms * k ≤ 9223372036854775807) :
    Calls Tryz.prog 8 #[XR.val r, .slice oa rows.length cc, .slice none 0 0] w (Vp (evX rows agN x) w) := by
  have EC : Hid (∀ p W, Gr w W → W.heap[p]? = some (.cells #[.slice oa rows.length cc, .slice none 0 0, .slice none 0 0] 58 (0, 0)) → Calls Tryz.prog 18 #[.pointer (some ⟨p, 0, none⟩), XR.val r] W (Vp (evX rows agN x) W)) := hid (fun p W hW h =>
    ev_any p rows agN k hv (fun _ => vb_nul _) x.forms x (Nat.le_refl _) r W (env_of p W oa cc rows h (hr.keep hW)) (hx.of hW.size (fun b _ hb => hW.block b hb)) hf hs)
  have AC : Hid (∀ g W, Gr w W → (∀ i u, (xF r)[i]? = some u → W.cell? ⟨g, i, none⟩ = some u) → Calls Tryz.prog 17 #[.slice (some ⟨g, 0, none⟩) 1 1] W fun e w' => e = .returned (.slice none 0 0) ∧ Gr W w') := hid (fun g W hW h =>
    aggs_one x hna r g W (hx.of hW.size (fun b _ hb => hW.block b hb)) h)
  generalize evX rows agN x = R at *
  generalize rows.length = nr at *
  clear hx hna hr hf hv hs
  obtain ⟨⟨op, ⟨vt, vn, vs, vb⟩, tab, name, t, c, nt, st⟩, roa, rn, rc⟩ := r
  obtain ⟨⟨tn, nn, sn, bn⟩, en⟩ := R
  unfold XR.val Vp pairR at *
  obtain ⟨W0, hW0⟩ : ∃ W0, (w.alloc (.cells #[.int .i64 op, .int .i64 vt, .int .i64 vn, .string vs, .bool vb, .string tab, .string name, .int .i64 t, .int .i64 c, .bool nt, .bool st, .slice roa rn rc] 26)).alloc (.cells zeroV 23) = W0 := ⟨_, rfl⟩
  have HW0 := hid hW0
  have HG0 : Hid (Gr w W0) := hid (by rw [← hW0]; exact ((Gr.refl w).alloc _).alloc _)
  have HB0 : Hid (W0.heap[w.heap.size]? = some (.cells #[.int .i64 op, .int .i64 vt, .int .i64 vn, .string vs, .bool vb, .string tab, .string name, .int .i64 t, .int .i64 c, .bool nt, .bool st, .slice roa rn rc] 26 (0, 0))) := hid (by rw [← hW0]; exact (((Gr.refl _).alloc _).block _ (by rw [World.size_alloc]; exact Nat.lt_succ_self _)).trans (alloc_at _ _))
  have HZ0 : Hid (W0.heap[w.heap.size + 1]? = some (.cells zeroV 23 (0, 0))) := hid (by rw [← hW0]; exact alloc_two _ _ _)
  clear hW0
  go_enter Tryz.func8, Tryz.ntmps8
  go_wp2_with fail
  rw [show ((w.alloc (.cells #[.int .i64 op, .int .i64 vt, .int .i64 vn, .string vs, .bool vb, .string tab, .string name, .int .i64 t, .int .i64 c, .bool nt, .bool st, .slice roa rn rc] 26)).alloc (.cells #[.int .i64 0, .int .i64 0, .string ⟨#[]⟩, .bool false] 23)) = W0 from HW0.out]
  clear HW0
  have hS0 : ∀ v, ExSt W0 ⟨⟨op, ⟨vt, vn, vs, vb⟩, tab, name, t, c, nt, st⟩, roa, rn, rc⟩ (.slice oa nr cc) 0 v (W0.drew) := fun v => by unfold ExSt; exact ⟨(Gr.refl _).drew, fun h => absurd h (by decide), fun h => absurd h (by decide)⟩
  refine Rg.region_chain 11 [2, 3, 6, 8] [] (ExSt W0 ⟨⟨op, ⟨vt, vn, vs, vb⟩, tab, name, t, c, nt, st⟩, roa, rn, rc⟩ (.slice oa nr cc)) [some (.slice oa nr cc), some (.agg #[.int .i64 op, .int .i64 vt, .int .i64 vn, .string vs, .bool vb, .string tab, .string name, .int .i64 t, .int .i64 c, .bool nt, .bool st, .slice roa rn rc]), none, some (.slice none 0 0), some (.slice none 0 0), some (.agg #[.slice oa nr cc, .slice none 0 0, .slice none 0 0]), none, some (.agg #[.int .i64 op, .int .i64 vt, .int .i64 vn, .string vs, .bool vb, .string tab, .string name, .int .i64 t, .int .i64 c, .bool nt, .bool st, .slice roa rn rc]), some (.tuple #[.agg #[.int .i64 tn, .int .i64 nn, .string sn, .bool bn], .int .i64 en]), some (.agg #[.int .i64 tn, .int .i64 nn, .string sn, .bool bn]), some (.int .i64 en)]
    hS0 (by kernel_rfl) (by kernel_rfl) (by kernel_rfl) (by kernel_rfl) (fun _ _ d _ _ h => by cases d <;> exact h) ?_
  intro OPS _ v
  simp only [List.take_succ_cons, List.take_zero, Rg.wpC, Rg.wpS, Option.getD_some, Option.getD_none, Act.put, List.setIfInBounds_toArray, List.set_cons_zero, List.set_cons_succ, show List.contains [2, 3, 6, 8] 0 = false from rfl, show List.contains [2, 3, 6, 8] 1 = false from rfl, show List.contains [2, 3, 6, 8] 2 = true from rfl, show List.contains [2, 3, 6, 8] 3 = true from rfl, show List.contains [2, 3, 6, 8] 4 = false from rfl, show List.contains [2, 3, 6, 8] 5 = false from rfl, show List.contains [2, 3, 6, 8] 6 = true from rfl, show List.contains [2, 3, 6, 8] 7 = false from rfl, show List.contains [2, 3, 6, 8] 8 = true from rfl, show List.contains [2, 3, 6, 8] 9 = false from rfl, show List.contains [2, 3, 6, 8] 10 = false from rfl, Bool.false_eq_true, if_false, if_true, Nat.reduceAdd]
  have cW : ∀ W, Gr W0 W → W.heap[w.heap.size]? = some (.cells #[.int .i64 op, .int .i64 vt, .int .i64 vn, .string vs, .bool vb, .string tab, .string name, .int .i64 t, .int .i64 c, .bool nt, .bool st, .slice roa rn rc] 26 (0, 0)) := fun W h => (h.block _ (lt_blk HB0.out)).trans HB0.out
  have HCW := hid cW
  clear cW hS0
  refine ⟨?_, ?_, ?_, ?_, ?_, ?_, ?_, ?_, ?_, ?_, ?_, ?_⟩
  · refine sc_still (by rfl) (by rfl) (fun s' W _ hS => ?_)
    go_simp
  · refine sc_still (by rfl) (by rfl) (fun s' W _ hS => ?_)
    have cW := Rg.blk_cells (HCW.out W hS.1)
    go_simp
  · refine sc_new (by rfl) (by rfl) (fun W hS => ?_)
    go_simp
    unfold ExSt
    refine ⟨hS.1.alloc _, fun _ => ⟨_, upd_same _ _ _, fun i u hu => ?_⟩, fun h => absurd h (by decide)⟩
    rw [Rg.blk_cells (alloc_at _ _)]
    simpa [xF] using hu
  · refine sc_call (by rfl) (by rfl) (fun W hS => ?_)
    unfold ExSt at hS
    obtain ⟨hg, h1, _⟩ := hS
    obtain ⟨g, hv, hcs⟩ := h1 rfl
    rw [hv]
    have HA := AC.out g W (HG0.out.trans hg) hcs
    have HH := hid hg
    clear hg h1 hv hcs
    go_simp
    refine HA.mono ?_
    rintro e w' ⟨rfl, hg'⟩
    exact ⟨_, rfl, rfl, by unfold ExSt; exact ⟨HH.out.trans hg', fun h => absurd h (by decide), fun h => absurd h (by decide)⟩⟩
  · refine sc_still (by rfl) (by rfl) (fun s' W _ hS => ?_)
    go_simp
  · refine sc_still (by rfl) (by rfl) (fun s' W _ hS => ?_)
    go_simp
  · refine sc_new (by rfl) (by rfl) (fun W hS => ?_)
    go_simp
    unfold ExSt
    refine ⟨hS.1.alloc _, fun h => absurd h (by decide), fun _ => ⟨_, upd_same _ _ _, alloc_at _ _⟩⟩
  · refine sc_still (by rfl) (by rfl) (fun s' W _ hS => ?_)
    have cW := Rg.blk_cells (HCW.out W hS.1)
    go_simp
  · refine sc_call (by rfl) (by rfl) (fun W hS => ?_)
    unfold ExSt at hS
    obtain ⟨hg, _, h3⟩ := hS
    obtain ⟨p, hv, hblk⟩ := h3 rfl
    rw [hv]
    have HE := EC.out p W (HG0.out.trans hg) hblk
    have HH := hid hg
    clear hg h3 hv hblk
    go_simp
    refine HE.mono ?_
    rintro e w' ⟨rfl, hg'⟩
    exact ⟨_, rfl, rfl, by unfold ExSt; exact ⟨HH.out.trans hg', fun h => absurd h (by decide), fun h => absurd h (by decide)⟩⟩
  · refine sc_still (by rfl) (by rfl) (fun s' W _ hS => ?_)
    go_simp
  · refine sc_still (by rfl) (by rfl) (fun s' W _ hS => ?_)
    go_simp
  · intro W9 hS9
    have hg9 : Gr W0 W9 := hS9.1
    clear hS9
    have hG := HG0.out.trans hg9
    have hZ := (hg9.block _ (lt_blk HZ0.out)).trans HZ0.out
    unfold zeroV at hZ
    have cZ := Rg.blk_cells hZ
    have fZ := Rg.blk_free hZ
    have lZ := lt_blk hZ
    clear hg9 hZ HZ0 HB0 HCW HG0 AC EC
    simp only [List.drop_succ_cons, List.drop_zero]
    go_wp2
    all_goals
      (try (go_step3; (try simp only [Exit.then]); (try change Rg.once _ _ _ _ _ _); rw [Rg.once_goto]; go_wp2))
      (try rw [Rg.once_ret])
      (try rw [Exit.noGoto_ret])
      (try change bodyPost _ _ _ _ _ _)
      first
      | (go_returns; refine ⟨?_, ?_⟩)
      | (refine bodyPost_ret (by simp [results, Tryz.results8, go_sem, *]; try rfl) rfl ⟨?_, ?_⟩)
      rotate_left
      · repeat' (first | exact Gr.refl _ | exact Nat.le_refl _ | exact Nat.le_add_right _ _ | refine Gr.setCell ?_ ?_ _ | refine Gr.alloc ?_ _ | refine Gr.drew ?_ | refine Gr.trans ?_ (by assumption) | omega | (dsimp only; omega))
    all_goals rfl
end Go.Proofs.YtbeinfhgfflneaaGreat
end
section
namespace Go.Proofs.YtbeinfhgfflneaaGreat
set_option linter.unusedSimpArgs false
set_option linter.unusedVariables false
theorem cols_mem (h : Hd) (t : Nat) : ∀ (l : List Cn) (i : Nat) (q : Nat × Nat × Int), q ∈ colsN h t l i → q.1 = t ∧ ∃ j c, q.2.1 = i + j ∧ l[j]? = some c ∧ q.2.2 = c.ty
  | [], i, q, hq => by simp [colsN] at hq
  | c :: r, i, q, hq => by
    unfold colsN at hq
    have tl : q ∈ colsN h t r (i + 1) → q.1 = t ∧ ∃ j c', q.2.1 = i + j ∧ (c :: r)[j]? = some c' ∧ q.2.2 = c'.ty := fun hq => by
      obtain ⟨h1, j, c', h2, h3, h4⟩ := cols_mem h t r (i + 1) q hq
      exact ⟨h1, j + 1, c', by omega, by simpa using h3, h4⟩
    split at hq
    · rcases List.mem_cons.1 hq with rfl | hq
      · exact ⟨rfl, 0, c, rfl, rfl, rfl⟩
      · exact tl hq
    · exact tl hq
theorem tabs_one (h : Hd) (nm : ByteArray) (cols : List Cn) (q : Nat × Nat × Int) (hq : q ∈ tabsN h [⟨nm, cols⟩] 0) : q.1 = 0 ∧ ∃ c, cols[q.2.1]? = some c ∧ q.2.2 = c.ty := by
  unfold tabsN at hq
  have e : tabsN h [] (0 + 1) = [] := rfl
  rw [e] at hq
  split at hq
  · simp at hq
  · rw [List.append_nil] at hq
    obtain ⟨h1, j, c, h2, h3, h4⟩ := cols_mem h 0 cols 0 q hq
    exact ⟨h1, c, by rw [h2, Nat.zero_add]; exact h3, h4⟩
def Fits (cols : List Cn) (l : List V) : Prop := l.length = cols.length ∧ ∀ (i : Nat) (v : V) (c : Cn), l[i]? = some v → cols[i]? = some c → v.t = 0 ∨ v.t = c.ty
theorem name_ty (nm : ByteArray) (cols : List Cn) (l : List V) (hfit : Fits cols l) (h : Hd) (y : Ex) (n : Int) (hb : bnameK [⟨nm, cols⟩] h = (y, n, 0)) : Ty1 n (safeX y) (evX [l] agN y) ∧ Ex.noAgg y = true := by
  unfold bnameK at hb
  split at hb
  · rename_i t c k hq
    obtain ⟨h1, cn, h2, h3⟩ := tabs_one h nm cols (t, c, k) (by rw [hq]; simp)
    simp only at h1 h2 h3
    subst h1
    simp only [Prod.mk.injEq, and_true] at hb
    obtain ⟨rfl, rfl⟩ := hb
    have hc : c < l.length := by rw [hfit.1]; exact (List.getElem?_eq_some_iff.1 h2).1
    have ev : evX [l] agN (.mk { op := 3, t := ((0 : Nat) : Int), c := (c : Int) } []) = (l[c], 0) := by
      rw [evX, evXs]
      show colR [l] ((0 : Nat) : Int) (c : Int) = _
      rw [colR_at [l] 0 _ (by simp)]
      exact cellR_at l c hc
    rw [ev]
    refine ⟨⟨fun _ => ?_, fun e => absurd rfl e, fun _ => rfl⟩, by rw [Ex.noAgg, Exs.noAgg]; rfl⟩
    rw [h3]
    exact hfit.2 c l[c] cn (List.getElem?_eq_getElem hc) h2
  · simp at hb
theorem find_none {rs : List (Ex × Int × Int)} (h : rs.find? (fun r => r.2.2 != 0) = none) : ∀ r ∈ rs, r.2.2 = 0 := fun r hr => by
  have := List.find?_eq_none.1 h r hr
  simpa using this
theorem safes_all : ∀ xs : List Ex, safeXs xs = allS (xs.map safeX)
  | [] => by rw [safeXs]; rfl
  | x :: xs => by rw [safeXs, safes_all xs]; rfl
mutual
theorem bind_ty (nm : ByteArray) (cols : List Cn) (l : List V) (hfit : Fits cols l) (in_ : Bool) : ∀ (x : Ex) (y : Ex) (n : Int), bindX [⟨nm, cols⟩] false in_ x = (y, n, 0) → Ty1 n (safeX y) (evX [l] agN y) ∧ Ex.noAgg y = true
  | .mk h ks, y, n, hb => by
    rw [bindX] at hb
    unfold bindH at hb
    split at hb
    · rename_i r hr
      have := List.find?_some hr
      simp at hb this
      exact absurd hb.2.2 this
    · rename_i hr
      have hL := binds_ty nm cols l hfit (in_ || h.op == 4) ks (find_none hr)
      by_cases h2 : (h.op == 2 && (bindXs [⟨nm, cols⟩] false (in_ || h.op == 4) ks).length == 0) = true
      · rw [if_pos h2] at hb
        exact name_ty nm cols l hfit h y n hb
      · rw [if_neg h2] at hb
        by_cases h3 : ((kindK false in_ h ((bindXs [⟨nm, cols⟩] false (in_ || h.op == 4) ks).map (·.2.1))).2 != 0) = true
        · rw [if_pos h3] at hb
          simp at hb h3
          exact absurd hb.2.2 h3
        · rw [if_neg h3] at hb
          simp only [Prod.mk.injEq, and_true] at hb
          obtain ⟨rfl, rfl⟩ := hb
          have hk : kindK false in_ h ((bindXs [⟨nm, cols⟩] false (in_ || h.op == 4) ks).map (·.2.1)) = ((kindK false in_ h ((bindXs [⟨nm, cols⟩] false (in_ || h.op == 4) ks).map (·.2.1))).1, 0) := by
            have : (kindK false in_ h ((bindXs [⟨nm, cols⟩] false (in_ || h.op == 4) ks).map (·.2.1))).2 = 0 := by simpa using h3
            rw [← this]
          rw [evX, safeX, Ex.noAgg]
          refine ⟨?_, ?_⟩
          · have := form_ty [l] (agN (.mk h ((bindXs [⟨nm, cols⟩] false (in_ || h.op == 4) ks).map (·.1)))) in_ h _ _ _ _ hL.1 hk
            rw [safes_all]
            exact this
          · rw [hL.2, Bool.and_true]
            by_cases h4 : h.op = 4
            · exfalso
              unfold kindK at hk
              simp only at hk
              rw [if_neg (by rw [h4]; decide), if_pos (by rw [h4]; decide)] at hk
              exact agg_no in_ h _ _ hk
            · simpa [bne] using h4
theorem binds_ty (nm : ByteArray) (cols : List Cn) (l : List V) (hfit : Fits cols l) (in_ : Bool) : ∀ (xs : List Ex), (∀ r ∈ bindXs [⟨nm, cols⟩] false in_ xs, r.2.2 = 0) → TyL ((bindXs [⟨nm, cols⟩] false in_ xs).map (·.2.1)) (((bindXs [⟨nm, cols⟩] false in_ xs).map (·.1)).map safeX) (evXs [l] agN ((bindXs [⟨nm, cols⟩] false in_ xs).map (·.1))) ∧ Exs.noAgg ((bindXs [⟨nm, cols⟩] false in_ xs).map (·.1)) = true
  | [], _ => by rw [bindXs]; simp only [List.map_nil, evXs, Exs.noAgg]; exact ⟨trivial, trivial⟩
  | x :: xs, h => by
    rw [bindXs] at h ⊢
    obtain ⟨i1, i2⟩ := binds_ty nm cols l hfit in_ xs (fun r hr => h r (by simp [hr]))
    obtain ⟨⟨y, n, e⟩, hq⟩ : ∃ q, bindX [⟨nm, cols⟩] false in_ x = q := ⟨_, rfl⟩
    have he := h (bindX [⟨nm, cols⟩] false in_ x) (by simp)
    rw [hq] at he ⊢
    have he : e = 0 := he
    subst he
    obtain ⟨j1, j2⟩ := bind_ty nm cols l hfit in_ x y n hq
    simp only [List.map_cons]
    rw [evXs, Exs.noAgg]
    exact ⟨⟨j1, i1⟩, by rw [j2, i2]; rfl⟩
end
end Go.Proofs.YtbeinfhgfflneaaGreat
end
section
namespace Go.Proofs.YtbeinfhgfflneaaGreat
open Go.RowKit
set_option linter.unusedSimpArgs false
set_option linter.unusedVariables false
attribute [local go_sem] Rg.leads_value Rg.leads_skip Rg.leads_enter Rg.brings_value Rg.brings_skip Rg.brings_enter Rg.bringsG_value Rg.bringsG_enter Rg.once_normal Rg.once_exit Rg.once_ret Rg.once_panic Rg.once_goto
def idx4 (b0 b1 b2 b3 : Bool) : Int := if b0 then 0 else if b1 then 1 else if b2 then 2 else if b3 then 3 else -1
set_option maxHeartbeats 4000000 in
set_option maxRecDepth 100000 in
theorem index4 (g : Nat) (s a0 a1 a2 a3 : ByteArray) (w : World) (c0 : w.cell? ⟨g, 0, none⟩ = some (.string a0)) (c1 : w.cell? ⟨g, 1, none⟩ = some (.string a1)) (c2 : w.cell? ⟨g, 2, none⟩ = some (.string a2)) (c3 : w.cell? ⟨g, 3, none⟩ = some (.string a3)) :
    Calls Tryz.prog 140 #[.slice (some ⟨g, 0, none⟩) 4 4, .string s] w fun e w' => e = .returned (.int .i64 (idx4 (s.toList == a0.toList) (s.toList == a1.toList) (s.toList == a2.toList) (s.toList == a3.toList))) ∧ w' = w := by
  unfold idx4
  cases h0 : (s.toList == a0.toList) with
  | true =>
    simp only [if_true]
    go_enter Tryz.func140, Tryz.ntmps140
    go_wp2_with fail
    refine wp_loop_rounds 5 ?_
    rw [rounds_succ]
    go_wp2
    go_ret
    exact ⟨rfl, rfl⟩
  | false =>
    cases h1 : (s.toList == a1.toList) with
    | true =>
      simp only [if_true, Bool.false_eq_true, if_false]
      go_enter Tryz.func140, Tryz.ntmps140
      go_wp2_with fail
      refine wp_loop_rounds 5 ?_
      rw [rounds_succ]
      go_wp2
      rw [rounds_succ]
      go_wp2
      go_ret
      exact ⟨rfl, rfl⟩
    | false =>
      cases h2 : (s.toList == a2.toList) with
      | true =>
        simp only [if_true, Bool.false_eq_true, if_false]
        go_enter Tryz.func140, Tryz.ntmps140
        go_wp2_with fail
        refine wp_loop_rounds 5 ?_
        rw [rounds_succ]
        go_wp2
        rw [rounds_succ]
        go_wp2
        rw [rounds_succ]
        go_wp2
        go_ret
        exact ⟨rfl, rfl⟩
      | false =>
        cases h3 : (s.toList == a3.toList) with
        | true =>
          simp only [if_true, Bool.false_eq_true, if_false]
          go_enter Tryz.func140, Tryz.ntmps140
          go_wp2_with fail
          refine wp_loop_rounds 5 ?_
          rw [rounds_succ]
          go_wp2
          rw [rounds_succ]
          go_wp2
          rw [rounds_succ]
          go_wp2
          rw [rounds_succ]
          go_wp2
          go_ret
          exact ⟨rfl, rfl⟩
        | false =>
          simp only [Bool.false_eq_true, if_false]
          go_enter Tryz.func140, Tryz.ntmps140
          go_wp2_with fail
          refine wp_loop_rounds 5 ?_
          rw [rounds_succ]
          go_wp2
          rw [rounds_succ]
          go_wp2
          rw [rounds_succ]
          go_wp2
          rw [rounds_succ]
          go_wp2
          rw [rounds_succ]
          go_wp2
          go_ret
          exact ⟨rfl, rfl⟩
theorem idx4_ge (b0 b1 b2 b3 : Bool) : decide (0 ≤ idx4 b0 b1 b2 b3) = (b0 || b1 || b2 || b3) := by cases b0 <;> cases b1 <;> cases b2 <;> cases b3 <;> rfl
theorem str_eq (s c : ByteArray) : (s.toList == c.toList) = (s.data.toList == c.data.toList) := by rw [ByteArray.toList_eq, ByteArray.toList_eq]
set_option maxHeartbeats 4000000 in
set_option maxRecDepth 100000 in
theorem contains4 (g : Nat) (s a0 a1 a2 a3 : ByteArray) (w : World) (c0 : w.cell? ⟨g, 0, none⟩ = some (.string a0)) (c1 : w.cell? ⟨g, 1, none⟩ = some (.string a1)) (c2 : w.cell? ⟨g, 2, none⟩ = some (.string a2)) (c3 : w.cell? ⟨g, 3, none⟩ = some (.string a3)) :
    Calls Tryz.prog 138 #[.slice (some ⟨g, 0, none⟩) 4 4, .string s] w fun e w' => e = .returned (.bool ((s.toList == a0.toList) || (s.toList == a1.toList) || (s.toList == a2.toList) || (s.toList == a3.toList))) ∧ w' = w := by
  have H := index4 g s a0 a1 a2 a3 w c0 c1 c2 c3
  have HD := idx4_ge (s.toList == a0.toList) (s.toList == a1.toList) (s.toList == a2.toList) (s.toList == a3.toList)
  rw [← HD]
  generalize idx4 (s.toList == a0.toList) (s.toList == a1.toList) (s.toList == a2.toList) (s.toList == a3.toList) = k at *
  clear HD c0 c1 c2 c3
  go_enter Tryz.func138, Tryz.ntmps138
  go_wp2_with fail
  refine H.mono ?_
  rintro e w1 ⟨rfl, rfl⟩
  go_wp2
  go_ret
  exact ⟨rfl, rfl⟩
set_option maxHeartbeats 4000000 in
set_option maxRecDepth 100000 in
theorem folds_any (s : ByteArray) (w : World) : Calls Tryz.prog 136 #[.string s] w fun e w' => e = .returned (.bool (folds s.data.toList)) ∧ Gr w w' := by
  have H := fun g w c0 c1 c2 c3 => contains4 g s ⟨#[99, 111, 117, 110, 116]⟩ ⟨#[115, 117, 109]⟩ ⟨#[109, 105, 110]⟩ ⟨#[109, 97, 120]⟩ w c0 c1 c2 c3
  have HF : (s.toList == (⟨#[99, 111, 117, 110, 116]⟩ : ByteArray).toList || s.toList == (⟨#[115, 117, 109]⟩ : ByteArray).toList || s.toList == (⟨#[109, 105, 110]⟩ : ByteArray).toList || s.toList == (⟨#[109, 97, 120]⟩ : ByteArray).toList) = folds s.data.toList := by unfold folds; rw [str_eq, str_eq, str_eq, str_eq]
  rw [HF] at H
  generalize folds s.data.toList = f at *
  clear HF
  have FI : Hid (∀ o, Gr w (w.alloc o)) := hid (fun o => (Gr.refl w).alloc o)
  go_enter Tryz.func136, Tryz.ntmps136
  go_wp2_with fail
  refine (H w.heap.size _ (by rw [Rg.blk_cells (alloc_at _ _)]; rfl) (by rw [Rg.blk_cells (alloc_at _ _)]; rfl) (by rw [Rg.blk_cells (alloc_at _ _)]; rfl) (by rw [Rg.blk_cells (alloc_at _ _)]; rfl)).mono ?_
  rintro e w1 ⟨rfl, rfl⟩
  go_wp2
  go_ret
  exact ⟨rfl, FI.out _⟩
set_option maxHeartbeats 4000000 in
set_option maxRecDepth 100000 in
theorem built_any (s : ByteArray) (w : World) : Calls Tryz.prog 132 #[.string s] w fun e w' => e = .returned (.bool (built s.data.toList)) ∧ Gr w w' := by
  have H := fun w => folds_any s w
  have HB : Hid (built s.data.toList = (folds s.data.toList || s.toList == [108, 101, 110, 103, 116, 104] || s.toList == [99, 111, 97, 108, 101, 115, 99, 101])) := hid (by unfold built; rw [ByteArray.toList_eq])
  rw [HB.out]
  clear HB
  generalize folds s.data.toList = f at *
  generalize hl : (s.toList == [108, 101, 110, 103, 116, 104]) = l at *
  generalize hc : (s.toList == [99, 111, 97, 108, 101, 115, 99, 101]) = c at *
  cases f with
  | true =>
    go_enter Tryz.func132, Tryz.ntmps132
    go_wp2_with fail
    refine (H _).mono ?_
    rintro e w1 ⟨rfl, hg⟩
    go_wp2
    first
    | exact ⟨rfl, hg⟩
    | (go_ret; exact ⟨rfl, hg⟩)
  | false =>
    cases l with
    | true =>
      go_enter Tryz.func132, Tryz.ntmps132
      go_wp2_with fail
      refine (H _).mono ?_
      rintro e w1 ⟨rfl, hg⟩
      go_wp2
      first
      | exact ⟨rfl, hg⟩
      | (go_ret; exact ⟨rfl, hg⟩)
    | false =>
      go_enter Tryz.func132, Tryz.ntmps132
      go_wp2_with fail
      refine (H _).mono ?_
      rintro e w1 ⟨rfl, hg⟩
      go_wp2
      first
      | exact ⟨rfl, hg⟩
      | (go_ret; exact ⟨rfl, hg⟩)
end Go.Proofs.YtbeinfhgfflneaaGreat
end
section
namespace Go.Proofs.YtbeinfhgfflneaaGreat
open Go.RowKit
set_option linter.unusedSimpArgs false
set_option linter.unusedVariables false
attribute [local go_sem] Rg.leads_value Rg.leads_skip Rg.leads_enter Rg.brings_value Rg.brings_skip Rg.brings_enter Rg.bringsG_value Rg.bringsG_enter Rg.once_normal Rg.once_exit Rg.once_ret Rg.once_panic Rg.once_goto
set_option maxHeartbeats 4000000 in
set_option maxRecDepth 100000 in
theorem up_dfr_raw (p : Nat) (l : List Lx.Tok) (d e a : Int) (w : World) (u : FrameMode) (h : PR p w l d e a) : CallsD Tryz.prog 90 #[.pointer (some ⟨p, 0, none⟩)] u w fun x u' w' => u' = u ∧ (x = .returned (.tuple #[]) ∧ w' = w.setCell ⟨p, 1, none⟩ (.int .i64 (wrap64 (d - 1)))) := by
  obtain ⟨oa, cap, hh, hc, hat, hne⟩ := h.ex
  have r1 := Rg.blk_cells hh 1
  have f1 := Rg.blk_free hh 1
  simp only [List.getElem?_toArray, List.getElem?_cons_zero, List.getElem?_cons_succ] at r1
  clear h hat hne hh
  go_enter_d Tryz.func90, Tryz.ntmps90
  go_wp2
  go_end0
  exact ⟨rfl, rfl⟩
theorem up_dfr (p : Nat) (s : Ps) (w : World) (u : FrameMode) (h : PS p w s) (hd : ∀ l d, s = .ok l d → 1 ≤ d) : CallsD Tryz.prog 90 #[.pointer (some ⟨p, 0, none⟩)] u w fun x u' w' => u' = u ∧ x = .returned (.tuple #[]) ∧ PS p w' s.up ∧ Go1 p w w' := by
  match s, h with
  | .bad e a, h =>
    obtain ⟨he, l, d, h⟩ := h
    exact (up_dfr_raw p l d e a w u h).mono fun x u' w' ⟨h0, h1, h2⟩ => ⟨h0, h1, by rw [h2]; exact ⟨he, l, _, h.deep _⟩, by rw [h2]; exact .set _ _ _ _⟩
  | .ok l d, h =>
    have hd := hd l d rfl
    refine (up_dfr_raw p l d 0 0 w u h.2).mono fun x u' w' ⟨h0, h1, h2⟩ => ⟨h0, h1, ?_, by rw [h2]; exact .set _ _ _ _⟩
    rw [h2, show wrap64 ((d : Int) - 1) = ((d - 1 : Nat) : Int) by have := h.1; unfold wrap64; omega]
    exact ⟨by have := h.1; omega, h.2.deep _⟩
set_option maxHeartbeats 8000000 in
set_option maxRecDepth 100000 in
theorem call_full (E : Pa Ex) (p : Nat) (nm : List UInt8) (s : Ps) (w : World) (hS : PS p w s) (hgood : s.good = true) (hD : s.down.good = false) : Calls Tryz.prog 134 #[.pointer (some ⟨p, 0, none⟩), .string (txt nm)] w (Px p w (callS E nm s)) := by
  have hpw := hS.lt
  have hG := fun o => (Gr.refl w).alloc o
  have hS0 := fun o => hS.keep (hG o)
  have eR : callS E nm s = (noEx, s.down) := by
    unfold callS; rw [hD]; rfl
  rw [eR]
  clear eR
  have hfo := fun w => folds_any (txt nm) w
  rw [txt_list] at hfo
  go_enter_defers Tryz.func134, Tryz.ntmps134
  go_wp2_with fail
  refine (hfo _).mono ?_
  rintro e w1 ⟨rfl, hg1⟩
  have hps1 := (hS0 _).keep hg1
  go_wp2_with fail
  refine (down_any p s _ hps1 hgood).mono ?_
  rintro e w2 ⟨rfl, hps2, hg2⟩
  rw [hD]
  have z1 := hg1.size
  have z2 := hg2.size
  simp only [World.size_alloc] at z1
  have h02 : w2.heap[w.heap.size]? = some (.cells zeroX 26 (0, 0)) := by
    rw [hg2.get (by omega) (by omega), hg1.block _ (by simp)]; exact alloc_at _ _
  have hgo2 : Go1 p w w2 := ((Go1.of (hG _)).trans (.of hg1)).trans hg2
  clear hg1 hg2 hps1 hS0 hG hS
  have FI : Hid (∀ W5, Go1 w.heap.size w2 W5 → Rx p w (noEx, s.down) (XR.val ⟨{ op := 0 }, none, 0, 0⟩) W5) := hid (fun W5 h5 => giveG hpw rfl (formZ (S := fun b => w.heap.size ≤ b ∧ b ≠ w.heap.size)) hps2 hgo2 (fun _ => rfl) h5)
  have H05 := hid h02
  clear hps2 hgo2 h02
  go_wp2_with (guard_target =~ wpList _ _ _ (Oper.mk _ (Op.store 26 _ _) _ _ _ _ :: _) _ _; refine st_row (ty := 26) rfl rfl w.heap.size _ rfl rfl 26 _ (H05.out) (by kernel_rfl) rfl (by kernel_rfl) ?_; intro W5 hW5 gW5 zW5)
  (try simp only [Exit.inBlock, Exit.then])
  have hT := Rg.blk_cells hW5
  exact ⟨XR.val ⟨{ op := 0 }, none, 0, 0⟩, by simp [results, Tryz.results134, go_sem, XR.val, nul, hT]; try rfl, _, rfl, FI.out W5 gW5⟩
set_option maxHeartbeats 8000000 in
set_option maxRecDepth 100000 in
theorem call_star (E : Pa Ex) (p : Nat) (nm : List UInt8) (s : Ps) (w : World) (hS : PS p w s) (hgood : s.good = true) (hK : s.headK = 1) (hD : s.down.good = true) (hc : (nm == (⟨#[99, 111, 117, 110, 116]⟩ : ByteArray).data.toList) = true) (hst : (s.down.step.need 4 ⟨#[40]⟩).is 4 ⟨#[42]⟩ = true) : Calls Tryz.prog 134 #[.pointer (some ⟨p, 0, none⟩), .string (txt nm)] w (Px p w (callS E nm s)) := by
  have hpw := hS.lt
  have hG := fun o => (Gr.refl w).alloc o
  have hS0 := fun o => hS.keep (hG o)
  have eR : callS E nm s = (.mk { op := 4, name := txt nm, st := true } [], ((s.down.step.need 4 ⟨#[40]⟩).step.need 4 ⟨#[41]⟩).up) := by
    unfold callS; simp only [hD, hc, hst, if_true, Bool.and_self]
  rw [eR]
  clear eR
  have hup : Hid (∀ l d, (s.down.step.need 4 ⟨#[40]⟩).step.need 4 ⟨#[41]⟩ = .ok l d → 1 ≤ d) := hid (down_deep hD (As.trans (as_need _ _ _) (As.trans (as_step _) (As.trans (as_need _ _ _) (as_step s.down))))).1
  have HS1 := hid hst
  obtain ⟨s1, hs1⟩ : ∃ s1, s.down.step.need 4 ⟨#[40]⟩ = s1 := ⟨_, rfl⟩
  rw [hs1] at HS1 hup
  rw [hs1]
  have hfo := fun w => folds_any (txt nm) w
  rw [txt_list] at hfo
  go_enter_defers Tryz.func134, Tryz.ntmps134
  go_wp2_with fail
  refine (hfo _).mono ?_
  rintro e w1 ⟨rfl, hg1⟩
  have hps1 := (hS0 _).keep hg1
  go_wp2_with fail
  refine (down_any p s _ hps1 hgood).mono ?_
  rintro e w2 ⟨rfl, hps2, hg2⟩
  rw [hD]
  have z1 := hg1.size
  have z2 := hg2.size
  simp only [World.size_alloc] at z1
  have h02 : w2.heap[w.heap.size]? = some (.cells zeroX 26 (0, 0)) := by
    rw [hg2.get (by omega) (by omega), hg1.block _ (by simp)]; exact alloc_at _ _
  have hgo2 : Go1 p w w2 := ((Go1.of (hG _)).trans (.of hg1)).trans hg2
  clear hg1 hg2 hps1 hS0 hG hS
  obtain ⟨d1, d2, d3, d4⟩ := down_good hD
  have hk5 : s.down.headK ≠ 5 := by rw [d3]; omega
  go_wp2_with fail
  refine (step_any p s.down _ hps2 hk5 hD).mono ?_
  rintro e w3 ⟨rfl, hps3, hg3⟩
  go_wp2_with fail
  refine (must_any p ⟨#[40]⟩ _ _ hps3).mono ?_
  rintro e w4 ⟨rfl, hps4, hg4⟩
  have hgo4 := (hgo2.trans hg3).trans hg4
  have h04 : w4.heap[w.heap.size]? = some (.cells zeroX 26 (0, 0)) := by
    rw [hg4.get (by have := hg3.size; omega) (by omega), hg3.get (by omega) (by omega)]; exact h02
  have z4 := (hg3.trans hg4).size
  clear hps2 hps3 hg3 hg4 hgo2 h02
  rw [hs1] at hps4
  have tc : ((txt nm).toList == [99, 111, 117, 110, 116]) = true := by rw [ByteArray.toList_eq, txt_list]; exact hc
  generalize txt nm = tn at *
  clear hst hc
  go_wp2_with fail
  refine (sign_any' p ⟨#[42]⟩ s1 _ hps4).mono ?_
  rintro e w5 ⟨rfl, hps5, hg5⟩
  rw [HS1.out]
  rw [show (s1.may 4 ⟨#[42]⟩).2 = s1.step by simp [Ps.may, HS1.out]] at hps5
  go_wp2_with fail
  refine (must_any p ⟨#[41]⟩ _ _ hps5).mono ?_
  rintro e w6 ⟨rfl, hps6, hg6⟩
  have HGO := hid ((hgo4.trans hg5).trans hg6)
  have H06 : Hid (w6.heap[w.heap.size]? = some (.cells zeroX 26 (0, 0))) := hid (by
    rw [hg6.get (by have := hg5.size; omega) (by omega), hg5.get (by omega) (by omega)]; exact h04)
  have HZ : Hid (w.heap.size < w6.heap.size) := hid (Array.getElem?_eq_some_iff.1 H06.out).1
  have HPS := hid hps6
  clear hps4 hps5 hps6 hg5 hg6 hgo4 h04
  have FI : Hid (∀ W5 w9, Go1 w.heap.size w6 W5 → Go1 p W5 w9 → PS p w9 (Ps.up (s1.step.need 4 ⟨#[41]⟩)) → Rx p w (.mk { op := 4, name := tn, st := true } [], (s1.step.need 4 ⟨#[41]⟩).up) (XR.val ⟨{ op := 4, name := tn, st := true }, none, 0, 0⟩) w9) := hid (fun W5 w9 h5 h9 hp9 => by
    refine ⟨⟨{ op := 4, name := tn, st := true }, none, 0, 0⟩, .mk { op := 4, name := tn, st := true } [], rfl, ?_, hp9, (HGO.out.own h5 (by omega)).trans h9, fun _ => rfl⟩
    refine ((formZ (S := fun b => w.heap.size ≤ b ∧ b ≠ w.heap.size)).of h9.size (fun b hb hl => h9.get hl (by have := hb.1; omega))).mono (fun b _ hb => hb.1))
  have HPD : Hid (∀ W5, Go1 w.heap.size w6 W5 → PS p W5 (s1.step.need 4 ⟨#[41]⟩)) := hid (fun W5 h5 => HPS.out.go h5 (by omega))
  go_wp2_with (guard_target =~ wpList _ _ _ (Oper.mk _ (Op.store 26 _ _) _ _ _ _ :: _) _ _; refine st_row (ty := 26) rfl rfl w.heap.size _ rfl rfl 26 _ (H06.out) (by kernel_rfl) rfl (by kernel_rfl) ?_; intro W5 hW5 gW5 zW5)
  (try simp only [Exit.inBlock, Exit.then])
  have hp5 : PS p W5 (s1.step.need 4 ⟨#[41]⟩) := HPD.out W5 gW5
  refine leaves_cons (f := 90) (args := #[.pointer (some ⟨p, 0, none⟩)]) (by simp) (by simp [go_sem]) ?_
  refine (up_dfr p (s1.step.need 4 ⟨#[41]⟩) W5 .returning hp5 hup.out).mono ?_
  rintro e u' w9 ⟨rfl, rfl, hps9, hg9⟩
  have hT : ∀ i, w9.cell? ⟨w.heap.size, i, none⟩ = _ := fun i => (hg9.cell (by rw [zW5]; exact HZ.out) (by omega)).trans (Rg.blk_cells hW5 i)
  exact ⟨XR.val ⟨{ op := 4, name := tn, st := true }, none, 0, 0⟩, by simp [results, Tryz.results134, go_sem, XR.val, nul, hT]; try rfl, _, rfl, FI.out W5 w9 gW5 hg9 hps9⟩
set_option maxHeartbeats 8000000 in
set_option maxRecDepth 100000 in
theorem call_agg_count (E : Pa Ex) (p : Nat) (nm : List UInt8) (s : Ps) (w : World) (hS : PS p w s) (hgood : s.good = true) (hK : s.headK = 1) (hD : s.down.good = true) (hf : folds nm = true) (hc : (nm == (⟨#[99, 111, 117, 110, 116]⟩ : ByteArray).data.toList) = true) (hst : (s.down.step.need 4 ⟨#[40]⟩).is 4 ⟨#[42]⟩ = false) (hdp : DP E) (hq : ∀ w', PS p w' (s.down.step.need 4 ⟨#[40]⟩) → Calls Tryz.prog 21 #[.pointer (some ⟨p, 0, none⟩)] w' (Px p w' (E (s.down.step.need 4 ⟨#[40]⟩)))) : Calls Tryz.prog 134 #[.pointer (some ⟨p, 0, none⟩), .string (txt nm)] w (Px p w (callS E nm s)) := by
  have hpw := hS.lt
  have hG := fun o => (Gr.refl w).alloc o
  have hS0 := fun o => hS.keep (hG o)
  have eR : callS E nm s = (.mk { op := 4, name := txt nm } [(E (s.down.step.need 4 ⟨#[40]⟩)).1], ((E (s.down.step.need 4 ⟨#[40]⟩)).2.need 4 ⟨#[41]⟩).up) := by
    unfold callS; simp only [hD, hc, hst, hf, if_true, if_false, Bool.and_false, Bool.false_and, Bool.false_eq_true]
  rw [eR]
  clear eR
  have hup : Hid (∀ l d, (E (s.down.step.need 4 ⟨#[40]⟩)).2.need 4 ⟨#[41]⟩ = .ok l d → 1 ≤ d) := hid (down_deep hD (As.trans (as_need _ _ _) (As.trans (hdp _) (As.trans (as_need _ _ _) (as_step s.down))))).1
  have HS1 := hid hst
  obtain ⟨s1, hs1⟩ : ∃ s1, s.down.step.need 4 ⟨#[40]⟩ = s1 := ⟨_, rfl⟩
  rw [hs1] at HS1 hup hq
  rw [hs1]
  generalize hQ : E s1 = Q at *
  have hfo := fun w => folds_any (txt nm) w
  rw [txt_list, hf] at hfo
  go_enter_defers Tryz.func134, Tryz.ntmps134
  go_wp2_with fail
  refine (hfo _).mono ?_
  rintro e w1 ⟨rfl, hg1⟩
  have hps1 := (hS0 _).keep hg1
  go_wp2_with fail
  refine (down_any p s _ hps1 hgood).mono ?_
  rintro e w2 ⟨rfl, hps2, hg2⟩
  rw [hD]
  have z1 := hg1.size
  have z2 := hg2.size
  simp only [World.size_alloc] at z1
  have h02 : w2.heap[w.heap.size]? = some (.cells zeroX 26 (0, 0)) := by
    rw [hg2.get (by omega) (by omega), hg1.block _ (by simp)]; exact alloc_at _ _
  have hgo2 : Go1 p w w2 := ((Go1.of (hG _)).trans (.of hg1)).trans hg2
  clear hg1 hg2 hps1 hS0 hG hS
  obtain ⟨d1, d2, d3, d4⟩ := down_good hD
  have hk5 : s.down.headK ≠ 5 := by rw [d3]; omega
  go_wp2_with fail
  refine (step_any p s.down _ hps2 hk5 hD).mono ?_
  rintro e w3 ⟨rfl, hps3, hg3⟩
  go_wp2_with fail
  refine (must_any p ⟨#[40]⟩ _ _ hps3).mono ?_
  rintro e w4 ⟨rfl, hps4, hg4⟩
  have hgo4 := (hgo2.trans hg3).trans hg4
  have h04 : w4.heap[w.heap.size]? = some (.cells zeroX 26 (0, 0)) := by
    rw [hg4.get (by have := hg3.size; omega) (by omega), hg3.get (by omega) (by omega)]; exact h02
  have z4 := (hg3.trans hg4).size
  clear hps2 hps3 hg3 hg4 hgo2 h02
  rw [hs1] at hps4
  have tc : ((txt nm).toList == [99, 111, 117, 110, 116]) = true := by rw [ByteArray.toList_eq, txt_list]; exact hc
  generalize txt nm = tn at *
  clear hc hst
  go_wp2_with fail
  refine (sign_any' p ⟨#[42]⟩ s1 _ hps4).mono ?_
  rintro e w5 ⟨rfl, hps5, hg5⟩
  rw [HS1.out]
  rw [show (s1.may 4 ⟨#[42]⟩).2 = s1 by simp [Ps.may, HS1.out]] at hps5
  have h05 : w5.heap[w.heap.size]? = some (.cells zeroX 26 (0, 0)) := by
    rw [hg5.get (by omega) (by omega)]; exact h04
  have hgo5 := hgo4.trans hg5
  have z5 := hgo5.size
  have hl5 : w.heap.size < w5.heap.size := (Array.getElem?_eq_some_iff.1 h05).1
  go_wp2_with fail
  refine (hq _ hps5).mono ?_
  rintro e w6 ⟨u, rfl, r, x, rfl, hx, hps6, hg6, hgd⟩
  unfold XR.val
  have hA6 := fun o => (Gr.refl w6).alloc o
  have hps7 := fun o => hps6.keep (hA6 o)
  have z6 := hg6.size
  go_wp2_with fail
  refine (must_any p ⟨#[41]⟩ _ _ (hps7 _)).mono ?_
  rintro e w8 ⟨rfl, hps8, hg8⟩
  have z8 := hg8.size
  simp only [World.size_alloc] at z8
  have hp6 := hps6.lt
  have hr8 : w8.heap[w6.heap.size]? = some (.cells r.cells 26 (0, 0)) := by
    rw [hg8.get (by simp) (by omega)]; exact alloc_at _ _
  have h08 : w8.heap[w.heap.size]? = some (.cells zeroX 26 (0, 0)) := by
    rw [hg8.get (by simp; omega) (by omega), (hA6 _).block _ (by omega), hg6.get hl5 (by omega)]; exact h05
  have hx8 : Ex.At (fun b => w.heap.size ≤ b ∧ b ≠ w.heap.size) w8 x r := by
    refine ((hx.of (by simp) (fun b hb hl => (hA6 (.cells r.cells 26)).block b hl)).of hg8.size (fun b hb hl => hg8.get hl (by have : w5.heap.size ≤ b := hb; omega))).mono (fun b _ hb => by have : w5.heap.size ≤ b := hb; exact ⟨by omega, by omega⟩)
  have hgo8 : Go1 p w w8 := ((hgo5.trans hg6).block2 (hA6 _)).trans hg8
  have cE := Rg.blk_cells hr8
  simp only [XR.cells] at cE
  have hl8 : w.heap.size < w8.heap.size := (Array.getElem?_eq_some_iff.1 h08).1
  have hA8 := fun o => (Gr.refl w8).alloc o
  have H06 : Hid (∀ o, (w8.alloc o).heap[w.heap.size]? = some (.cells zeroX 26 (0, 0))) := hid (fun o => by rw [(hA8 o).block _ hl8]; exact h08)
  have HZ : Hid (w.heap.size < (w8.alloc (.cells r.cells 26)).heap.size) := hid (by simp; omega)
  have HPS := hid (hps8.keep (hA8 (.cells r.cells 26)))
  have HGO := hid (hgo8.block2 (hA8 (.cells r.cells 26)))
  have HX8 := hid ((hx8.of (hA8 (.cells r.cells 26)).size (fun b hb hl => (hA8 _).block b hl)))
  have HGD : Hid (((Q.2.need 4 ⟨#[41]⟩).up).good = true → x = Q.1) := hid (fun h => hgd (need_good (up_good h)))
  clear hps4 hps5 hps6 hps7 hps8 hg6 hg8 hgo4 hgo5 hgo8 h04 h05 h08 hx hx8 hr8 hgd hq hA6 hA8 hg5
  have FI : Hid (∀ W5 w9, Go1 w.heap.size (w8.alloc (.cells r.cells 26)) W5 → Go1 p W5 w9 → PS p w9 (Ps.up (Q.2.need 4 ⟨#[41]⟩)) → Rx p w (.mk { op := 4, name := tn } [Q.1], (Q.2.need 4 ⟨#[41]⟩).up) (XR.val ⟨{ op := 4, name := tn }, some ⟨w8.heap.size, 0, none⟩, 1, 1⟩) w9) := hid (fun W5 w9 h5 h9 hp9 => by
    refine ⟨⟨{ op := 4, name := tn }, some ⟨w8.heap.size, 0, none⟩, 1, 1⟩, .mk { op := 4, name := tn } [x], rfl, ?_, hp9, (HGO.out.own h5 (by omega)).trans h9, fun h => by rw [HGD.out h]⟩
    refine (((formN (S := fun b => w.heap.size ≤ b ∧ b ≠ w.heap.size) (rs := [r]) ⟨by omega, by omega⟩ (alloc_at w8 (.cells r.cells 26)) (by simp [cellsF, xF]) (Exs.At.cons HX8.out Exs.At.nil) (fit_le 1 (by decide))).of h5.size (fun b hb hl => h5.get hl hb.2)).of h9.size (fun b hb hl => h9.get hl (by have := hb.1; omega))).mono (fun b _ hb => hb.1))
  have HPD : Hid (∀ W5, Go1 w.heap.size (w8.alloc (.cells r.cells 26)) W5 → PS p W5 (Q.2.need 4 ⟨#[41]⟩)) := hid (fun W5 h5 => HPS.out.go h5 (by omega))
  go_wp2_with (guard_target =~ wpList _ _ _ (Oper.mk _ (Op.store 26 _ _) _ _ _ _ :: _) _ _; refine st_row (ty := 26) rfl rfl w.heap.size _ rfl rfl 26 _ (H06.out _) (by kernel_rfl) rfl (by kernel_rfl) ?_; intro W5 hW5 gW5 zW5)
  (try simp only [Exit.inBlock, Exit.then])
  have hp5 : PS p W5 (Q.2.need 4 ⟨#[41]⟩) := HPD.out W5 gW5
  refine leaves_cons (f := 90) (args := #[.pointer (some ⟨p, 0, none⟩)]) (by simp) (by simp [go_sem]) ?_
  refine (up_dfr p (Q.2.need 4 ⟨#[41]⟩) W5 .returning hp5 hup.out).mono ?_
  rintro e u' w9 ⟨rfl, rfl, hps9, hg9⟩
  have hT : ∀ i, w9.cell? ⟨w.heap.size, i, none⟩ = _ := fun i => (hg9.cell (by rw [zW5]; exact HZ.out) (by omega)).trans (Rg.blk_cells hW5 i)
  exact ⟨XR.val ⟨{ op := 4, name := tn }, some ⟨w8.heap.size, 0, none⟩, 1, 1⟩, by simp [results, Tryz.results134, go_sem, XR.val, nul, hT]; try rfl, _, rfl, FI.out W5 w9 gW5 hg9 hps9⟩
set_option maxHeartbeats 8000000 in
set_option maxRecDepth 100000 in
theorem call_agg_other (E : Pa Ex) (p : Nat) (nm : List UInt8) (s : Ps) (w : World) (hS : PS p w s) (hgood : s.good = true) (hK : s.headK = 1) (hD : s.down.good = true) (hf : folds nm = true) (hc : (nm == (⟨#[99, 111, 117, 110, 116]⟩ : ByteArray).data.toList) = false) (hdp : DP E) (hq : ∀ w', PS p w' (s.down.step.need 4 ⟨#[40]⟩) → Calls Tryz.prog 21 #[.pointer (some ⟨p, 0, none⟩)] w' (Px p w' (E (s.down.step.need 4 ⟨#[40]⟩)))) : Calls Tryz.prog 134 #[.pointer (some ⟨p, 0, none⟩), .string (txt nm)] w (Px p w (callS E nm s)) := by
  have hpw := hS.lt
  have hG := fun o => (Gr.refl w).alloc o
  have hS0 := fun o => hS.keep (hG o)
  have eR : callS E nm s = (.mk { op := 4, name := txt nm } [(E (s.down.step.need 4 ⟨#[40]⟩)).1], ((E (s.down.step.need 4 ⟨#[40]⟩)).2.need 4 ⟨#[41]⟩).up) := by
    unfold callS; simp only [hD, hc, hf, if_true, if_false, Bool.and_false, Bool.false_and, Bool.false_eq_true]
  rw [eR]
  clear eR
  have hup : Hid (∀ l d, (E (s.down.step.need 4 ⟨#[40]⟩)).2.need 4 ⟨#[41]⟩ = .ok l d → 1 ≤ d) := hid (down_deep hD (As.trans (as_need _ _ _) (As.trans (hdp _) (As.trans (as_need _ _ _) (as_step s.down))))).1
  obtain ⟨s1, hs1⟩ : ∃ s1, s.down.step.need 4 ⟨#[40]⟩ = s1 := ⟨_, rfl⟩
  rw [hs1] at hup hq
  rw [hs1]
  generalize hQ : E s1 = Q at *
  have hfo := fun w => folds_any (txt nm) w
  rw [txt_list, hf] at hfo
  go_enter_defers Tryz.func134, Tryz.ntmps134
  go_wp2_with fail
  refine (hfo _).mono ?_
  rintro e w1 ⟨rfl, hg1⟩
  have hps1 := (hS0 _).keep hg1
  go_wp2_with fail
  refine (down_any p s _ hps1 hgood).mono ?_
  rintro e w2 ⟨rfl, hps2, hg2⟩
  rw [hD]
  have z1 := hg1.size
  have z2 := hg2.size
  simp only [World.size_alloc] at z1
  have h02 : w2.heap[w.heap.size]? = some (.cells zeroX 26 (0, 0)) := by
    rw [hg2.get (by omega) (by omega), hg1.block _ (by simp)]; exact alloc_at _ _
  have hgo2 : Go1 p w w2 := ((Go1.of (hG _)).trans (.of hg1)).trans hg2
  clear hg1 hg2 hps1 hS0 hG hS
  obtain ⟨d1, d2, d3, d4⟩ := down_good hD
  have hk5 : s.down.headK ≠ 5 := by rw [d3]; omega
  go_wp2_with fail
  refine (step_any p s.down _ hps2 hk5 hD).mono ?_
  rintro e w3 ⟨rfl, hps3, hg3⟩
  go_wp2_with fail
  refine (must_any p ⟨#[40]⟩ _ _ hps3).mono ?_
  rintro e w4 ⟨rfl, hps4, hg4⟩
  have hgo4 := (hgo2.trans hg3).trans hg4
  have h04 : w4.heap[w.heap.size]? = some (.cells zeroX 26 (0, 0)) := by
    rw [hg4.get (by have := hg3.size; omega) (by omega), hg3.get (by omega) (by omega)]; exact h02
  have z4 := (hg3.trans hg4).size
  clear hps2 hps3 hg3 hg4 hgo2 h02
  rw [hs1] at hps4
  have tc : ((txt nm).toList == [99, 111, 117, 110, 116]) = false := by rw [ByteArray.toList_eq, txt_list]; exact hc
  generalize txt nm = tn at *
  clear hc
  have hps5 := hps4
  have h05 := h04
  have hgo5 := hgo4
  have z5 := hgo5.size
  have hl5 : w.heap.size < w4.heap.size := (Array.getElem?_eq_some_iff.1 h05).1
  go_wp2_with fail
  refine (hq _ hps5).mono ?_
  rintro e w6 ⟨u, rfl, r, x, rfl, hx, hps6, hg6, hgd⟩
  unfold XR.val
  have hA6 := fun o => (Gr.refl w6).alloc o
  have hps7 := fun o => hps6.keep (hA6 o)
  have z6 := hg6.size
  go_wp2_with fail
  refine (must_any p ⟨#[41]⟩ _ _ (hps7 _)).mono ?_
  rintro e w8 ⟨rfl, hps8, hg8⟩
  have z8 := hg8.size
  simp only [World.size_alloc] at z8
  have hp6 := hps6.lt
  have hr8 : w8.heap[w6.heap.size]? = some (.cells r.cells 26 (0, 0)) := by
    rw [hg8.get (by simp) (by omega)]; exact alloc_at _ _
  have h08 : w8.heap[w.heap.size]? = some (.cells zeroX 26 (0, 0)) := by
    rw [hg8.get (by simp; omega) (by omega), (hA6 _).block _ (by omega), hg6.get hl5 (by omega)]; exact h05
  have hx8 : Ex.At (fun b => w.heap.size ≤ b ∧ b ≠ w.heap.size) w8 x r := by
    refine ((hx.of (by simp) (fun b hb hl => (hA6 (.cells r.cells 26)).block b hl)).of hg8.size (fun b hb hl => hg8.get hl (by have : w4.heap.size ≤ b := hb; omega))).mono (fun b _ hb => by have : w4.heap.size ≤ b := hb; exact ⟨by omega, by omega⟩)
  have hgo8 : Go1 p w w8 := ((hgo5.trans hg6).block2 (hA6 _)).trans hg8
  have cE := Rg.blk_cells hr8
  simp only [XR.cells] at cE
  have hl8 : w.heap.size < w8.heap.size := (Array.getElem?_eq_some_iff.1 h08).1
  have hA8 := fun o => (Gr.refl w8).alloc o
  have H06 : Hid (∀ o, (w8.alloc o).heap[w.heap.size]? = some (.cells zeroX 26 (0, 0))) := hid (fun o => by rw [(hA8 o).block _ hl8]; exact h08)
  have HZ : Hid (w.heap.size < (w8.alloc (.cells r.cells 26)).heap.size) := hid (by simp; omega)
  have HPS := hid (hps8.keep (hA8 (.cells r.cells 26)))
  have HGO := hid (hgo8.block2 (hA8 (.cells r.cells 26)))
  have HX8 := hid ((hx8.of (hA8 (.cells r.cells 26)).size (fun b hb hl => (hA8 _).block b hl)))
  have HGD : Hid (((Q.2.need 4 ⟨#[41]⟩).up).good = true → x = Q.1) := hid (fun h => hgd (need_good (up_good h)))
  clear hps4 hps5 hps6 hps7 hps8 hg6 hg8 hgo4 hgo5 hgo8 h04 h05 h08 hx hx8 hr8 hgd hq hA6 hA8
  have FI : Hid (∀ W5 w9, Go1 w.heap.size (w8.alloc (.cells r.cells 26)) W5 → Go1 p W5 w9 → PS p w9 (Ps.up (Q.2.need 4 ⟨#[41]⟩)) → Rx p w (.mk { op := 4, name := tn } [Q.1], (Q.2.need 4 ⟨#[41]⟩).up) (XR.val ⟨{ op := 4, name := tn }, some ⟨w8.heap.size, 0, none⟩, 1, 1⟩) w9) := hid (fun W5 w9 h5 h9 hp9 => by
    refine ⟨⟨{ op := 4, name := tn }, some ⟨w8.heap.size, 0, none⟩, 1, 1⟩, .mk { op := 4, name := tn } [x], rfl, ?_, hp9, (HGO.out.own h5 (by omega)).trans h9, fun h => by rw [HGD.out h]⟩
    refine (((formN (S := fun b => w.heap.size ≤ b ∧ b ≠ w.heap.size) (rs := [r]) ⟨by omega, by omega⟩ (alloc_at w8 (.cells r.cells 26)) (by simp [cellsF, xF]) (Exs.At.cons HX8.out Exs.At.nil) (fit_le 1 (by decide))).of h5.size (fun b hb hl => h5.get hl hb.2)).of h9.size (fun b hb hl => h9.get hl (by have := hb.1; omega))).mono (fun b _ hb => hb.1))
  have HPD : Hid (∀ W5, Go1 w.heap.size (w8.alloc (.cells r.cells 26)) W5 → PS p W5 (Q.2.need 4 ⟨#[41]⟩)) := hid (fun W5 h5 => HPS.out.go h5 (by omega))
  go_wp2_with (guard_target =~ wpList _ _ _ (Oper.mk _ (Op.store 26 _ _) _ _ _ _ :: _) _ _; refine st_row (ty := 26) rfl rfl w.heap.size _ rfl rfl 26 _ (H06.out _) (by kernel_rfl) rfl (by kernel_rfl) ?_; intro W5 hW5 gW5 zW5)
  (try simp only [Exit.inBlock, Exit.then])
  have hp5 : PS p W5 (Q.2.need 4 ⟨#[41]⟩) := HPD.out W5 gW5
  refine leaves_cons (f := 90) (args := #[.pointer (some ⟨p, 0, none⟩)]) (by simp) (by simp [go_sem]) ?_
  refine (up_dfr p (Q.2.need 4 ⟨#[41]⟩) W5 .returning hp5 hup.out).mono ?_
  rintro e u' w9 ⟨rfl, rfl, hps9, hg9⟩
  have hT : ∀ i, w9.cell? ⟨w.heap.size, i, none⟩ = _ := fun i => (hg9.cell (by rw [zW5]; exact HZ.out) (by omega)).trans (Rg.blk_cells hW5 i)
  exact ⟨XR.val ⟨{ op := 4, name := tn }, some ⟨w8.heap.size, 0, none⟩, 1, 1⟩, by simp [results, Tryz.results134, go_sem, XR.val, nul, hT]; try rfl, _, rfl, FI.out W5 w9 gW5 hg9 hps9⟩
set_option maxHeartbeats 8000000 in
set_option maxRecDepth 100000 in
theorem call_call (E : Pa Ex) (p : Nat) (nm : List UInt8) (s : Ps) (w : World) (hS : PS p w s) (hgood : s.good = true) (hK : s.headK = 1) (hD : s.down.good = true) (hf : folds nm = false) (hc : (nm == (⟨#[99, 111, 117, 110, 116]⟩ : ByteArray).data.toList) = false) (hdp : DP E) (hq : ∀ w', PS p w' (s.down.step.need 4 ⟨#[40]⟩) → Calls Tryz.prog 122 #[.pointer (some ⟨p, 0, none⟩)] w' (Pxs p w' (sep E (s.down.step.need 4 ⟨#[40]⟩)))) : Calls Tryz.prog 134 #[.pointer (some ⟨p, 0, none⟩), .string (txt nm)] w (Px p w (callS E nm s)) := by
  have hpw := hS.lt
  have hG := fun o => (Gr.refl w).alloc o
  have hS0 := fun o => hS.keep (hG o)
  have eR : callS E nm s = (.mk { op := 5, name := txt nm } (sep E (s.down.step.need 4 ⟨#[40]⟩)).1, ((sep E (s.down.step.need 4 ⟨#[40]⟩)).2.need 4 ⟨#[41]⟩).up) := by
    unfold callS; simp only [hD, hc, hf, if_true, if_false, Bool.false_and, Bool.false_eq_true]
  rw [eR]
  clear eR
  have hup : Hid (∀ l d, (sep E (s.down.step.need 4 ⟨#[40]⟩)).2.need 4 ⟨#[41]⟩ = .ok l d → 1 ≤ d) := hid (down_deep hD (As.trans (as_need _ _ _) (As.trans (dp_sep hdp _) (As.trans (as_need _ _ _) (as_step s.down))))).1
  obtain ⟨s1, hs1⟩ : ∃ s1, s.down.step.need 4 ⟨#[40]⟩ = s1 := ⟨_, rfl⟩
  rw [hs1] at hup hq
  rw [hs1]
  generalize hQ : sep E s1 = Q at *
  have hfo := fun w => folds_any (txt nm) w
  rw [txt_list, hf] at hfo
  go_enter_defers Tryz.func134, Tryz.ntmps134
  go_wp2_with fail
  refine (hfo _).mono ?_
  rintro e w1 ⟨rfl, hg1⟩
  have hps1 := (hS0 _).keep hg1
  go_wp2_with fail
  refine (down_any p s _ hps1 hgood).mono ?_
  rintro e w2 ⟨rfl, hps2, hg2⟩
  rw [hD]
  have z1 := hg1.size
  have z2 := hg2.size
  simp only [World.size_alloc] at z1
  have h02 : w2.heap[w.heap.size]? = some (.cells zeroX 26 (0, 0)) := by
    rw [hg2.get (by omega) (by omega), hg1.block _ (by simp)]; exact alloc_at _ _
  have hgo2 : Go1 p w w2 := ((Go1.of (hG _)).trans (.of hg1)).trans hg2
  clear hg1 hg2 hps1 hS0 hG hS
  obtain ⟨d1, d2, d3, d4⟩ := down_good hD
  have hk5 : s.down.headK ≠ 5 := by rw [d3]; omega
  go_wp2_with fail
  refine (step_any p s.down _ hps2 hk5 hD).mono ?_
  rintro e w3 ⟨rfl, hps3, hg3⟩
  go_wp2_with fail
  refine (must_any p ⟨#[40]⟩ _ _ hps3).mono ?_
  rintro e w4 ⟨rfl, hps4, hg4⟩
  have hgo4 := (hgo2.trans hg3).trans hg4
  have h04 : w4.heap[w.heap.size]? = some (.cells zeroX 26 (0, 0)) := by
    rw [hg4.get (by have := hg3.size; omega) (by omega), hg3.get (by omega) (by omega)]; exact h02
  have z4 := (hg3.trans hg4).size
  clear hps2 hps3 hg3 hg4 hgo2 h02
  rw [hs1] at hps4
  have tc : ((txt nm).toList == [99, 111, 117, 110, 116]) = false := by rw [ByteArray.toList_eq, txt_list]; exact hc
  generalize txt nm = tn at *
  clear hc
  have z5 := hgo4.size
  have hl5 : w.heap.size < w4.heap.size := (Array.getElem?_eq_some_iff.1 h04).1
  go_wp2_with fail
  refine (hq _ hps4).mono ?_
  rintro e w6 ⟨u, rfl, oa, n, cap, xs, rfl, hx, hps6, hg6, hlen, hnil, hgd⟩
  have z6 := hg6.size
  go_wp2_with fail
  refine (must_any p ⟨#[41]⟩ _ _ hps6).mono ?_
  rintro e w8 ⟨rfl, hps8, hg8⟩
  have z8 := hg8.size
  have hx8 : XsAt (fun b => w.heap.size ≤ b ∧ b ≠ w.heap.size) w8 xs oa n cap :=
    (hx.of hg8.size (fun b hb hl => hg8.get hl (by have : w4.heap.size ≤ b := hb; omega))).mono (fun b _ hb => by have : w4.heap.size ≤ b := hb; exact ⟨by omega, by omega⟩)
  have H06 : Hid (w8.heap[w.heap.size]? = some (.cells zeroX 26 (0, 0))) := hid (by
    rw [hg8.get (by omega) (by omega), hg6.get hl5 (by omega)]; exact h04)
  have HZ : Hid (w.heap.size < w8.heap.size) := hid (by omega)
  have HPS := hid hps8
  have HGO := hid ((hgo4.trans hg6).trans hg8)
  have HX8 := hid hx8
  have HGD : Hid (((Q.2.need 4 ⟨#[41]⟩).up).good = true → xs = Q.1) := hid (fun h => hgd (need_good (up_good h)))
  clear hps4 hps6 hps8 hg6 hg8 hgo4 h04 hx hx8 hgd hq hlen hnil
  have FI : Hid (∀ W5 w9, Go1 w.heap.size w8 W5 → Go1 p W5 w9 → PS p w9 (Ps.up (Q.2.need 4 ⟨#[41]⟩)) → Rx p w (.mk { op := 5, name := tn } Q.1, (Q.2.need 4 ⟨#[41]⟩).up) (XR.val ⟨{ op := 5, name := tn }, oa, n, cap⟩) w9) := hid (fun W5 w9 h5 h9 hp9 => by
    refine ⟨⟨{ op := 5, name := tn }, oa, n, cap⟩, .mk { op := 5, name := tn } xs, rfl, ?_, hp9, (HGO.out.own h5 (by omega)).trans h9, fun h => by rw [HGD.out h]⟩
    refine (((Ex.At.list.2 ⟨rfl, HX8.out⟩ : Ex.At (fun b => w.heap.size ≤ b ∧ b ≠ w.heap.size) w8 (.mk { op := 5, name := tn } xs) ⟨{ op := 5, name := tn }, oa, n, cap⟩).of h5.size (fun b hb hl => h5.get hl hb.2)).of h9.size (fun b hb hl => h9.get hl (by have := hb.1; omega))).mono (fun b _ hb => hb.1))
  have HPD : Hid (∀ W5, Go1 w.heap.size w8 W5 → PS p W5 (Q.2.need 4 ⟨#[41]⟩)) := hid (fun W5 h5 => HPS.out.go h5 (by omega))
  go_wp2_with (guard_target =~ wpList _ _ _ (Oper.mk _ (Op.store 26 _ _) _ _ _ _ :: _) _ _; refine st_row (ty := 26) rfl rfl w.heap.size _ rfl rfl 26 _ (H06.out) (by kernel_rfl) rfl (by kernel_rfl) ?_; intro W5 hW5 gW5 zW5)
  (try simp only [Exit.inBlock, Exit.then])
  have hp5 : PS p W5 (Q.2.need 4 ⟨#[41]⟩) := HPD.out W5 gW5
  refine leaves_cons (f := 90) (args := #[.pointer (some ⟨p, 0, none⟩)]) (by simp) (by simp [go_sem]) ?_
  refine (up_dfr p (Q.2.need 4 ⟨#[41]⟩) W5 .returning hp5 hup.out).mono ?_
  rintro e u' w9 ⟨rfl, rfl, hps9, hg9⟩
  have hT : ∀ i, w9.cell? ⟨w.heap.size, i, none⟩ = _ := fun i => (hg9.cell (by rw [zW5]; exact HZ.out) (by omega)).trans (Rg.blk_cells hW5 i)
  exact ⟨XR.val ⟨{ op := 5, name := tn }, oa, n, cap⟩, by simp [results, Tryz.results134, go_sem, XR.val, nul, hT]; try rfl, _, rfl, FI.out W5 w9 gW5 hg9 hps9⟩
theorem count_folds {nm : List UInt8} (h : (nm == (⟨#[99, 111, 117, 110, 116]⟩ : ByteArray).data.toList) = true) : folds nm = true := by unfold folds; rw [h]; rfl
theorem call_any (E : Pa Ex) (hdp : DP E) (p N : Nat) (hor : RdL 21 E p N) (hex : RdsL 122 (sep E) p N) (nm : List UInt8) (s : Ps) (w : World) (hS : PS p w s) (hgood : s.good = true) (hK : s.headK = 1) (hsN : s.size ≤ N) : Calls Tryz.prog 134 #[.pointer (some ⟨p, 0, none⟩), .string (txt nm)] w (Px p w (callS E nm s)) := by
  cases hD : s.down.good with
  | false => exact call_full E p nm s w hS hgood hD
  | true =>
    obtain ⟨d1, d2, d3, d4⟩ := down_good hD
    have h1 := (head_step (s := s.down) (k := 1) (by rw [d3]; exact hK) (by decide) (by decide)).1
    have h2 := size_need 4 ⟨#[40]⟩ s.down.step
    have hsz : (s.down.step.need 4 ⟨#[40]⟩).size < N := by omega
    cases hc : (nm == (⟨#[99, 111, 117, 110, 116]⟩ : ByteArray).data.toList) with
    | true =>
      cases hst : (s.down.step.need 4 ⟨#[40]⟩).is 4 ⟨#[42]⟩ with
      | true => exact call_star E p nm s w hS hgood hK hD hc hst
      | false => exact call_agg_count E p nm s w hS hgood hK hD (count_folds hc) hc hst hdp (fun w' h' => hor _ w' h' hsz)
    | false =>
      cases hf : folds nm with
      | true => exact call_agg_other E p nm s w hS hgood hK hD hf hc hdp (fun w' h' => hor _ w' h' hsz)
      | false => exact call_call E p nm s w hS hgood hK hD hf hc hdp (fun w' h' => hex _ w' h' hsz)
end Go.Proofs.YtbeinfhgfflneaaGreat
end
section
namespace Go.Proofs.YtbeinfhgfflneaaGreat
open Go.RowKit
set_option linter.unusedSimpArgs false
set_option linter.unusedVariables false
set_option maxHeartbeats 4000000 in
set_option maxRecDepth 100000 in
theorem may_no (p : Nat) (k : Nat) (c : ByteArray) (s : Ps) (w : World) (h : PS p w s) (hB : s.is k c = false) : Calls Tryz.prog 66 #[.pointer (some ⟨p, 0, none⟩), .int .i64 (k : Int), .string c] w fun e w' => e = .returned (.bool false) ∧ w' = w := by
  have H := is_any p k c s w h
  rw [hB] at H
  clear h hB
  go_enter Tryz.func66, Tryz.ntmps66
  go_wp2_with fail
  refine H.mono ?_
  rintro e w1 ⟨rfl, rfl⟩
  go_wp2
  go_ret
  exact ⟨rfl, rfl⟩
set_option maxHeartbeats 4000000 in
set_option maxRecDepth 100000 in
theorem word_no (p : Nat) (c : ByteArray) (s : Ps) (w : World) (h : PS p w s) (hB : s.is 1 c = false) : Calls Tryz.prog 35 #[.pointer (some ⟨p, 0, none⟩), .string c] w fun e w' => e = .returned (.bool false) ∧ w' = w := by
  have H : Calls Tryz.prog 66 #[.pointer (some ⟨p, 0, none⟩), .int .i64 1, .string c] w fun e w' => e = .returned (.bool false) ∧ w' = w := may_no p 1 c s w h hB
  clear h hB
  go_enter Tryz.func35, Tryz.ntmps35
  go_wp2_with fail
  refine H.mono ?_
  rintro e w1 ⟨rfl, rfl⟩
  go_wp2
  go_ret
  exact ⟨rfl, rfl⟩
end Go.Proofs.YtbeinfhgfflneaaGreat
end
section
namespace Go.Proofs.YtbeinfhgfflneaaGreat
open Go.RowKit
set_option linter.unusedSimpArgs false
set_option linter.unusedVariables false
attribute [local go_sem] Rg.leads_value Rg.leads_skip Rg.leads_enter Rg.brings_value Rg.brings_skip Rg.brings_enter Rg.bringsG_value Rg.bringsG_enter Rg.once_normal Rg.once_exit Rg.once_ret Rg.once_panic Rg.once_goto
set_option maxHeartbeats 8000000 in
set_option maxRecDepth 100000 in
theorem single_bad (E : Pa Ex) (p : Nat) (e : Int) (a : Nat) (w : World) (hS : PS p w (.bad e a)) : Calls Tryz.prog 130 #[.pointer (some ⟨p, 0, none⟩)] w (Px p w (single E (.bad e a))) := by
  have hpw := hS.lt
  have hS2 := hS
  obtain ⟨he, l, d, h⟩ := hS2
  obtain ⟨oa, cap, hh, hc, hat, hne⟩ := h.ex
  have hpos := h.tok.pos
  have r0 := Rg.blk_cells hh 0
  have r2 := Rg.blk_cells hh 2
  simp only [List.getElem?_toArray, List.getElem?_cons_zero, List.getElem?_cons_succ] at r0 r2
  obtain ⟨b, off, hoa, hb, c0, c1, c2, c3⟩ := t_get hat 0 hpos
  simp only [Nat.zero_mul, Nat.add_zero] at c0 c1 c2 c3
  subst hoa
  generalize l[0].tk.kind = tk at *
  generalize l[0].tk.num = tn at *
  generalize l[0].pos = tp at *
  generalize txt l[0].tk.text = tx at *
  generalize l.length = n at *
  have g2 : (0 : Int) < (n : Int) := by omega
  have q1 : (e != 0) = true := by simpa using he
  have hA1 := fun o => (Gr.refl w).alloc o
  have hA := fun o1 o2 => (hA1 o1).alloc o2
  have eR : (single E (.bad e a)).2 = .bad e a := rfl
  generalize single E (.bad e a) = R at *
  have FI : Hid (∀ o1 o2 W5, Go1 w.heap.size ((w.alloc o1).alloc o2) W5 → Rx p w R (XR.val ⟨{ op := 0 }, none, 0, 0⟩) W5) := hid (fun o1 o2 W5 h5 => giveG hpw rfl (formZ (hd := { op := 0 }) (S := fun b => w.heap.size ≤ b ∧ b ≠ w.heap.size)) (by rw [eR]; exact hS.keep (hA o1 o2)) (Go1.of (hA o1 o2)) (fun h => by rw [eR] at h; cases h) h5)
  have H05 : Hid (∀ o2, ((w.alloc (.cells zeroX 26)).alloc o2).heap[w.heap.size]? = some (.cells zeroX 26 (0, 0))) := hid (fun o2 => by rw [((Gr.refl _).alloc _).block _ (by simp)]; exact alloc_at _ _)
  clear h hat hne hh hS hA hA1 eR
  go_enter Tryz.func130, Tryz.ntmps130
  go_wp2_with (guard_target =~ wpList _ _ _ (Oper.mk _ (Op.store 26 _ _) _ _ _ _ :: _) _ _; refine st_row (ty := 26) rfl rfl w.heap.size _ rfl rfl 26 _ (H05.out _) (by kernel_rfl) rfl (by kernel_rfl) ?_; intro W5 hW5 gW5 zW5)
  (try change bodyPost _ _ _ _ _ _)
  have hT := Rg.blk_cells hW5
  refine bodyPost_ret (v := XR.val ⟨{ op := 0 }, none, 0, 0⟩) (by simp [results, Tryz.results130, go_sem, XR.val, nul, hT]; try rfl) rfl ⟨_, rfl, FI.out _ _ W5 gW5⟩
set_option maxHeartbeats 8000000 in
set_option maxRecDepth 100000 in
theorem single_int (E : Pa Ex) (p : Nat) (t : Lx.Tok) (tr : List Lx.Tok) (d : Nat) (s : Ps) (hs : s = .ok (t :: tr) d) (w : World) (hS : PS p w s) (hk : t.tk.kind = 2) : Calls Tryz.prog 130 #[.pointer (some ⟨p, 0, none⟩)] w (Px p w (single E s)) := by
  have hpw := hS.lt
  have hgood : s.good = true := by rw [hs]; rfl
  have hheadK : s.headK = t.tk.kind := by rw [hs]; rfl
  have hheadT : s.headT = t.tk.text := by rw [hs]; rfl
  have hheadN : s.headN = t.tk.num := by rw [hs]; rfl
  have hS2 := hS
  rw [hs] at hS2
  obtain ⟨hd, h⟩ := hS2
  obtain ⟨oa, cap, hh, hc, hat, hne⟩ := h.ex
  have r0 := Rg.blk_cells hh 0
  have r2 := Rg.blk_cells hh 2
  simp only [List.getElem?_toArray, List.getElem?_cons_zero, List.getElem?_cons_succ] at r0 r2
  obtain ⟨b, off, hoa, hb, c0, c1, c2, c3⟩ := t_get hat 0 (by simp)
  simp only [List.getElem_cons_zero, Nat.zero_mul, Nat.add_zero] at c0 c1 c2 c3
  subst hoa
  obtain ⟨n, hn⟩ : ∃ n, (t :: tr).length = n := ⟨_, rfl⟩
  have hn1 : 1 ≤ n := by rw [← hn]; simp
  rw [hn] at r0 hc
  have g2 : (0 : Int) < (n : Int) := by omega
  have hA1 := fun o => (Gr.refl w).alloc o
  have hA := fun o1 o2 => (hA1 o1).alloc o2
  have hS0 := fun o1 o2 => hS.keep (hA o1 o2)
  have eR : single E s = (litE (numV (t.tk.num : Int)), s.step) := by
    unfold single; rw [hheadK, hk, hheadN]; rfl
  rw [eR]
  clear eR
  have q1 : ((t.tk.kind : Int) == 2) = true := by rw [hk]; rfl
  have hk5 : s.headK ≠ 5 := by rw [hheadK]; omega
  generalize hk0 : t.tk.kind = tk at *
  generalize ht0 : t.tk.text = tx at *
  generalize hm0 : t.tk.num = tn at *
  generalize t.pos = tp at *
  clear h hat hne hh hn hs hS hk0 ht0 hm0
  go_enter Tryz.func130, Tryz.ntmps130
  go_wp2_with fail
  refine (step_any p s _ (hS0 _ _) hk5 hgood).mono ?_
  rintro e w1 ⟨rfl, hps1, hg1⟩
  have z1 := hg1.size
  simp only [World.size_alloc] at z1
  have hcc : ∀ i, w1.cell? ⟨w.heap.size + 1, i, none⟩ = (#[.int .i64 2, .string (txt tx), .int .i64 (tn : Int), .int .i64 (tp : Int)] : Array Value)[i]? := fun i => by
    rw [hg1.cell (by simp) (by omega)]
    rw [show w.heap.size + 1 = (w.alloc (.cells zeroX 26)).heap.size from (World.size_alloc w (.cells zeroX 26)).symm]
    exact Rg.blk_cells (alloc_at _ _) i
  have h01 : w1.heap[w.heap.size]? = some (.cells zeroX 26 (0, 0)) := by
    rw [hg1.get (by simp; omega) (by omega), ((Gr.refl _).alloc _).block _ (by simp)]
    exact alloc_at _ _
  have hgo1 : Go1 p w w1 := (Go1.of (hA _ _)).trans hg1
  go_wp2_with fail
  refine (lit_any (numV (tn : Int)) _).mono ?_
  rintro e w2 ⟨rfl, hg2⟩
  have hps2 := hps1.keep hg2
  have hgo2 := hgo1.block2 hg2
  have FI : Hid (∀ W5, Go1 w.heap.size w2 W5 → Rx p w (litE (numV (tn : Int)), s.step) (XR.val ⟨{ op := 1, v := (numV (tn : Int)) }, none, 0, 0⟩) W5) := hid (fun W5 h5 => giveG (R := (litE (numV (tn : Int)), s.step)) hpw rfl (formZ (S := fun b => w.heap.size ≤ b ∧ b ≠ w.heap.size)) hps2 hgo2 (fun _ => rfl) h5)
  have H05 : Hid (w2.heap[w.heap.size]? = some (.cells zeroX 26 (0, 0))) := hid (by rw [hg2.block _ (by omega)]; exact h01)
  clear hps1 hps2 hgo1 hgo2 hg1 hg2 h01 hcc hS0 hA hA1
  unfold XR.val
  go_wp2_with (guard_target =~ wpList _ _ _ (Oper.mk _ (Op.store 26 _ _) _ _ _ _ :: _) _ _; refine st_row (ty := 26) rfl rfl w.heap.size _ rfl rfl 26 _ (H05.out) (by kernel_rfl) rfl (by kernel_rfl) ?_; intro W5 hW5 gW5 zW5)
  (try change bodyPost _ _ _ _ _ _)
  have hT := Rg.blk_cells hW5
  refine bodyPost_ret (v := XR.val ⟨{ op := 1, v := (numV (tn : Int)) }, none, 0, 0⟩) (by simp [results, Tryz.results130, go_sem, XR.val, nul, hT]; try rfl) rfl ⟨_, rfl, FI.out W5 gW5⟩
set_option maxHeartbeats 8000000 in
set_option maxRecDepth 100000 in
theorem single_text (E : Pa Ex) (p : Nat) (t : Lx.Tok) (tr : List Lx.Tok) (d : Nat) (s : Ps) (hs : s = .ok (t :: tr) d) (w : World) (hS : PS p w s) (hk : t.tk.kind = 3) : Calls Tryz.prog 130 #[.pointer (some ⟨p, 0, none⟩)] w (Px p w (single E s)) := by
  have hpw := hS.lt
  have hgood : s.good = true := by rw [hs]; rfl
  have hheadK : s.headK = t.tk.kind := by rw [hs]; rfl
  have hheadT : s.headT = t.tk.text := by rw [hs]; rfl
  have hheadN : s.headN = t.tk.num := by rw [hs]; rfl
  have hS2 := hS
  rw [hs] at hS2
  obtain ⟨hd, h⟩ := hS2
  obtain ⟨oa, cap, hh, hc, hat, hne⟩ := h.ex
  have r0 := Rg.blk_cells hh 0
  have r2 := Rg.blk_cells hh 2
  simp only [List.getElem?_toArray, List.getElem?_cons_zero, List.getElem?_cons_succ] at r0 r2
  obtain ⟨b, off, hoa, hb, c0, c1, c2, c3⟩ := t_get hat 0 (by simp)
  simp only [List.getElem_cons_zero, Nat.zero_mul, Nat.add_zero] at c0 c1 c2 c3
  subst hoa
  obtain ⟨n, hn⟩ : ∃ n, (t :: tr).length = n := ⟨_, rfl⟩
  have hn1 : 1 ≤ n := by rw [← hn]; simp
  rw [hn] at r0 hc
  have g2 : (0 : Int) < (n : Int) := by omega
  have hA1 := fun o => (Gr.refl w).alloc o
  have hA := fun o1 o2 => (hA1 o1).alloc o2
  have hS0 := fun o1 o2 => hS.keep (hA o1 o2)
  have eR : single E s = (litE (textV (txt t.tk.text)), s.step) := by
    unfold single; rw [hheadK, hk, hheadT]; rfl
  rw [eR]
  clear eR
  have q1 : ((t.tk.kind : Int) == 2) = false := by rw [hk]; rfl
  have q2 : ((t.tk.kind : Int) == 3) = true := by rw [hk]; rfl
  have hk5 : s.headK ≠ 5 := by rw [hheadK]; omega
  generalize hk0 : t.tk.kind = tk at *
  generalize ht0 : t.tk.text = tx at *
  generalize hm0 : t.tk.num = tn at *
  generalize t.pos = tp at *
  clear h hat hne hh hn hs hS hk0 ht0 hm0
  go_enter Tryz.func130, Tryz.ntmps130
  go_wp2_with fail
  refine (step_any p s _ (hS0 _ _) hk5 hgood).mono ?_
  rintro e w1 ⟨rfl, hps1, hg1⟩
  have z1 := hg1.size
  simp only [World.size_alloc] at z1
  have hcc : ∀ i, w1.cell? ⟨w.heap.size + 1, i, none⟩ = (#[.int .i64 3, .string (txt tx), .int .i64 (tn : Int), .int .i64 (tp : Int)] : Array Value)[i]? := fun i => by
    rw [hg1.cell (by simp) (by omega)]
    rw [show w.heap.size + 1 = (w.alloc (.cells zeroX 26)).heap.size from (World.size_alloc w (.cells zeroX 26)).symm]
    exact Rg.blk_cells (alloc_at _ _) i
  have h01 : w1.heap[w.heap.size]? = some (.cells zeroX 26 (0, 0)) := by
    rw [hg1.get (by simp; omega) (by omega), ((Gr.refl _).alloc _).block _ (by simp)]
    exact alloc_at _ _
  have hgo1 : Go1 p w w1 := (Go1.of (hA _ _)).trans hg1
  go_wp2_with fail
  refine (lit_any (textV (txt tx)) _).mono ?_
  rintro e w2 ⟨rfl, hg2⟩
  have hps2 := hps1.keep hg2
  have hgo2 := hgo1.block2 hg2
  have FI : Hid (∀ W5, Go1 w.heap.size w2 W5 → Rx p w (litE (textV (txt tx)), s.step) (XR.val ⟨{ op := 1, v := (textV (txt tx)) }, none, 0, 0⟩) W5) := hid (fun W5 h5 => giveG (R := (litE (textV (txt tx)), s.step)) hpw rfl (formZ (S := fun b => w.heap.size ≤ b ∧ b ≠ w.heap.size)) hps2 hgo2 (fun _ => rfl) h5)
  have H05 : Hid (w2.heap[w.heap.size]? = some (.cells zeroX 26 (0, 0))) := hid (by rw [hg2.block _ (by omega)]; exact h01)
  clear hps1 hps2 hgo1 hgo2 hg1 hg2 h01 hcc hS0 hA hA1
  unfold XR.val
  go_wp2_with (guard_target =~ wpList _ _ _ (Oper.mk _ (Op.store 26 _ _) _ _ _ _ :: _) _ _; refine st_row (ty := 26) rfl rfl w.heap.size _ rfl rfl 26 _ (H05.out) (by kernel_rfl) rfl (by kernel_rfl) ?_; intro W5 hW5 gW5 zW5)
  (try change bodyPost _ _ _ _ _ _)
  have hT := Rg.blk_cells hW5
  refine bodyPost_ret (v := XR.val ⟨{ op := 1, v := (textV (txt tx)) }, none, 0, 0⟩) (by simp [results, Tryz.results130, go_sem, XR.val, nul, hT]; try rfl) rfl ⟨_, rfl, FI.out W5 gW5⟩
set_option maxHeartbeats 8000000 in
set_option maxRecDepth 100000 in
theorem single_true (E : Pa Ex) (p : Nat) (t : Lx.Tok) (tr : List Lx.Tok) (d : Nat) (s : Ps) (hs : s = .ok (t :: tr) d) (w : World) (hS : PS p w s) (hw : s.is 1 ⟨#[116, 114, 117, 101]⟩ = true) : Calls Tryz.prog 130 #[.pointer (some ⟨p, 0, none⟩)] w (Px p w (single E s)) := by
  have hpw := hS.lt
  have hgood : s.good = true := by rw [hs]; rfl
  have hheadK : s.headK = t.tk.kind := by rw [hs]; rfl
  have hheadT : s.headT = t.tk.text := by rw [hs]; rfl
  have hheadN : s.headN = t.tk.num := by rw [hs]; rfl
  have hS2 := hS
  rw [hs] at hS2
  obtain ⟨hd, h⟩ := hS2
  obtain ⟨oa, cap, hh, hc, hat, hne⟩ := h.ex
  have r0 := Rg.blk_cells hh 0
  have r2 := Rg.blk_cells hh 2
  simp only [List.getElem?_toArray, List.getElem?_cons_zero, List.getElem?_cons_succ] at r0 r2
  obtain ⟨b, off, hoa, hb, c0, c1, c2, c3⟩ := t_get hat 0 (by simp)
  simp only [List.getElem_cons_zero, Nat.zero_mul, Nat.add_zero] at c0 c1 c2 c3
  subst hoa
  obtain ⟨n, hn⟩ : ∃ n, (t :: tr).length = n := ⟨_, rfl⟩
  have hn1 : 1 ≤ n := by rw [← hn]; simp
  rw [hn] at r0 hc
  have g2 : (0 : Int) < (n : Int) := by omega
  have hA1 := fun o => (Gr.refl w).alloc o
  have hA := fun o1 o2 => (hA1 o1).alloc o2
  have hS0 := fun o1 o2 => hS.keep (hA o1 o2)
  have eR : single E s = (litE (boolV true), s.step) := by
    obtain ⟨_, hk1, _⟩ := is_head hw; unfold single; rw [hk1, hw]; rfl
  rw [eR]
  clear eR
  obtain ⟨_, hk1, ht1⟩ := is_head hw
  rw [hheadK] at hk1
  rw [hheadT] at ht1
  have q1 : ((t.tk.kind : Int) == 2) = false := by rw [hk1]; rfl
  have q2 : ((t.tk.kind : Int) == 3) = false := by rw [hk1]; rfl
  have hstep : (s.may 1 ⟨#[116, 114, 117, 101]⟩).2 = s.step := by simp [Ps.may, hw]
  have qt : ((txt t.tk.text).toList == [116, 114, 117, 101]) = true := by rw [ht1, ByteArray.toList_eq, txt_list]; decide
  generalize hk0 : t.tk.kind = tk at *
  generalize ht0 : t.tk.text = tx at *
  generalize hm0 : t.tk.num = tn at *
  generalize t.pos = tp at *
  clear h hat hne hh hn hs hS hk0 ht0 hm0 hk1 ht1
  go_enter Tryz.func130, Tryz.ntmps130
  go_wp2_with fail
  refine (word_any p ⟨#[116, 114, 117, 101]⟩ s _ (hS0 _ _)).mono ?_
  rintro e w1 ⟨rfl, hps1, hg1⟩
  rw [hw]
  rw [hstep] at hps1
  have z1 := hg1.size
  simp only [World.size_alloc] at z1
  have hcc : ∀ i, w1.cell? ⟨w.heap.size + 1, i, none⟩ = (#[.int .i64 (tk : Int), .string (txt tx), .int .i64 (tn : Int), .int .i64 (tp : Int)] : Array Value)[i]? := fun i => by
    rw [hg1.cell (by simp) (by omega)]
    rw [show w.heap.size + 1 = (w.alloc (.cells zeroX 26)).heap.size from (World.size_alloc w (.cells zeroX 26)).symm]
    exact Rg.blk_cells (alloc_at _ _) i
  have h01 : w1.heap[w.heap.size]? = some (.cells zeroX 26 (0, 0)) := by
    rw [hg1.get (by simp; omega) (by omega), ((Gr.refl _).alloc _).block _ (by simp)]
    exact alloc_at _ _
  have hgo1 : Go1 p w w1 := (Go1.of (hA _ _)).trans hg1
  go_wp2_with fail
  refine (lit_any (boolV true) _).mono ?_
  rintro e w2 ⟨rfl, hg2⟩
  have hps2 := hps1.keep hg2
  have hgo2 := hgo1.block2 hg2
  have FI : Hid (∀ W5, Go1 w.heap.size w2 W5 → Rx p w (litE (boolV true), s.step) (XR.val ⟨{ op := 1, v := (boolV true) }, none, 0, 0⟩) W5) := hid (fun W5 h5 => giveG (R := (litE (boolV true), s.step)) hpw rfl (formZ (S := fun b => w.heap.size ≤ b ∧ b ≠ w.heap.size)) hps2 hgo2 (fun _ => rfl) h5)
  have H05 : Hid (w2.heap[w.heap.size]? = some (.cells zeroX 26 (0, 0))) := hid (by rw [hg2.block _ (by omega)]; exact h01)
  clear hps1 hps2 hgo1 hgo2 hg1 hg2 h01 hcc hS0 hA hA1
  unfold XR.val
  go_wp2_with (guard_target =~ wpList _ _ _ (Oper.mk _ (Op.store 26 _ _) _ _ _ _ :: _) _ _; refine st_row (ty := 26) rfl rfl w.heap.size _ rfl rfl 26 _ (H05.out) (by kernel_rfl) rfl (by kernel_rfl) ?_; intro W5 hW5 gW5 zW5)
  (try change bodyPost _ _ _ _ _ _)
  have hT := Rg.blk_cells hW5
  refine bodyPost_ret (v := XR.val ⟨{ op := 1, v := (boolV true) }, none, 0, 0⟩) (by simp [results, Tryz.results130, go_sem, XR.val, nul, hT]; try rfl) rfl ⟨_, rfl, FI.out W5 gW5⟩
set_option maxHeartbeats 8000000 in
set_option maxRecDepth 100000 in
theorem single_false (E : Pa Ex) (p : Nat) (t : Lx.Tok) (tr : List Lx.Tok) (d : Nat) (s : Ps) (hs : s = .ok (t :: tr) d) (w : World) (hS : PS p w s) (hw : s.is 1 ⟨#[102, 97, 108, 115, 101]⟩ = true) (hn_true : s.is 1 ⟨#[116, 114, 117, 101]⟩ = false) : Calls Tryz.prog 130 #[.pointer (some ⟨p, 0, none⟩)] w (Px p w (single E s)) := by
  have hpw := hS.lt
  have hgood : s.good = true := by rw [hs]; rfl
  have hheadK : s.headK = t.tk.kind := by rw [hs]; rfl
  have hheadT : s.headT = t.tk.text := by rw [hs]; rfl
  have hheadN : s.headN = t.tk.num := by rw [hs]; rfl
  have hS2 := hS
  rw [hs] at hS2
  obtain ⟨hd, h⟩ := hS2
  obtain ⟨oa, cap, hh, hc, hat, hne⟩ := h.ex
  have r0 := Rg.blk_cells hh 0
  have r2 := Rg.blk_cells hh 2
  simp only [List.getElem?_toArray, List.getElem?_cons_zero, List.getElem?_cons_succ] at r0 r2
  obtain ⟨b, off, hoa, hb, c0, c1, c2, c3⟩ := t_get hat 0 (by simp)
  simp only [List.getElem_cons_zero, Nat.zero_mul, Nat.add_zero] at c0 c1 c2 c3
  subst hoa
  obtain ⟨n, hn⟩ : ∃ n, (t :: tr).length = n := ⟨_, rfl⟩
  have hn1 : 1 ≤ n := by rw [← hn]; simp
  rw [hn] at r0 hc
  have g2 : (0 : Int) < (n : Int) := by omega
  have hA1 := fun o => (Gr.refl w).alloc o
  have hA := fun o1 o2 => (hA1 o1).alloc o2
  have hS0 := fun o1 o2 => hS.keep (hA o1 o2)
  have eR : single E s = (litE (boolV false), s.step) := by
    obtain ⟨_, hk1, _⟩ := is_head hw; unfold single; rw [hk1, hn_true, hw]; rfl
  rw [eR]
  clear eR
  obtain ⟨_, hk1, ht1⟩ := is_head hw
  rw [hheadK] at hk1
  rw [hheadT] at ht1
  have q1 : ((t.tk.kind : Int) == 2) = false := by rw [hk1]; rfl
  have q2 : ((t.tk.kind : Int) == 3) = false := by rw [hk1]; rfl
  have hstep : (s.may 1 ⟨#[102, 97, 108, 115, 101]⟩).2 = s.step := by simp [Ps.may, hw]
  have qt : ((txt t.tk.text).toList == [116, 114, 117, 101]) = false := by rw [ht1, ByteArray.toList_eq, txt_list]; decide
  generalize hk0 : t.tk.kind = tk at *
  generalize ht0 : t.tk.text = tx at *
  generalize hm0 : t.tk.num = tn at *
  generalize t.pos = tp at *
  clear h hat hne hh hn hs hS hk0 ht0 hm0 hk1 ht1
  go_enter Tryz.func130, Tryz.ntmps130
  go_wp2_with fail
  refine (word_no p ⟨#[116, 114, 117, 101]⟩ s _ (hS0 _ _) hn_true).mono ?_
  rintro e w' ⟨rfl, rfl⟩
  go_wp2_with fail
  refine (word_any p ⟨#[102, 97, 108, 115, 101]⟩ s _ (hS0 _ _)).mono ?_
  rintro e w1 ⟨rfl, hps1, hg1⟩
  rw [hw]
  rw [hstep] at hps1
  have z1 := hg1.size
  simp only [World.size_alloc] at z1
  have hcc : ∀ i, w1.cell? ⟨w.heap.size + 1, i, none⟩ = (#[.int .i64 (tk : Int), .string (txt tx), .int .i64 (tn : Int), .int .i64 (tp : Int)] : Array Value)[i]? := fun i => by
    rw [hg1.cell (by simp) (by omega)]
    rw [show w.heap.size + 1 = (w.alloc (.cells zeroX 26)).heap.size from (World.size_alloc w (.cells zeroX 26)).symm]
    exact Rg.blk_cells (alloc_at _ _) i
  have h01 : w1.heap[w.heap.size]? = some (.cells zeroX 26 (0, 0)) := by
    rw [hg1.get (by simp; omega) (by omega), ((Gr.refl _).alloc _).block _ (by simp)]
    exact alloc_at _ _
  have hgo1 : Go1 p w w1 := (Go1.of (hA _ _)).trans hg1
  go_wp2_with fail
  refine (lit_any (boolV false) _).mono ?_
  rintro e w2 ⟨rfl, hg2⟩
  have hps2 := hps1.keep hg2
  have hgo2 := hgo1.block2 hg2
  have FI : Hid (∀ W5, Go1 w.heap.size w2 W5 → Rx p w (litE (boolV false), s.step) (XR.val ⟨{ op := 1, v := (boolV false) }, none, 0, 0⟩) W5) := hid (fun W5 h5 => giveG (R := (litE (boolV false), s.step)) hpw rfl (formZ (S := fun b => w.heap.size ≤ b ∧ b ≠ w.heap.size)) hps2 hgo2 (fun _ => rfl) h5)
  have H05 : Hid (w2.heap[w.heap.size]? = some (.cells zeroX 26 (0, 0))) := hid (by rw [hg2.block _ (by omega)]; exact h01)
  clear hps1 hps2 hgo1 hgo2 hg1 hg2 h01 hcc hS0 hA hA1
  unfold XR.val
  go_wp2_with (guard_target =~ wpList _ _ _ (Oper.mk _ (Op.store 26 _ _) _ _ _ _ :: _) _ _; refine st_row (ty := 26) rfl rfl w.heap.size _ rfl rfl 26 _ (H05.out) (by kernel_rfl) rfl (by kernel_rfl) ?_; intro W5 hW5 gW5 zW5)
  (try change bodyPost _ _ _ _ _ _)
  have hT := Rg.blk_cells hW5
  refine bodyPost_ret (v := XR.val ⟨{ op := 1, v := (boolV false) }, none, 0, 0⟩) (by simp [results, Tryz.results130, go_sem, XR.val, nul, hT]; try rfl) rfl ⟨_, rfl, FI.out W5 gW5⟩
set_option maxHeartbeats 8000000 in
set_option maxRecDepth 100000 in
theorem single_null (E : Pa Ex) (p : Nat) (t : Lx.Tok) (tr : List Lx.Tok) (d : Nat) (s : Ps) (hs : s = .ok (t :: tr) d) (w : World) (hS : PS p w s) (hw : s.is 1 ⟨#[110, 117, 108, 108]⟩ = true) (hn_true : s.is 1 ⟨#[116, 114, 117, 101]⟩ = false) (hn_false : s.is 1 ⟨#[102, 97, 108, 115, 101]⟩ = false) : Calls Tryz.prog 130 #[.pointer (some ⟨p, 0, none⟩)] w (Px p w (single E s)) := by
  have hpw := hS.lt
  have hgood : s.good = true := by rw [hs]; rfl
  have hheadK : s.headK = t.tk.kind := by rw [hs]; rfl
  have hheadT : s.headT = t.tk.text := by rw [hs]; rfl
  have hheadN : s.headN = t.tk.num := by rw [hs]; rfl
  have hS2 := hS
  rw [hs] at hS2
  obtain ⟨hd, h⟩ := hS2
  obtain ⟨oa, cap, hh, hc, hat, hne⟩ := h.ex
  have r0 := Rg.blk_cells hh 0
  have r2 := Rg.blk_cells hh 2
  simp only [List.getElem?_toArray, List.getElem?_cons_zero, List.getElem?_cons_succ] at r0 r2
  obtain ⟨b, off, hoa, hb, c0, c1, c2, c3⟩ := t_get hat 0 (by simp)
  simp only [List.getElem_cons_zero, Nat.zero_mul, Nat.add_zero] at c0 c1 c2 c3
  subst hoa
  obtain ⟨n, hn⟩ : ∃ n, (t :: tr).length = n := ⟨_, rfl⟩
  have hn1 : 1 ≤ n := by rw [← hn]; simp
  rw [hn] at r0 hc
  have g2 : (0 : Int) < (n : Int) := by omega
  have hA1 := fun o => (Gr.refl w).alloc o
  have hA := fun o1 o2 => (hA1 o1).alloc o2
  have hS0 := fun o1 o2 => hS.keep (hA o1 o2)
  have eR : single E s = (litE nul, s.step) := by
    obtain ⟨_, hk1, _⟩ := is_head hw; unfold single; rw [hk1, hn_true, hn_false, hw]; rfl
  rw [eR]
  clear eR
  obtain ⟨_, hk1, ht1⟩ := is_head hw
  rw [hheadK] at hk1
  rw [hheadT] at ht1
  have q1 : ((t.tk.kind : Int) == 2) = false := by rw [hk1]; rfl
  have q2 : ((t.tk.kind : Int) == 3) = false := by rw [hk1]; rfl
  have hstep : (s.may 1 ⟨#[110, 117, 108, 108]⟩).2 = s.step := by simp [Ps.may, hw]
  generalize hk0 : t.tk.kind = tk at *
  generalize ht0 : t.tk.text = tx at *
  generalize hm0 : t.tk.num = tn at *
  generalize t.pos = tp at *
  clear h hat hne hh hn hs hS hk0 ht0 hm0 hk1 ht1
  go_enter Tryz.func130, Tryz.ntmps130
  go_wp2_with fail
  refine (word_no p ⟨#[116, 114, 117, 101]⟩ s _ (hS0 _ _) hn_true).mono ?_
  rintro e w' ⟨rfl, rfl⟩
  go_wp2_with fail
  refine (word_no p ⟨#[102, 97, 108, 115, 101]⟩ s _ (hS0 _ _) hn_false).mono ?_
  rintro e w' ⟨rfl, rfl⟩
  go_wp2_with fail
  refine (word_any p ⟨#[110, 117, 108, 108]⟩ s _ (hS0 _ _)).mono ?_
  rintro e w1 ⟨rfl, hps1, hg1⟩
  rw [hw]
  rw [hstep] at hps1
  have z1 := hg1.size
  simp only [World.size_alloc] at z1
  have hcc : ∀ i, w1.cell? ⟨w.heap.size + 1, i, none⟩ = (#[.int .i64 (tk : Int), .string (txt tx), .int .i64 (tn : Int), .int .i64 (tp : Int)] : Array Value)[i]? := fun i => by
    rw [hg1.cell (by simp) (by omega)]
    rw [show w.heap.size + 1 = (w.alloc (.cells zeroX 26)).heap.size from (World.size_alloc w (.cells zeroX 26)).symm]
    exact Rg.blk_cells (alloc_at _ _) i
  have h01 : w1.heap[w.heap.size]? = some (.cells zeroX 26 (0, 0)) := by
    rw [hg1.get (by simp; omega) (by omega), ((Gr.refl _).alloc _).block _ (by simp)]
    exact alloc_at _ _
  have hgo1 : Go1 p w w1 := (Go1.of (hA _ _)).trans hg1
  go_wp2_with fail
  refine (lit_any nul _).mono ?_
  rintro e w2 ⟨rfl, hg2⟩
  have hps2 := hps1.keep hg2
  have hgo2 := hgo1.block2 hg2
  have FI : Hid (∀ W5, Go1 w.heap.size w2 W5 → Rx p w (litE nul, s.step) (XR.val ⟨{ op := 1, v := nul }, none, 0, 0⟩) W5) := hid (fun W5 h5 => giveG (R := (litE nul, s.step)) hpw rfl (formZ (S := fun b => w.heap.size ≤ b ∧ b ≠ w.heap.size)) hps2 hgo2 (fun _ => rfl) h5)
  have H05 : Hid (w2.heap[w.heap.size]? = some (.cells zeroX 26 (0, 0))) := hid (by rw [hg2.block _ (by omega)]; exact h01)
  clear hps1 hps2 hgo1 hgo2 hg1 hg2 h01 hcc hS0 hA hA1
  unfold XR.val
  go_wp2_with (guard_target =~ wpList _ _ _ (Oper.mk _ (Op.store 26 _ _) _ _ _ _ :: _) _ _; refine st_row (ty := 26) rfl rfl w.heap.size _ rfl rfl 26 _ (H05.out) (by kernel_rfl) rfl (by kernel_rfl) ?_; intro W5 hW5 gW5 zW5)
  (try change bodyPost _ _ _ _ _ _)
  have hT := Rg.blk_cells hW5
  refine bodyPost_ret (v := XR.val ⟨{ op := 1, v := nul }, none, 0, 0⟩) (by simp [results, Tryz.results130, go_sem, XR.val, nul, hT]; try rfl) rfl ⟨_, rfl, FI.out W5 gW5⟩
end Go.Proofs.YtbeinfhgfflneaaGreat
end
section
namespace Go.Proofs.YtbeinfhgfflneaaGreat
open Go.RowKit
set_option linter.unusedSimpArgs false
set_option linter.unusedVariables false
attribute [local go_sem] Rg.leads_value Rg.leads_skip Rg.leads_enter Rg.brings_value Rg.brings_skip Rg.brings_enter Rg.bringsG_value Rg.bringsG_enter Rg.once_normal Rg.once_exit Rg.once_ret Rg.once_panic Rg.once_goto
theorem is_other {s : Ps} {k k' : Nat} {c c' : ByteArray} (h : s.is k c = true) (hk : k ≠ k') : s.is k' c' = false := by
  match s, h with
  | .ok (t :: r) d, h =>
    simp [Ps.is] at h ⊢
    intro e
    exact absurd (h.1.symm.trans e) hk
set_option maxHeartbeats 8000000 in
set_option maxRecDepth 100000 in
theorem single_paren_full (E : Pa Ex) (p : Nat) (t : Lx.Tok) (tr : List Lx.Tok) (d : Nat) (s : Ps) (hs : s = .ok (t :: tr) d) (w : World) (hS : PS p w s) (hw : s.is 4 ⟨#[40]⟩ = true) (hD : s.down.good = false) : Calls Tryz.prog 130 #[.pointer (some ⟨p, 0, none⟩)] w (Px p w (single E s)) := by
  have hpw := hS.lt
  have hgood : s.good = true := by rw [hs]; rfl
  have hheadK : s.headK = t.tk.kind := by rw [hs]; rfl
  have hheadT : s.headT = t.tk.text := by rw [hs]; rfl
  have hheadN : s.headN = t.tk.num := by rw [hs]; rfl
  have hS2 := hS
  rw [hs] at hS2
  obtain ⟨hd, h⟩ := hS2
  obtain ⟨oa, cap, hh, hc, hat, hne⟩ := h.ex
  have r0 := Rg.blk_cells hh 0
  have r2 := Rg.blk_cells hh 2
  simp only [List.getElem?_toArray, List.getElem?_cons_zero, List.getElem?_cons_succ] at r0 r2
  obtain ⟨b, off, hoa, hb, c0, c1, c2, c3⟩ := t_get hat 0 (by simp)
  simp only [List.getElem_cons_zero, Nat.zero_mul, Nat.add_zero] at c0 c1 c2 c3
  subst hoa
  obtain ⟨n, hn⟩ : ∃ n, (t :: tr).length = n := ⟨_, rfl⟩
  have hn1 : 1 ≤ n := by rw [← hn]; simp
  rw [hn] at r0 hc
  have g2 : (0 : Int) < (n : Int) := by omega
  have hA1 := fun o => (Gr.refl w).alloc o
  have hA := fun o1 o2 => (hA1 o1).alloc o2
  have hS0 := fun o1 o2 => hS.keep (hA o1 o2)
  have eR : single E s = (noEx, s.down) := by
    obtain ⟨_, hk1, _⟩ := is_head hw; unfold single; rw [hk1, is_other hw (by decide), is_other hw (by decide), is_other hw (by decide), hw, hD]; rfl
  rw [eR]
  clear eR
  obtain ⟨_, hk1, ht1⟩ := is_head hw
  rw [hheadK] at hk1
  have q1 : ((t.tk.kind : Int) == 2) = false := by rw [hk1]; rfl
  have q2 : ((t.tk.kind : Int) == 3) = false := by rw [hk1]; rfl
  have w1a := is_other (k' := 1) (c' := ⟨#[116, 114, 117, 101]⟩) hw (by decide)
  have w1b := is_other (k' := 1) (c' := ⟨#[102, 97, 108, 115, 101]⟩) hw (by decide)
  have w1c := is_other (k' := 1) (c' := ⟨#[110, 117, 108, 108]⟩) hw (by decide)
  have h0a : ∀ o2, ((w.alloc (.cells zeroX 26)).alloc o2).heap[w.heap.size]? = some (.cells zeroX 26 (0, 0)) := fun o2 => by
    rw [((Gr.refl _).alloc _).block _ (by simp)]; exact alloc_at _ _
  generalize hk0 : t.tk.kind = tk at *
  generalize ht0 : t.tk.text = tx at *
  generalize hm0 : t.tk.num = tn at *
  generalize t.pos = tp at *
  clear h hat hne hh hn hs hS hk0 ht0 hm0 hk1 ht1 hheadK hheadT hheadN
  go_enter Tryz.func130, Tryz.ntmps130
  go_wp2_with fail
  refine (word_no p ⟨#[116, 114, 117, 101]⟩ s _ (hS0 _ _) w1a).mono ?_
  rintro e w' ⟨rfl, rfl⟩
  go_wp2_with fail
  refine (word_no p ⟨#[102, 97, 108, 115, 101]⟩ s _ (hS0 _ _) w1b).mono ?_
  rintro e w' ⟨rfl, rfl⟩
  go_wp2_with fail
  refine (word_no p ⟨#[110, 117, 108, 108]⟩ s _ (hS0 _ _) w1c).mono ?_
  rintro e w' ⟨rfl, rfl⟩
  go_wp2_with fail
  refine (is4_any p ⟨#[40]⟩ s _ (hS0 _ _)).mono ?_
  rintro e w' ⟨rfl, rfl⟩
  rw [hw]
  go_wp2_with fail
  refine (down_any p s _ (hS0 _ _) hgood).mono ?_
  rintro e w2 ⟨rfl, hps2, hg2⟩
  rw [hD]
  have z2 := hg2.size
  simp only [World.size_alloc] at z2
  have h02 : w2.heap[w.heap.size]? = some (.cells zeroX 26 (0, 0)) := by
    rw [hg2.get (by simp; omega) (by omega)]; exact h0a _
  have hgo2 : Go1 p w w2 := (Go1.of (hA _ _)).trans hg2
  clear hg2 hS0 hA hA1 h0a
  have FI : Hid (∀ W5, Go1 w.heap.size w2 W5 → Rx p w (noEx, s.down) (XR.val ⟨{ op := 0 }, none, 0, 0⟩) W5) := hid (fun W5 h5 => giveG hpw rfl (formZ (S := fun b => w.heap.size ≤ b ∧ b ≠ w.heap.size)) hps2 hgo2 (fun _ => rfl) h5)
  have H05 := hid h02
  clear hps2 hgo2 h02
  go_wp2_with (guard_target =~ wpList _ _ _ (Oper.mk _ (Op.store 26 _ _) _ _ _ _ :: _) _ _; refine st_row (ty := 26) rfl rfl w.heap.size _ rfl rfl 26 _ (H05.out) (by kernel_rfl) rfl (by kernel_rfl) ?_; intro W5 hW5 gW5 zW5)
  (try change bodyPost _ _ _ _ _ _)
  have hT := Rg.blk_cells hW5
  refine bodyPost_ret (v := XR.val ⟨{ op := 0 }, none, 0, 0⟩) (by simp [results, Tryz.results130, go_sem, XR.val, nul, hT]; try rfl) rfl ⟨_, rfl, FI.out W5 gW5⟩
set_option maxHeartbeats 8000000 in
set_option maxRecDepth 100000 in
theorem single_paren (E : Pa Ex) (p : Nat) (t : Lx.Tok) (tr : List Lx.Tok) (d : Nat) (s : Ps) (hs : s = .ok (t :: tr) d) (w : World) (hS : PS p w s) (hw : s.is 4 ⟨#[40]⟩ = true) (hD : s.down.good = true) (hdp : DP E) (hq : ∀ w', PS p w' s.down.step → Calls Tryz.prog 21 #[.pointer (some ⟨p, 0, none⟩)] w' (Px p w' (E s.down.step))) : Calls Tryz.prog 130 #[.pointer (some ⟨p, 0, none⟩)] w (Px p w (single E s)) := by
  have hpw := hS.lt
  have hgood : s.good = true := by rw [hs]; rfl
  have hheadK : s.headK = t.tk.kind := by rw [hs]; rfl
  have hheadT : s.headT = t.tk.text := by rw [hs]; rfl
  have hheadN : s.headN = t.tk.num := by rw [hs]; rfl
  have hS2 := hS
  rw [hs] at hS2
  obtain ⟨hd, h⟩ := hS2
  obtain ⟨oa, cap, hh, hc, hat, hne⟩ := h.ex
  have r0 := Rg.blk_cells hh 0
  have r2 := Rg.blk_cells hh 2
  simp only [List.getElem?_toArray, List.getElem?_cons_zero, List.getElem?_cons_succ] at r0 r2
  obtain ⟨b, off, hoa, hb, c0, c1, c2, c3⟩ := t_get hat 0 (by simp)
  simp only [List.getElem_cons_zero, Nat.zero_mul, Nat.add_zero] at c0 c1 c2 c3
  subst hoa
  obtain ⟨n, hn⟩ : ∃ n, (t :: tr).length = n := ⟨_, rfl⟩
  have hn1 : 1 ≤ n := by rw [← hn]; simp
  rw [hn] at r0 hc
  have g2 : (0 : Int) < (n : Int) := by omega
  have hA1 := fun o => (Gr.refl w).alloc o
  have hA := fun o1 o2 => (hA1 o1).alloc o2
  have hS0 := fun o1 o2 => hS.keep (hA o1 o2)
  have eR : single E s = ((E s.down.step).1, ((E s.down.step).2.need 4 ⟨#[41]⟩).up) := by
    obtain ⟨_, hk1, _⟩ := is_head hw; unfold single; rw [hk1, is_other hw (by decide), is_other hw (by decide), is_other hw (by decide), hw, hD]; rfl
  rw [eR]
  clear eR
  have hup : Hid (∀ l d, (E s.down.step).2.need 4 ⟨#[41]⟩ = .ok l d → 1 ≤ d) := hid (down_deep hD (As.trans (as_need _ _ _) (As.trans (hdp _) (as_step s.down)))).1
  obtain ⟨d1, d2, d3, d4⟩ := down_good hD
  have hk5 : s.down.headK ≠ 5 := by rw [(is_head (s := s.down) (k := 4) (c := ⟨#[40]⟩) (by rw [d4]; exact hw)).2.1]; decide
  generalize hQ : E s.down.step = Q at *
  obtain ⟨_, hk1, ht1⟩ := is_head hw
  rw [hheadK] at hk1
  have q1 : ((t.tk.kind : Int) == 2) = false := by rw [hk1]; rfl
  have q2 : ((t.tk.kind : Int) == 3) = false := by rw [hk1]; rfl
  have w1a := is_other (k' := 1) (c' := ⟨#[116, 114, 117, 101]⟩) hw (by decide)
  have w1b := is_other (k' := 1) (c' := ⟨#[102, 97, 108, 115, 101]⟩) hw (by decide)
  have w1c := is_other (k' := 1) (c' := ⟨#[110, 117, 108, 108]⟩) hw (by decide)
  have h0a : ∀ o2, ((w.alloc (.cells zeroX 26)).alloc o2).heap[w.heap.size]? = some (.cells zeroX 26 (0, 0)) := fun o2 => by
    rw [((Gr.refl _).alloc _).block _ (by simp)]; exact alloc_at _ _
  generalize hk0 : t.tk.kind = tk at *
  generalize ht0 : t.tk.text = tx at *
  generalize hm0 : t.tk.num = tn at *
  generalize t.pos = tp at *
  clear h hat hne hh hn hs hS hk0 ht0 hm0 hk1 ht1 hheadK hheadT hheadN
  go_enter Tryz.func130, Tryz.ntmps130
  go_wp2_with fail
  refine (word_no p ⟨#[116, 114, 117, 101]⟩ s _ (hS0 _ _) w1a).mono ?_
  rintro e w' ⟨rfl, rfl⟩
  go_wp2_with fail
  refine (word_no p ⟨#[102, 97, 108, 115, 101]⟩ s _ (hS0 _ _) w1b).mono ?_
  rintro e w' ⟨rfl, rfl⟩
  go_wp2_with fail
  refine (word_no p ⟨#[110, 117, 108, 108]⟩ s _ (hS0 _ _) w1c).mono ?_
  rintro e w' ⟨rfl, rfl⟩
  go_wp2_with fail
  refine (is4_any p ⟨#[40]⟩ s _ (hS0 _ _)).mono ?_
  rintro e w' ⟨rfl, rfl⟩
  rw [hw]
  go_wp2_with fail
  refine (down_any p s _ (hS0 _ _) hgood).mono ?_
  rintro e w2 ⟨rfl, hps2, hg2⟩
  rw [hD]
  have z2 := hg2.size
  simp only [World.size_alloc] at z2
  have h02 : w2.heap[w.heap.size]? = some (.cells zeroX 26 (0, 0)) := by
    rw [hg2.get (by simp; omega) (by omega)]; exact h0a _
  have hgo2 : Go1 p w w2 := (Go1.of (hA _ _)).trans hg2
  clear hg2 hS0 hA hA1 h0a
  go_wp2_with fail
  refine (step_any p s.down _ hps2 hk5 hD).mono ?_
  rintro e w3 ⟨rfl, hps3, hg3⟩
  have z3 := hg3.size
  have h03 : w3.heap[w.heap.size]? = some (.cells zeroX 26 (0, 0)) := by
    rw [hg3.get (by omega) (by omega)]; exact h02
  go_wp2_with fail
  refine (hq _ hps3).mono ?_
  rintro e w6 ⟨u, rfl, r, x, rfl, hx, hps6, hg6, hgd⟩
  unfold XR.val
  have hA6 := fun o => (Gr.refl w6).alloc o
  have hps7 := fun o => hps6.keep (hA6 o)
  have z6 := hg6.size
  go_wp2_with fail
  refine (must_any p ⟨#[41]⟩ _ _ (hps7 _)).mono ?_
  rintro e w8 ⟨rfl, hps8, hg8⟩
  go_wp2_with fail
  refine (up_any p _ _ hps8 hup.out).mono ?_
  rintro e w9 ⟨rfl, hps9, hg9⟩
  have hg89 := hg8.trans hg9
  have z8 := hg89.size
  simp only [World.size_alloc] at z8
  have hp6 := hps6.lt
  have hr8 : w9.heap[w6.heap.size]? = some (.cells r.cells 26 (0, 0)) := by
    rw [hg89.get (by simp) (by omega)]; exact alloc_at _ _
  have h08 : w9.heap[w.heap.size]? = some (.cells zeroX 26 (0, 0)) := by
    rw [hg89.get (by simp; omega) (by omega), (hA6 _).block _ (by omega), hg6.get (by omega) (by omega)]; exact h03
  have hx8 : Ex.At (fun b => w.heap.size ≤ b ∧ b ≠ w.heap.size) w9 x r := by
    refine ((hx.of (by simp) (fun b hb hl => (hA6 (.cells r.cells 26)).block b hl)).of hg89.size (fun b hb hl => hg89.get hl (by have : w3.heap.size ≤ b := hb; omega))).mono (fun b _ hb => by have : w3.heap.size ≤ b := hb; exact ⟨by omega, by omega⟩)
  have hgo8 : Go1 p w w9 := (((hgo2.trans hg3).trans hg6).block2 (hA6 _)).trans hg89
  have cE := Rg.blk_cells hr8
  simp only [XR.cells] at cE
  have FI : Hid (∀ W5, Go1 w.heap.size w9 W5 → Rx p w (Q.1, (Q.2.need 4 ⟨#[41]⟩).up) (XR.val r) W5) := hid (fun W5 h5 => giveG (R := (Q.1, (Q.2.need 4 ⟨#[41]⟩).up)) hpw rfl hx8 hps9 hgo8 (fun h => hgd (need_good (up_good h))) h5)
  have H05 := hid h08
  clear hps2 hps3 hps6 hps7 hps8 hps9 hg3 hg6 hg8 hg9 hg89 hgo2 hgo8 h02 h03 h08 hx hx8 hr8 hgd hq hA6
  go_wp2_with (guard_target =~ wpList _ _ _ (Oper.mk _ (Op.store 26 _ _) _ _ _ _ :: _) _ _; refine st_row (ty := 26) rfl rfl w.heap.size _ rfl rfl 26 _ (H05.out) (by kernel_rfl) rfl (by kernel_rfl) ?_; intro W5 hW5 gW5 zW5)
  (try change bodyPost _ _ _ _ _ _)
  have hT := Rg.blk_cells hW5
  refine bodyPost_ret (v := XR.val r) (by simp [results, Tryz.results130, go_sem, XR.val, nul, hT]; try rfl) rfl ⟨_, rfl, FI.out W5 gW5⟩
end Go.Proofs.YtbeinfhgfflneaaGreat
end

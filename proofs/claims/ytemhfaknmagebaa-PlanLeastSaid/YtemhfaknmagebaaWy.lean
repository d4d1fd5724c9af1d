/- plan: the ways of a table. -/
import Derived.Test.YtemhfaknmagebaaWk
namespace Go.Proofs.Ytemhfaknmagebaa
open Go.RowKit
set_option linter.unusedSimpArgs false
set_option linter.unusedVariables false
attribute [local go_sem] Rg.once_normal Rg.once_exit Rg.once_ret Rg.once_panic Rg.once_goto Rg.leads_value Rg.leads_skip Rg.leads_enter Rg.brings_value Rg.brings_skip Rg.brings_enter
attribute [local go_sem] run_store_complex
structure Zs where
  s : St
  oa : Option Addr
  c : Nat
def zCells (l : List Zs) : List Value := l.flatMap fun z => [.slice z.oa z.s.l.length z.c, .complex .f64 (Fl.fw z.s.a) (Fl.fw z.s.b), .int .i64 z.s.rows]
theorem zCells_cons (p : Zs) (l : List Zs) : zCells (p :: l) = .slice p.oa p.s.l.length p.c :: .complex .f64 (Fl.fw p.s.a) (Fl.fw p.s.b) :: .int .i64 p.s.rows :: zCells l := rfl
theorem zCells_snoc (l : List Zs) (z : Zs) : zCells (l ++ [z]) = zCells l ++ [.slice z.oa z.s.l.length z.c, .complex .f64 (Fl.fw z.s.a) (Fl.fw z.s.b), .int .i64 z.s.rows] := by simp [zCells]
theorem zCells_get : ∀ (l : List Zs) (k : Nat) (h : k < l.length), (zCells l)[k * 3]? = some (.slice l[k].oa l[k].s.l.length l[k].c) ∧ (zCells l)[k * 3 + 1]? = some (.complex .f64 (Fl.fw l[k].s.a) (Fl.fw l[k].s.b)) ∧ (zCells l)[k * 3 + 2]? = some (.int .i64 l[k].s.rows)
  | [], k, h => by simp at h
  | x :: r, 0, _ => ⟨rfl, rfl, rfl⟩
  | x :: r, k + 1, h => by
    have := zCells_get r k (by simpa using h)
    rw [zCells_cons, show (k + 1) * 3 = k * 3 + 1 + 1 + 1 by omega]
    simpa using this
theorem s_info : (Try.prog.info? 47).map (fun i => (i.zero, i.size, i.bytes)) = some (some (.agg #[.slice none 0 0, .complex .f64 0 0, .int .i64 0]), 3, 48) := by kernel_rfl
/-- a plan in memory of its own -/
def ZOK (base : Nat) (w : World) (z : Zs) : Prop := z.s.l.length ≤ z.c ∧ PAt w z.oa z.s.l ∧ ∀ g o q, z.oa = some ⟨g, o, q⟩ → base ≤ g ∧ ∃ cur, w.heap[g]? = some (.cells cur 39 (0, 0))
theorem ZOK.gr {base : Nat} {w w' : World} {z : Zs} (h : ZOK base w z) (hg : Gr w w') : ZOK base w' z :=
  ⟨h.1, h.2.1.keep hg, fun g o q e => by
    obtain ⟨h1, cur, h2⟩ := h.2.2 g o q e
    exact ⟨h1, cur, by rw [hg.block g (Array.getElem?_eq_some_iff.1 h2).1]; exact h2⟩⟩
theorem ZOK.app {base base2 : Nat} {w w' : World} {z : Zs} {v : Value} {n : Nat} {xs : List Value} (h : ZOK base w z) (ho : w.ownsRow base2 47 3 v n xs) (hg : w.grownBy w' v.ownBlock) : ZOK base w' z := by
  have far : ∀ g o q, z.oa = some ⟨g, o, q⟩ → some g ≠ v.ownBlock := fun g o q e e2 => by
    obtain ⟨_, cur, h2⟩ := h.2.2 g o q e
    rcases ho.2 with ⟨rfl, _⟩ | ⟨g', cap, cur', rfl, _, hg', _⟩
    · simp [Value.ownBlock] at e2
    · simp [Value.ownBlock] at e2
      subst e2
      rw [h2] at hg'
      simp at hg'
  refine ⟨h.1, ?_, fun g o q e => ?_⟩
  · rcases h.2.1 with h1 | ⟨b, off, e, h1, h2⟩
    · exact .inl h1
    · have hb := far _ _ _ e
      exact .inr ⟨b, off, e, Nat.lt_of_lt_of_le h1 hg.size, fun k hk => ⟨hg.cell (h2 k hk).1 hb, hg.cell (h2 k hk).2 hb⟩⟩
  · obtain ⟨h1, cur, h2⟩ := h.2.2 g o q e
    exact ⟨h1, cur, by rw [hg.block g (Array.getElem?_eq_some_iff.1 h2).1 (far g o q e)]; exact h2⟩
/-- with's answer, in one shape -/
def WithU (w : World) (r : Option St) (e : Ending) (w' : World) : Prop := ∃ oy ny cy AY BY ry ok, e = .returned (.tuple #[.agg #[.slice oy ny cy, .complex .f64 AY BY, .int .i64 ry], .bool ok]) ∧ Gr w w' ∧ Hid (r.isSome = ok) ∧
  Hid (∀ y, r = some y → ny = y.l.length ∧ AY = Fl.fw y.a ∧ BY = Fl.fw y.b ∧ ry = y.rows ∧ ZOK w.heap.size w' ⟨y, oy, cy⟩)
theorem withU {w : World} {x : St} {oa : Option Addr} {c : Nat} : ∀ {r : Option St} {e : Ending} {w' : World}, WithAll w x oa c r e w' → WithU w r e w'
  | none, e, w', h => ⟨_, _, _, _, _, _, _, h.1, h.2, hid rfl, hid (fun y e => by cases e)⟩
  | some y, e, w', h => by
    obtain ⟨oy, cy, he, h1, h2, h3, h4⟩ := h
    exact ⟨_, _, _, _, _, _, _, he, h4, hid rfl, hid (fun y' e => by cases e; exact ⟨rfl, rfl, rfl, rfl, h1, h2, h3⟩)⟩
/-- the list of ways, on its way -/
structure Outs (base : Nat) (zs : List Zs) (v : Value) (w : World) : Prop where
  own : w.ownsRow (base + 1) 47 3 v zs.length (zCells zs)
  ok : ∀ z ∈ zs, ZOK base w z
theorem Outs.gr {base : Nat} {zs : List Zs} {v : Value} {w w' : World} (h : Outs base zs v w) (hg : Gr w w') : Outs base zs v w' :=
  ⟨h.own.kept (row := none) (hg.only _) (by cases v.ownBlock <;> simp), fun z hz => (h.ok z hz).gr hg⟩
def WaysP (w : World) (L : List St) (e : Ending) (w' : World) : Prop := ∃ v zs, e = .returned v ∧ zs.map Zs.s = L ∧ Outs w.heap.size zs v w' ∧ Gr w w'
theorem probes_cons {stats : List Tb} {preds : List Pr} {x : St} {t : Int} {i : Nat} {least : Int} (hi : i < preds.length) :
    probesR stats preds x t i (preds.drop i) least = if preds[i].t = t then match withR x (t, (i : Int)) stats preds with
      | none => probesR stats preds x t (i + 1) (preds.drop (i + 1)) least
      | some y => if least < 0 ∨ rowsOf stats t preds[i].c < least then y :: probesR stats preds x t (i + 1) (preds.drop (i + 1)) (rowsOf stats t preds[i].c) else probesR stats preds x t (i + 1) (preds.drop (i + 1)) least
    else probesR stats preds x t (i + 1) (preds.drop (i + 1)) least := by
  rw [List.drop_eq_getElem_cons hi]
  rfl
theorem probes_nil {stats : List Tb} {preds : List Pr} {x : St} {t : Int} {i : Nat} {least : Int} (hi : preds.length ≤ i) : probesR stats preds x t i (preds.drop i) least = [] := by
  rw [List.drop_eq_nil_iff.2 hi]
  rfl
theorem Outs.snoc {base : Nat} {zs : List Zs} {v v' : Value} {w w' : World} {y : St} {oy : Option Addr} {ny cy AY BY : Nat} {ry : Int} (h : Outs base zs v w) (e1 : ny = y.l.length) (e2 : AY = Fl.fw y.a) (e3 : BY = Fl.fw y.b) (e4 : ry = y.rows) (hz : ZOK base w ⟨y, oy, cy⟩)
    (ho : w'.ownsRow (base + 1) 47 3 v' (zs.length + 1) (zCells zs ++ [.slice oy ny cy, .complex .f64 AY BY, .int .i64 ry])) (hg : w.grownBy w' v.ownBlock) : Outs base (zs ++ [⟨y, oy, cy⟩]) v' w' := by
  subst e1 e2 e3 e4
  refine ⟨?_, fun z hm => ?_⟩
  · rw [zCells_snoc, List.length_append]
    exact ho
  · rcases List.mem_append.1 hm with hm | hm
    · exact (h.ok z hm).app h.own hg
    · rw [List.mem_singleton] at hm
      subst hm
      exact hz.app h.own hg
theorem Outs.grown {base : Nat} {zs : List Zs} {v : Value} {W w w' : World} (h : Outs base zs v w) (hW : W.heap.size = base + 1) (hs : Gr W w) (hg : w.grownBy w' v.ownBlock) : Gr W w' :=
  hs.grown hg (fun k hk => by have := (World.ownsRow.lt h.own k hk).1; omega)
theorem Outs.nil (base : Nat) (w : World) : Outs base [] (.slice none 0 0) w := ⟨World.ownsRow_nil _ _ _ _, by simp⟩
theorem ZOK.up {base base' : Nat} {w : World} {z : Zs} (h : ZOK base w z) (hb : base' ≤ base) : ZOK base' w z := ⟨h.1, h.2.1, fun g o q e => ⟨Nat.le_trans hb (h.2.2 g o q e).1, (h.2.2 g o q e).2⟩⟩
theorem probeV_U (o : Option Int) : ∃ A B ok, probeV o = .tuple #[.complex .f64 A B, .int .i64 (o.getD 0), .bool ok] := by
  cases o with
  | none => exact ⟨_, _, _, rfl⟩
  | some r => exact ⟨_, _, _, rfl⟩
theorem three_cells {w : World} {g : Nat} {a b c : Value} (h0 : w.cell? ⟨g, 0, none⟩ = some a) (h1 : w.cell? ⟨g, 1, none⟩ = some b) (h2 : w.cell? ⟨g, 2, none⟩ = some c) : ∀ j u, [a, b, c][j]? = some u → w.cell? ((⟨g, 0, none⟩ : Addr).add j) = some u := by
  intro j u hu
  have hadd : ∀ j, (⟨g, 0, none⟩ : Addr).add j = ⟨g, j, none⟩ := fun j => by unfold Addr.add; split <;> simp_all
  rw [hadd]
  match j, hu with
  | 0, hu => simp at hu; subst hu; exact h0
  | 1, hu => simp at hu; subst hu; exact h1
  | 2, hu => simp at hu; subst hu; exact h2
theorem three_one {oy : Option Addr} {ny cy AY BY : Nat} {ry : Int} : ∀ u ∈ [Value.slice oy ny cy, .complex .f64 AY BY, .int .i64 ry], u.oneCell' = true := by
  intro u hu
  simp at hu
  rcases hu with rfl | rfl | rfl <;> rfl
set_option maxHeartbeats 4000000 in
set_option maxRecDepth 100000 in
theorem ways_any (x : St) (oa os oq : Option Addr) (c cs cq : Nat) (stats : List Tb) (preds : List Pr) (t : Nat) (w : World) (ht : t < stats.length) (hl : x.l.length ≤ 1000000) (hns : stats.length ≤ 9223372036854775807) (hnq : preds.length ≤ 1000000)
    (hp : PAt w oa x.l) (hS : SAt w os stats) (hQ : QAt w oq preds) (hx : Sm x) (hxr : x.rows ≤ 9223372036854775807) :
    Calls Try.prog 15 #[x.val oa c, .slice os stats.length cs, .slice oq preds.length cq, .int .i64 (t : Int)] w (WaysP w (waysR stats preds x (t : Int))) := by
  obtain ⟨i0, hi, hz0, hz1, hz2⟩ := info_parts s_info
  have HW := fun p W (hg : Gr w W) => (with_any x oa os oq c cs cq stats preds p W hl hns (by omega) (hp.keep hg) (by rcases hS with h | ⟨b, off, e, h⟩; exact .inl h; exact .inr ⟨b, off, e, h.keep hg⟩) (by rcases hQ with h | ⟨b, off, e, h⟩; exact .inl h; exact .inr ⟨b, off, e, h.keep hg⟩) hx hxr).mono fun e w' h => withU h
  rcases hS with hS | ⟨b, off, rfl, hS⟩
  · rw [hS] at ht; simp at ht
  obtain ⟨t0, t1, t2, t3, t4, t5⟩ := hS t ht
  have P := fun col W (hg : Gr w W) => probe_at stats[t].rows stats[t].pages col stats[t].oi stats[t].ci stats[t].ix W t4 (t3.keep hg) t5
  have HR : ∀ col r, probeL stats[t].rows col stats[t].ix = r → rowsOf stats (t : Int) col = r.getD 0 := fun col r h => by
    unfold rowsOf
    simp [ht, h]
  generalize stats[t] = T at *
  have hQ2 := hid hQ
  have hHR := hid HR
  have HWd := hid (show waysR stats preds x (t : Int) = (withR x ((t : Int), -1) stats preds).toList ++ probesR stats preds x (t : Int) 0 preds (-1) from rfl)
  obtain ⟨WL, hWL⟩ : ∃ L, L = waysR stats preds x (t : Int) := ⟨_, rfl⟩
  rw [← hWL] at HWd ⊢
  have hWS := hid (show stats.length = stats.length from rfl)
  unfold St.val at HW ⊢
  generalize Fl.fw x.a = XA at *
  generalize Fl.fw x.b = XB at *
  have HWh := hid HW
  have HPh := hid P
  have b0 := lt_of_cell t0
  have b1 : b < w.heap.size + 1 := by omega
  have gns : decide ((stats.length : Int) ≤ (t : Int)) = false := by simp; omega
  have gns2 : decide (stats.length ≤ t) = false := by simp; omega
  clear hp hQ hS HR P HW hWL t3 hx
  go_enter Try.func15, Try.ntmps15
  go_wp2_with fail
  refine (HWh.out ((t : Int), -1) _ ?_).mono ?_
  · exact (Gr.refl w).alloc _
  rintro e w1 ⟨oy, ny, cy, AY, BY, ry, ok, rfl, hg, hok, hy⟩
  obtain ⟨W1, hW1⟩ : ∃ W, W = w.alloc (.cells #[.slice oa x.l.length c, .complex .f64 XA XB, .int .i64 x.rows] 47) := ⟨_, rfl⟩
  have gW : Gr w W1 := by rw [hW1]; exact (Gr.refl _).alloc _
  have sW : W1.heap.size = w.heap.size + 1 := by rw [hW1]; simp
  have x0 : W1.cell? ⟨w.heap.size, 0, none⟩ = some (.slice oa x.l.length c) := by rw [hW1]; go_simp
  have x1 : W1.cell? ⟨w.heap.size, 1, none⟩ = some (.complex .f64 XA XB) := by rw [hW1]; go_simp
  have x2 : W1.cell? ⟨w.heap.size, 2, none⟩ = some (.int .i64 x.rows) := by rw [hW1]; go_simp
  rw [← hW1] at hg hy
  have hy : Hid (∀ y, withR x ((t : Int), -1) stats preds = some y → ny = y.l.length ∧ AY = Fl.fw y.a ∧ BY = Fl.fw y.b ∧ ry = y.rows ∧ ZOK w.heap.size w1 ⟨y, oy, cy⟩) := hid (fun y e => by
    obtain ⟨a1, a2, a3, a4, a5⟩ := hy.out y e
    exact ⟨a1, a2, a3, a4, a5.up (by omega)⟩)
  clear hW1
  go_upto_if 29 with (fail)
  go_cut [9] from 30 to 33 (fun s9 wx => ∃ zs, Hid (Outs w.heap.size zs s9 wx) ∧ Hid (zs.map Zs.s = (withR x ((t : Int), -1) stats preds).toList) ∧ Gr W1 wx)
  case first =>
    cases ok
    · go_wp2
      go_meet
      have hn : withR x ((t : Int), -1) stats preds = none := by
        cases h : withR x ((t : Int), -1) stats preds with
        | none => rfl
        | some y => have := hok.out; rw [h] at this; cases this
      exact ⟨[], hid (Outs.nil _ _), hid (by rw [hn]; rfl), hg.alloc _⟩
    · obtain ⟨y, hyy⟩ : ∃ y, withR x ((t : Int), -1) stats preds = some y := by
        cases h : withR x ((t : Int), -1) stats preds with
        | none => have := hok.out; rw [h] at this; cases this
        | some y => exact ⟨y, rfl⟩
      have HY := hid (hy.out y hyy)
      have HN := hid hyy
      clear hyy hy hok
      go_wp2_with (at_builtin; refine wpList_append_own _ rfl _ _ 51 rfl (w.heap.size + 1) 47 i0 (.agg #[.slice none 0 0, .complex .f64 0 0, .int .i64 0]) 3 48 Try.underlying51 hi hz0 hz1 hz2 rfl (by decide) _ _ _ rfl (World.ownsRow_nil _ _ _ _) ⟨w1.heap.size + 1, 0, none⟩ 1 1 [.slice oy ny cy, .complex .f64 AY BY, .int .i64 ry] rfl rfl ?c1 ?c2 ?c3 ?c4 ?c5 ?_)
      case c1 => exact three_cells (by go_simp) (by go_simp) (by go_simp)
      case c2 => exact three_one
      case c3 => unfold maxLen; omega
      case c4 => omega
      case c5 => have := hg.size; simp; omega
      intro v' w2 hown2 hg2 _
      have hO : Hid (Outs w.heap.size [⟨y, oy, cy⟩] v' w2) := hid (by
        obtain ⟨a1, a2, a3, a4, a5⟩ := HY.out
        exact Outs.snoc (Outs.nil _ _) a1 a2 a3 a4 ((a5.gr ((Gr.refl _).alloc _)).gr ((Gr.refl _).alloc _)) hown2 hg2)
      have hG : Gr W1 w2 := (Outs.nil w.heap.size _).grown sW ((hg.alloc _).alloc _) hg2
      clear hown2 hg2
      go_wp2
      go_meet
      exact ⟨[⟨y, oy, cy⟩], hO, hid (by rw [HN.out]; rfl), hG⟩
  case rest =>
    obtain ⟨zs0, hO0, hL0, hG0⟩ := hcut
    have hzl : zs0.length ≤ 1 := by
      have := congrArg List.length hL0.out
      rw [List.length_map] at this
      rw [this]
      cases withR x ((t : Int), -1) stats preds <;> simp
    have HWd2 : Hid (zs0.map Zs.s ++ probesR stats preds x (t : Int) 0 (preds.drop 0) (-1) = WL) := hid (by rw [hL0.out, HWd.out]; rfl)
    clear hL0 HWd hy hok hg
    go_wp2_with fail
    go_loopw [9, 12, 36] (fun s9 s12 i wr => ∃ (k : Nat) (zs : List Zs) (least : Int), i = .int .i64 k ∧ s12 = .int .i64 least ∧ k ≤ preds.length ∧ zs.length ≤ k + 1 ∧ Hid (Outs w.heap.size zs s9 wr) ∧ Hid (zs.map Zs.s ++ probesR stats preds x t k (preds.drop k) least = WL) ∧ Gr W1 wr) (fun _ _ i _ => preds.length - (intOf i).toNat)
    case atStart => exact ⟨0, zs0, -1, rfl, rfl, Nat.zero_le _, hzl, hO0, HWd2, hG0⟩
    case round =>
      obtain ⟨k, zs, least, rfl, rfl, hk, hzk, HO, HL, hG⟩ := hrel
      have hgw := gW.trans hG
      have m0 := hgw.keep t0
      have m1 := hgw.keep t1
      have m2 := hgw.keep t2
      have y0 := hG.keep x0
      have y1 := hG.keep x1
      have y2 := hG.keep x2
      have z1 := lt_of_cell m0
      have z2 := lt_of_cell y0
      clear t0 t1 t2 x0 x1 x2 HWd2 hO0 hG0
      by_cases hlt : k < preds.length
      · rcases hQ2.out with hQ | ⟨b', off', rfl, hQ⟩
        · rw [hQ] at hlt; simp at hlt
        obtain ⟨q0, q1, q2, q3⟩ := hQ k hlt
        have q0 := hgw.keep q0
        have q1 := hgw.keep q1
        have q2 := hgw.keep q2
        have q3 := hgw.keep q3
        have z3 := lt_of_cell q0
        have HL2 := HL.out
        rw [probes_cons hlt] at HL2
        generalize preds[k] = q at *
        have gk : decide ((preds.length : Int) ≤ (k : Int)) = false := by simp; omega
        have gk2 : decide (preds.length ≤ k) = false := by simp; omega
        clear hQ HL
        by_cases hqt : q.t = (t : Int)
        · rw [if_pos hqt] at HL2
          have e1 : (q.t != (t : Int)) = false := by simpa using hqt
          have HL3 := hid HL2
          clear HL2
          have HP := fun W h => HPh.out q.c W h
          have HR2 := hHR.out q.c _ rfl
          obtain ⟨A2, B2, ok2, hpv⟩ := probeV_U (probeL T.rows q.c T.ix)
          rw [hpv] at HP
          obtain ⟨R, hR⟩ : ∃ R, (probeL T.rows q.c T.ix).getD 0 = R := ⟨_, rfl⟩
          rw [hR] at HP HR2
          rw [HR2] at HL3
          have HPH := hid HP
          clear HP HR2 hR hpv hHR HPh
          have zf1 : (wr.alloc (.cells #[.int .i64 (t : Int), .int .i64 q.c, .int .i64 q.f, .int .i64 q.g] 33)).cell? ⟨wr.heap.size, 1, none⟩ = some (.int .i64 q.c) := by go_simp
          go_wp2_with fail
          refine (HWh.out ((t : Int), (k : Int)) _ ?_).mono ?_
          · exact hgw.alloc _
          rintro e w2 ⟨oy, ny, cy, AY, BY, ry, ok, rfl, hg, hok, hy⟩
          have d1 := hg.keep zf1
          have hg2 : Gr w w2 := (hgw.alloc _).trans hg
          have hG2 : Gr W1 w2 := (hG.alloc _).trans hg
          have HO2 : Hid (Outs w.heap.size zs u9 w2) := hid ((HO.out.gr ((Gr.refl _).alloc _)).gr hg)
          have hy2 : Hid (∀ y, withR x ((t : Int), (k : Int)) stats preds = some y → ny = y.l.length ∧ AY = Fl.fw y.a ∧ BY = Fl.fw y.b ∧ ry = y.rows ∧ ZOK w.heap.size w2 ⟨y, oy, cy⟩) := hid (fun y e => by
            obtain ⟨a1, a2, a3, a4, a5⟩ := hy.out y e
            exact ⟨a1, a2, a3, a4, a5.up (by have := hgw.size; simp; omega)⟩)
          have zz := hg.size
          simp only [World.size_alloc] at zz
          have zz1 : wr.heap.size < w2.heap.size := by omega
          have m0 := ((Gr.refl wr).alloc _ |>.trans hg).keep m0
          have m1 := ((Gr.refl wr).alloc _ |>.trans hg).keep m1
          have m2 := ((Gr.refl wr).alloc _ |>.trans hg).keep m2
          have z1 := lt_of_cell m0
          generalize wr.heap.size = B3 at *
          clear hg hy HO q0 q1 q2 q3 y0 y1 y2 zf1 hG hgw zz z2 z3
          go_upto_region 11 with (fail)
          obtain ⟨Z, hZ⟩ : ∃ Z, Z = w2.alloc (.cells #[.slice oy ny cy, .complex .f64 AY BY, .int .i64 ry] 47) := ⟨_, rfl⟩
          have gZ : Gr w2 Z := by rw [hZ]; exact (Gr.refl _).alloc _
          have r0 : Z.cell? ⟨w2.heap.size, 0, none⟩ = some (.slice oy ny cy) := by rw [hZ]; go_simp
          have r1 : Z.cell? ⟨w2.heap.size, 1, none⟩ = some (.complex .f64 AY BY) := by rw [hZ]; go_simp
          have r2 : Z.cell? ⟨w2.heap.size, 2, none⟩ = some (.int .i64 ry) := by rw [hZ]; go_simp
          rw [← hZ]
          clear hZ
          have m0 := gZ.keep m0
          have m1 := gZ.keep m1
          have m2 := gZ.keep m2
          have d1 := gZ.keep d1
          have zz2 := lt_of_cell r0
          have zz1 := lt_of_cell d1
          have zz0 := lt_of_cell m0
          have hgZ := hg2.trans gZ
          have HP3 := fun W (h : Rg.Up Z W) => HPH.out W (hgZ.trans h)
          generalize w2.heap.size = B4 at *
          refine Rg.region_plan 11 [0, 1, 2, 3, 4, 5, 6, 7, 8] [9, 10] [] (Below.drew (Below.refl _ _)) (by kernel_rfl) (by kernel_rfl) (fun _ _ d _ _ h => by cases d <;> exact h) ?_
          simp only [Rg.opsAt, List.append_eq, List.cons_append, List.nil_append, List.filterMap_cons, List.filterMap_nil, List.getElem?_toArray, List.getElem?_cons_zero, List.getElem?_cons_succ, List.drop_succ_cons, List.drop_zero]
          repeat (first
              | (refine Rg.wpDets_skip (by rfl) ?_; simp only [Act.put, List.setIfInBounds_toArray, List.set_cons_zero, List.set_cons_succ])
              | (refine Rg.wpDets_step ?_ (by rfl) (fun w hS => ?_) ?_
                 rotate_left
                 · have hc := Gr.cells hS
                   have hf := Gr.frees hS
                   go_simp
                   first
                   | (refine ⟨?_, Below.refl _ _⟩; with_reducible rfl)
                   | ((with_reducible refine (HP3 _ hS).mono ?_); rintro e w' ⟨rfl, hg⟩; refine ⟨?_, hg⟩; with_reducible rfl)
                 simp only [Act.put, List.setIfInBounds_toArray, List.set_cons_zero, List.set_cons_succ]))
          refine Rg.wpDets_nil ?_
          first
          | (refine Rg.wpFlts_skip (by rfl) ?_; simp only [Act.put, List.setIfInBounds_toArray, List.set_cons_zero, List.set_cons_succ])
          | (refine Rg.wpFlts_step ?_ (by rfl) (fun w => ?_) ?_
             rotate_left
             · go_simp
               try with_reducible rfl
             simp only [Act.put, List.setIfInBounds_toArray, List.set_cons_zero, List.set_cons_succ])
          first
          | (refine Rg.wpFlts_skip (by rfl) ?_; simp only [Act.put, List.setIfInBounds_toArray, List.set_cons_zero, List.set_cons_succ])
          | (refine Rg.wpFlts_step ?_ (by rfl) (fun w => ?_) ?_
             rotate_left
             · go_simp
               try with_reducible rfl
             simp only [Act.put, List.setIfInBounds_toArray, List.set_cons_zero, List.set_cons_succ])
          refine Rg.wpFlts_nil ?_
          refine Rg.wpLays_nil ?_
          intro w3 hK
          have hg : Gr _ w3 := hK.up
          have hc := Gr.cells hg
          have hf := Gr.frees hg
          have hz := Gr.size hg
          try simp only [World.size_alloc, World.size_setCell, World.size_drew] at hz
          try have : 0 < w3.heap.size := by omega
          try have : w.heap.size < w3.heap.size := by omega
          try have : w.heap.size + 1 < w3.heap.size := by omega
          try have : w.heap.size + 1 + 1 < w3.heap.size := by omega
          try have : w.heap.size + 1 + 1 + 1 < w3.heap.size := by omega
          try have : w1.heap.size < w3.heap.size := by omega
          try have : w1.heap.size + 1 < w3.heap.size := by omega
          try have : w2.heap.size < w3.heap.size := by omega
          try have : w2.heap.size + 1 < w3.heap.size := by omega
          have r0 := hg.keep r0
          have r1 := hg.keep r1
          have r2 := hg.keep r2
          have zz3 := lt_of_cell r0
          have zz4 : B4 < w3.heap.size + 1 := by omega
          have hg3 := hgZ.trans hg
          have hG3 := (hG2.trans gZ).trans hg
          have HO3 : Hid (Outs w.heap.size zs u9 w3) := hid ((HO2.out.gr gZ).gr hg)
          clear HO2 m0 m1 m2 d1 hG2 hgZ hg2 HP3
          cases ok
          · have hn : withR x ((t : Int), (k : Int)) stats preds = none := by
              cases h : withR x ((t : Int), (k : Int)) stats preds with
              | none => rfl
              | some y => have := hok.out; rw [h] at this; cases this
            have HL4 := HL3.out
            rw [hn] at HL4
            have HL5 := hid HL4
            clear HL4 HL3 hn hok hy2
            go_wp2
            exact ⟨⟨k + 1, zs, least, by go_num, rfl, by omega, by omega, HO3, HL5, hG3⟩, by simp [intOf]; omega⟩
          · obtain ⟨y, hyy⟩ : ∃ y, withR x ((t : Int), (k : Int)) stats preds = some y := by
              cases h : withR x ((t : Int), (k : Int)) stats preds with
              | none => have := hok.out; rw [h] at this; cases this
              | some y => exact ⟨y, rfl⟩
            have HY := hid (hy2.out y hyy)
            have HL4 := HL3.out
            rw [hyy] at HL4
            clear HL3 hyy hok hy2
            by_cases h1 : least < 0
            · simp only [h1, true_or, if_true] at HL4
              have HL4 := hid HL4
              have g1 : decide (least < 0) = true := by simpa using h1
              go_wp2_with (at_builtin; refine wpList_append_own _ rfl _ _ 51 rfl (w.heap.size + 1) 47 i0 (.agg #[.slice none 0 0, .complex .f64 0 0, .int .i64 0]) 3 48 Try.underlying51 hi hz0 hz1 hz2 rfl (by decide) _ _ _ rfl (HO3.out.own.alloc _) ⟨w3.heap.size, 0, none⟩ 1 1 [.slice oy ny cy, .complex .f64 AY BY, .int .i64 ry] rfl rfl ?c1 ?c2 ?c3 ?c4 ?c5 ?_)
              case c1 => exact three_cells (by go_simp) (by go_simp) (by go_simp)
              case c2 => exact three_one
              case c3 => unfold maxLen; omega
              case c4 => omega
              case c5 => have := hg3.size; have := hG3.size; simp; omega
              intro v' w4 hown2 hg2 _
              have hO : Hid (Outs w.heap.size (zs ++ [⟨y, oy, cy⟩]) v' w4) := hid (by
                obtain ⟨a1, a2, a3, a4, a5⟩ := HY.out
                exact Outs.snoc (HO3.out.gr ((Gr.refl _).alloc _)) a1 a2 a3 a4 (((a5.gr gZ).gr hg).gr ((Gr.refl _).alloc _)) hown2 hg2)
              have hG : Gr W1 w4 := (HO3.out.gr ((Gr.refl _).alloc _)).grown sW (hG3.alloc _) hg2
              clear hown2 hg2
              go_wp2
              exact ⟨⟨k + 1, zs ++ [⟨y, oy, cy⟩], R, by go_num, rfl, by omega, by simp; omega, hO, hid (by rw [← HL4.out]; simp), hG⟩, by simp [intOf]; omega⟩
            · have g1 : decide (least < 0) = false := by simpa using h1
              by_cases h2 : R < least
              · simp only [h2, or_true, if_true] at HL4
                have HL4 := hid HL4
                have g2 : decide (R < least) = true := by simpa using h2
                go_wp2_with (at_builtin; refine wpList_append_own _ rfl _ _ 51 rfl (w.heap.size + 1) 47 i0 (.agg #[.slice none 0 0, .complex .f64 0 0, .int .i64 0]) 3 48 Try.underlying51 hi hz0 hz1 hz2 rfl (by decide) _ _ _ rfl (HO3.out.own.alloc _) ⟨w3.heap.size, 0, none⟩ 1 1 [.slice oy ny cy, .complex .f64 AY BY, .int .i64 ry] rfl rfl ?e1 ?e2 ?e3 ?e4 ?e5 ?_)
                try case e1 => exact three_cells (by go_simp) (by go_simp) (by go_simp)
                case e2 => exact ⟨rfl, rfl, rfl⟩
                case e3 => unfold maxLen; omega
                case e4 => omega
                case e5 => have := hg3.size; have := hG3.size; simp; omega
                intro v' w4 hown2 hg2 _
                have hO : Hid (Outs w.heap.size (zs ++ [⟨y, oy, cy⟩]) v' w4) := hid (by
                  obtain ⟨a1, a2, a3, a4, a5⟩ := HY.out
                  exact Outs.snoc (HO3.out.gr ((Gr.refl _).alloc _)) a1 a2 a3 a4 (((a5.gr gZ).gr hg).gr ((Gr.refl _).alloc _)) hown2 hg2)
                have hG : Gr W1 w4 := (HO3.out.gr ((Gr.refl _).alloc _)).grown sW (hG3.alloc _) hg2
                clear hown2 hg2
                go_wp2
                exact ⟨⟨k + 1, zs ++ [⟨y, oy, cy⟩], R, by go_num, rfl, by omega, by simp; omega, hO, hid (by rw [← HL4.out]; simp), hG⟩, by simp [intOf]; omega⟩
              · have g2 : decide (R < least) = false := by simpa using h2
                simp only [h1, h2, or_self, if_false] at HL4
                have HL4 := hid HL4
                go_wp2
                exact ⟨⟨k + 1, zs, least, by go_num, rfl, by omega, by omega, HO3, HL4, hG3⟩, by simp [intOf]; omega⟩
        · rw [if_neg hqt] at HL2
          have e1 : (q.t != (t : Int)) = true := by simpa using hqt
          have HL3 := hid HL2
          clear HL2 hqt
          go_wp2
          exact ⟨⟨k + 1, zs, least, by go_num, rfl, by omega, by omega, hid (HO.out.gr ((Gr.refl _).alloc _)), HL3, hG.alloc _⟩, by simp [intOf]; omega⟩
      · obtain rfl : k = preds.length := by omega
        have HL2 : Hid (zs.map Zs.s = WL) := hid (by rw [← HL.out, probes_nil (Nat.le_refl _), List.append_nil])
        clear HL
        go_wp2
        go_ret
        exact ⟨_, zs, rfl, HL2.out, HO.out, hgw⟩
end Go.Proofs.Ytemhfaknmagebaa

/- 'commit': a row's open version becomes a committed one. -/
import Derived.Test.YthdnjokioboehaaGreatDoorTouch
import Derived.StillTailTactics
import Derived.Deep.Cut
import Derived.Deep.RegionLaw
namespace Go.Ju
open Go.RowKit
open Go.Proofs
open Go.ChangeMaps

theorem ins_self {α β : Type} [DecidableEq α] (f : α → β) (a : α) : ins f a (f a) = f := by
  funext x
  unfold ins
  split
  · rename_i e; rw [e]
  · rfl
set_option maxRecDepth 100000 in
set_option maxHeartbeats 1000000 in
theorem commitR_any (B : Nat) (g : Comp → Gh) (w : World) (y : Lay) (M : St) (k : Key) (id d : Int) (t : Tab) (r : RowS) (v : Ver) (pa : Option Addr) (hF : Fam B g w) (h : Rep y M g)
    (ht : aget M.tabs k = some t) (hr : aget t.rows id = some r) (ho : r.opn = some v) (hi : okI id) (hl : r.old.length ≤ 6) :
    Calls Tryz.prog 69 #[ptr y.p, ptr (y.rb k id), .agg #[.string k.1, .string k.2, .int .i64 d, .int .i64 id, .pointer pa]] w (Does B g w fun u g' => u = .tuple #[] ∧ ∃ y', Rep y' (M.commit1 M.time (k, id)) g' ∧ y'.p = y.p ∧ y'.rb = y.rb) := by
  have hm : M.commit1 M.time (k, id) = if v.gone && r.old.isEmpty then M.delRow k id else M.putRow k id (r.commit v M.time) := by simp [St.commit1, St.row, ht, hr, ho]
  have HE := Lib.hid (FEv.refl hF)
  obtain ⟨sv, op, hrow, hold, hop, d1, d2⟩ := h.rowCells hF ht hr
  rw [ho] at hop
  obtain ⟨vb, cs, rfl, hvb, rv, rfl, hrv⟩ := hop
  obtain ⟨Ar, cr, rfl, hcr, hspr⟩ := hrv
  have hrv : RowAt (g .imm) (.slice Ar v.row.length cr) v.row := ⟨Ar, cr, rfl, hcr, hspr⟩
  clear hcr hspr
  have v0 := (hF.holds .imm).cell hvb (i := 0) rfl
  have v1 := (hF.holds .imm).cell hvb (i := 1) rfl
  have v2 := (hF.holds .imm).cell hvb (i := 2) rfl
  have x0 : vb < w.heap.size := (hF.holds .imm).lt hvb
  have x2 : y.rb k id < w.heap.size := (hF.holds (.row k id)).lt hrow
  have HX := Lib.hid (And.intro h (And.intro ht (And.intro hr (And.intro hi (And.intro hl (And.intro hm (And.intro hrow (And.intro hold (And.intro hrv ho)))))))))
  clear h ht hr hi hl hm hrow hold hrv ho hF hvb
  unfold ptr at *
  go_enter Tryz.func69, Tryz.ntmps69
  go_upto_region 2 with (fail)
  have hne0 : w.heap.size + 1 ≠ w.heap.size := by omega
  refine World.abs (fun u => FEv B g w g u ∧ Beside g ((Gh.nil.put w.heap.size (.cells #[.string k.1, .string k.2, .int .i64 d, .int .i64 id, .pointer pa] 133)).put (w.heap.size + 1) (.cells #[.int .i64 v.time, .bool v.gone, .slice Ar v.row.length cr] 98)) u) ⟨(HE.out.more _).more _, by have := (Beside.new HE.out.fam (.cells #[.string k.1, .string k.2, .int .i64 d, .int .i64 id, .pointer pa] 133)).alloc (.cells #[.int .i64 v.time, .bool v.gone, .slice Ar v.row.length cr] 98) (HE.out.more _); rwa [World.size_alloc] at this⟩ ?_
  clear v0 v1 v2 x0 x2 d1 d2
  rintro u ⟨hu, hbk⟩
  have hkx : w.heap.size < w.heap.size + 1 := Nat.lt_succ_self _
  generalize hnv : w.heap.size + 1 = nv at *
  generalize hkxe : w.heap.size = kx at *
  obtain ⟨h, ht, hr, hi, hl, hm, hrow, hold, hrv, ho⟩ := HX.out
  obtain ⟨c0, c1, c2, c3⟩ := h.cells hu.fam
  have d2 : u.cell? ⟨y.rb k id, 2, none⟩ = some (.pointer (some ⟨vb, 0, none⟩)) := (hu.fam.holds (.row k id)).cell hrow rfl
  have z2 : u.frozen? ⟨y.rb k id, 2, none⟩ = false := (hu.fam.holds (.row k id)).frozen hrow
  have e0 : u.cell? ⟨nv, 0, none⟩ = some (.int .i64 v.time) := hbk.holds.cell (Gh.put_same _ _ _) rfl
  have z0 : u.frozen? ⟨nv, 0, none⟩ = false := hbk.holds.frozen (Gh.put_same _ _ _)
  have hA := hu.own hbk ((Ev.refl hbk.holds).setCell (b := nv) (i := 0) (Gh.put_same _ _ _) (.int .i64 M.time)) (by
    intro b hb
    by_cases e1 : b = nv
    · omega
    · rw [Gh.put_other _ _ e1] at hb
      by_cases e2 : b = kx
      · omega
      · rw [Gh.put_other _ _ e2] at hb; exact absurd rfl hb)
  rw [Gh.put_put] at hA
  have hB := (FEv.refl hA.1.fam).setCell (c := .row k id) (i := 2) hrow (.pointer none)
  have hR2 : Rep y (M.putRow k id { r with opn := none }) (upd g (.row k id) ((g (.row k id)).put (y.rb k id) (.cells (#[sv, .bool r.lost, .pointer (some ⟨vb, 0, none⟩), .int .i64 r.txn].setIfInBounds 2 (.pointer none)) 102 (0, 0)))) := by
    refine h.setRow ht hr _ (fun c n1 n2 n3 => upd_other _ _ n3) (by rw [upd_other _ _ (by simp)]; exact Sub.refl _) ?_
    rw [upd_same, upd_other _ _ (by simp)]
    exact ⟨_, _, Gh.put_same _ _ _, hold.keep_row hrow, rfl⟩
  obtain ⟨g2, hE2, hK2, hR2', hrow2, hsame⟩ : ∃ g2, FEv B g w g2 ((u.setCell ⟨nv, 0, none⟩ (.int .i64 M.time)).setCell ⟨y.rb k id, 2, none⟩ (.pointer none)) ∧ Beside g2 ((Gh.nil.put kx (.cells #[.string k.1, .string k.2, .int .i64 d, .int .i64 id, .pointer pa] 133)).put nv (.cells #[.int .i64 M.time, .bool v.gone, .slice Ar v.row.length cr] 98)) ((u.setCell ⟨nv, 0, none⟩ (.int .i64 M.time)).setCell ⟨y.rb k id, 2, none⟩ (.pointer none)) ∧ Rep y (M.putRow k id { r with opn := none }) g2 ∧
      g2 (.row k id) (y.rb k id) = some (.cells #[sv, .bool r.lost, .pointer none, .int .i64 r.txn] 102 (0, 0)) ∧ (∀ c, c ≠ .row k id → g2 c = g c) := ⟨_, hA.1.trans hB, hA.2.step hB, hR2, by rw [upd_same]; exact Gh.put_same _ _ _, fun c hc => upd_other _ _ hc⟩
  obtain ⟨A, cp, rfl⟩ := hold.slice
  have hmr : (M.putRow k id { r with opn := none }) = { M with tabs := aput M.tabs k (t.putRow id { r with opn := none }) } := by simp [St.putRow, ht]
  have HA := Lib.hid (And.intro hE2 (And.intro hK2 (And.intro hR2' (And.intro hrow2 (And.intro hsame hmr)))))
  clear h ht hr hi hl hm hrow hold hrv ho hu hbk hA hB hR2 hE2 hK2 hR2' hrow2 hsame hmr
  go_upto_region 4 with (fail)
  refine World.abs (fun u2 => FEv B g w g2 u2 ∧ Beside g2 ((Gh.nil.put kx (.cells #[.string k.1, .string k.2, .int .i64 d, .int .i64 id, .pointer pa] 133)).put nv (.cells #[.int .i64 M.time, .bool v.gone, .slice Ar v.row.length cr] 98)) u2) ⟨HA.out.1, HA.out.2.1⟩ ?_
  clear c0 c1 c2 c3 d2 z2 e0 z0
  rintro u2 ⟨hu2, hk2⟩
  have hkne : kx ≠ nv := by omega
  have e1 : u2.cell? ⟨nv, 1, none⟩ = some (.bool v.gone) := hk2.holds.cell (Gh.put_same _ _ _) rfl
  have r0 : u2.cell? ⟨y.rb k id, 0, none⟩ = some (.slice A r.old.length cp) := (hu2.fam.holds (.row k id)).cell HA.out.2.2.2.1 rfl
  by_cases hdel : v.gone = true ∧ r.old = []
  · obtain ⟨hg, hol⟩ := hdel
    have hM : M.commit1 M.time (k, id) = M.delRow k id := by rw [HX.out.2.2.2.2.2.1]; simp [hg, hol]
    rw [hg] at e1
    rw [hol] at r0
    simp only [List.length_nil] at r0
    have f0 : u2.cell? ⟨kx, 0, none⟩ = some (.string k.1) := hk2.holds.cell (by rw [Gh.put_other _ _ hkne]; exact Gh.put_same _ _ _) rfl
    have f1 : u2.cell? ⟨kx, 1, none⟩ = some (.string k.2) := hk2.holds.cell (by rw [Gh.put_other _ _ hkne]; exact Gh.put_same _ _ _) rfl
    have f2 : u2.cell? ⟨kx, 2, none⟩ = some (.int .i64 d) := hk2.holds.cell (by rw [Gh.put_other _ _ hkne]; exact Gh.put_same _ _ _) rfl
    have f3 : u2.cell? ⟨kx, 3, none⟩ = some (.int .i64 id) := hk2.holds.cell (by rw [Gh.put_other _ _ hkne]; exact Gh.put_same _ _ _) rfl
    obtain ⟨h, ht, hr, hi, hl, hm, hrow, hold, hrv, ho⟩ := HX.out
    obtain ⟨c0, c1, c2, c3⟩ := HA.out.2.2.1.cells hu2.fam
    have hgt : g2 (.tab k) = g (.tab k) := HA.out.2.2.2.2.1 _ (by simp)
    have hgm : g2 .tM = g .tM := HA.out.2.2.2.2.1 _ (by simp)
    obtain ⟨htb, hmp⟩ := h.tab k t (aget_mem ht)
    have htabs := hu2.fam.holds (.tab k)
    rw [hgt] at htabs
    have htms := hu2.fam.holds .tM
    rw [hgm] at htms
    have d1 : u2.cell? ⟨y.tb k, 0, none⟩ = some (.map (some (y.rM k))) := htabs.cell htb rfl
    have l1 := h.lookT k (W := u2.drew) htms
    rw [ht] at l1
    obtain ⟨x, hx1, hx2, hx3⟩ := MapAt.delete klI Tryz.underlying92 htabs hmp (k := id) hi 3 0
    have hdd := hx1 u2.drew htabs
    have HD := Lib.hid (And.intro hu2 (And.intro htabs (And.intro hgt (And.intro hx2 (And.intro hx3 htb)))))
    have HM := Lib.hid hM
    clear hu2 hk2 hgt htb hmp htabs hx1 hx2 hx3 htms hgm h ht hr hi hl hm hrow hold hrv ho hg hol hM
    unfold encI at hdd
    unfold encK ptr at l1
    go_wp2
    refine wp_region_still_tail 12 (by kernel_rfl) (by kernel_rfl) ?_
    change wpStill _ _ u2.drew (fun a' => wpList _ _ _ _ a' u2.drew) _ _
    simp only [List.take_succ_cons, List.take_zero, List.drop_succ_cons, List.drop_zero]
    repeat still_step
    refine wpStill_nil ?_
    go_wp2
    (try simp only [Exit.inBlock, Exit.then])
    refine bodyPost_ret (results_none rfl _ _ _) rfl ?_
    obtain ⟨hu2, htabs, hgt, hx2, hx3, htb⟩ := HD.out
    obtain ⟨h, ht, hr, hi, hl, hm, hrow, hold, hrv, ho⟩ := HX.out
    have hfe := hu2.drew.then (c := .tab k) (by rw [hgt]; exact hx2 u2.drew htabs)
    refine ⟨_, _, rfl, hfe, rfl, { y with rM := ins y.rM k (y.rM k), rb := ins y.rb k (y.rb k) }, ?_, rfl, ins_self _ _⟩
    rw [HM.out, show M.delRow k id = { M with tabs := aput M.tabs k { t with rows := adel t.rows id } } by simp [St.delRow, ht]]
    refine h.setTab ht _ _ _ (fun d n1 n2 n3 n4 => by rw [upd_other _ _ n3, HA.out.2.2.2.2.1 _ (n4 _)]) (by rw [upd_other _ _ (by simp), HA.out.2.2.2.2.1 _ (by simp)]; exact Sub.refl _) ?_ (fun i q hq => ?_)
    · rw [upd_same]
      exact ⟨by rw [Gh.put_other _ _ (fun e => by obtain ⟨es, clk, h1, _⟩ := (h.tab k t (aget_mem ht)).2; rw [← e, htb] at h1; cases h1)]; exact htb, hx3⟩
    · obtain ⟨h1, h2⟩ := mem_adel hq
      rw [upd_other _ _ (by simp), upd_other _ _ (by simp), HA.out.2.2.2.2.1 _ (by simpa using h2), HA.out.2.2.2.2.1 _ (by simp)]
      exact h.row k t (aget_mem ht) i q h1
  · have hM : M.commit1 M.time (k, id) = M.putRow k id (r.commit v M.time) := by
      rw [HX.out.2.2.2.2.2.1]
      have : (v.gone && r.old.isEmpty) = false := by
        cases hg : v.gone with
        | false => rfl
        | true =>
          cases hol : r.old with
          | nil => exact absurd ⟨hg, hol⟩ hdel
          | cons a l => rfl
      rw [this]
      rfl
    have HM := Lib.hid hM
    have e0 : u2.cell? ⟨nv, 0, none⟩ = some (.int .i64 M.time) := hk2.holds.cell (Gh.put_same _ _ _) rfl
    have e2 : u2.cell? ⟨nv, 2, none⟩ = some (.slice Ar v.row.length cr) := hk2.holds.cell (Gh.put_same _ _ _) rfl
    have hcase : v.gone = false ∨ (v.gone = true ∧ ((r.old.length : Int) == 0) = false) := by
      cases hg : v.gone with
      | false => exact .inl rfl
      | true =>
        refine .inr ⟨rfl, ?_⟩
        cases hol : r.old with
        | nil => exact absurd ⟨hg, hol⟩ hdel
        | cons a l => simp; omega
    have HU2 := Lib.hid (And.intro hu2 hk2)
    clear hM hdel hu2 hk2
    rcases hcase with hg | ⟨hg, hlen0⟩
    all_goals
      rw [hg] at e1
      obtain ⟨i0, hi0, hz0, hz1, hz2⟩ := info_parts Tryz.infoVer
      obtain ⟨css, hall, hown⟩ := HX.out.2.2.2.2.2.2.2.1
      have hlenx := HX.out.2.2.2.2.1
      have hAp := HU2.out.1.drew.alloc (.row k id) (.cells #[.int .i64 M.time, .bool v.gone, .slice Ar v.row.length cr] 98)
      have hbl : (g2 (.row k id)) u2.heap.size = none := (HU2.out.1.fam.holds (.row k id)).fresh
      have hrlt : y.rb k id < u2.heap.size := (HU2.out.1.fam.holds (.row k id)).lt HA.out.2.2.2.1
      have hrne : y.rb k id ≠ u2.heap.size := (HU2.out.1.fam.holds (.row k id)).ne_size HA.out.2.2.2.1
      have hG0 : Holds ((g2 (.row k id)).put u2.heap.size (.cells #[.int .i64 M.time, .bool v.gone, .slice Ar v.row.length cr] 98)) (u2.alloc (.cells #[.int .i64 M.time, .bool v.gone, .slice Ar v.row.length cr] 98)).drew := by have := hAp.fam.holds (.row k id); rw [upd_same] at this; exact this
      obtain ⟨css, hall, hown2⟩ : VersAt (g2 (.row k id)) (g .imm) (.slice A r.old.length cp) r.old := by
        obtain ⟨sv2, op2, h1, h2, h3⟩ := HA.out.2.2.1.row k (t.putRow id { r with opn := none }) (by rw [HA.out.2.2.2.2.2]; exact aget_mem (aget_put_same _ _ _)) id { r with opn := none } (aget_mem (aget_put_same _ _ _))
        rw [HA.out.2.2.2.1] at h1
        cases h1
        rw [HA.out.2.2.2.2.1 .imm (by simp)] at h2
        exact h2
      have hO0 : Own ((g2 (.row k id)).put u2.heap.size (.cells #[.int .i64 M.time, .bool v.gone, .slice Ar v.row.length cr] 98)) 98 3 (.slice A r.old.length cp) r.old.length css.flatten := hown2.keep (fun b o _ hb => Gh.put_some _ hb (fun e => by rw [e, hbl] at hb; cases hb))
      have hS0 : Span ((g2 (.row k id)).put u2.heap.size (.cells #[.int .i64 M.time, .bool v.gone, .slice Ar v.row.length cr] 98)) (some ⟨u2.heap.size, 0, none⟩) [.int .i64 M.time, .bool v.gone, .slice Ar v.row.length cr] := .inr ⟨u2.heap.size, 0, _, _, _, rfl, Gh.put_same _ _ _, by simp⟩
      have HAp := Lib.hid (fun v' G' w3 (happ : Appended ((g2 (.row k id)).put u2.heap.size (.cells #[.int .i64 M.time, .bool v.gone, .slice Ar v.row.length cr] 98)) (u2.alloc (.cells #[.int .i64 M.time, .bool v.gone, .slice Ar v.row.length cr] 98)).drew 98 3 (.slice A r.old.length cp) (r.old.length + 1) (css.flatten ++ [.int .i64 M.time, .bool v.gone, .slice Ar v.row.length cr]) v' G' w3) =>
        show G' (y.rb k id) = some (.cells #[.slice A r.old.length cp, .bool r.lost, .pointer none, .int .i64 r.txn] 102 (0, 0)) ∧ w3.cell? ⟨y.rb k id, 0, none⟩ = some (.slice A r.old.length cp) ∧ w3.frozen? ⟨y.rb k id, 0, none⟩ = false from by
          have hGr : G' (y.rb k id) = some (.cells #[.slice A r.old.length cp, .bool r.lost, .pointer none, .int .i64 r.txn] 102 (0, 0)) := by
            rw [happ.2.2.1 _ (fun e => by
              obtain ⟨_, ⟨hv, _⟩ | ⟨b5, cap5, cur5, hv, hb5, _⟩⟩ := hown2
              · rw [hv] at e; cases e
              · rw [hv] at e
                injection e with e
                change y.rb k id = b5 at e
                rw [← e, HA.out.2.2.2.1] at hb5
                cases hb5) (by rw [World.size_drew, World.size_alloc]; omega), Gh.put_other _ _ hrne]
            exact HA.out.2.2.2.1
          exact ⟨hGr, happ.1.holds.cell hGr rfl, happ.1.holds.frozen hGr⟩)
      have HStep := Lib.hid (fun A3 c3 G' w3 (happ : Appended ((g2 (.row k id)).put u2.heap.size (.cells #[.int .i64 M.time, .bool v.gone, .slice Ar v.row.length cr] 98)) (u2.alloc (.cells #[.int .i64 M.time, .bool v.gone, .slice Ar v.row.length cr] 98)).drew 98 3 (.slice A r.old.length cp) (r.old.length + 1) (css.flatten ++ [.int .i64 M.time, .bool v.gone, .slice Ar v.row.length cr]) (.slice A3 (r.old.length + 1) c3) G' w3) =>
        show ∃ g4, FEv B g w g4 (w3.setCell ⟨y.rb k id, 0, none⟩ (.slice A3 (r.old.length + 1) c3)) ∧ (∀ c, c ≠ .row k id → g4 c = g c) ∧ g4 (.row k id) (y.rb k id) = some (.cells #[.slice A3 (r.old.length + 1) c3, .bool r.lost, .pointer none, .int .i64 r.txn] 102 (0, 0)) ∧ VersAt (g4 (.row k id)) (g .imm) (.slice A3 (r.old.length + 1) c3) (r.old ++ [{ v with time := M.time }]) from by
          have hGr := (HAp.out _ G' w3 happ).1
          have h1 := hAp.then (c := .row k id) (G' := G') (by rw [upd_same]; exact happ.1)
          have h2 := h1.setCell (c := .row k id) (i := 0) (by rw [upd_same]; exact hGr) (.slice A3 (r.old.length + 1) c3)
          rw [upd_same, upd_upd, upd_upd] at h2
          refine ⟨_, h2, fun c hc => by rw [upd_other _ _ hc]; exact HA.out.2.2.2.2.1 c hc, by rw [upd_same]; exact Gh.put_same _ _ _, ?_⟩
          rw [upd_same]
          refine ⟨css ++ [[.int .i64 M.time, .bool v.gone, .slice Ar v.row.length cr]], hall.append (.cons ⟨_, rfl, HX.out.2.2.2.2.2.2.2.2.1⟩ .nil), ?_⟩
          have h5 := happ.2.1.keep_row (cs' := #[.slice A3 (r.old.length + 1) c3, .bool r.lost, .pointer none, .int .i64 r.txn]) (t' := 102) (fr' := (0, 0)) hGr
          simpa using h5)
      have HO := Lib.hid (And.intro hall (And.intro hown2 hAp))
      clear hAp hall hown2 hbl
      rw [hg] at hG0 hO0 hS0
      go_wp2
      go_region_law ((refine step_append_ev rfl _ _ 99 rfl hG0 98 i0 _ 3 40 Tryz.underlying99 hi0 hz0 hz1 hz2 rfl (by decide) (.slice A r.old.length cp) r.old.length css.flatten rfl hO0 (some ⟨u2.heap.size, 0, none⟩) 1 1 _ rfl rfl hS0 (by simp) (by simp [Value.oneCell']) (by unfold maxLen; omega) (by omega) ?_; intro v' G' w3 happ; rw [← hg] at happ; obtain ⟨hGr, t0, t1⟩ := HAp.out v' G' w3 happ; obtain ⟨A3, c3, rfl, hc3, _⟩ := happ.2.1.form))
      all_goals
        obtain ⟨g4, hE4, hs4, hr4, hv4⟩ := HStep.out _ _ _ _ happ
        refine World.abs (FEv B g w g4) hE4 ?_
        have H4 := Lib.hid (And.intro hs4 (And.intro hr4 hv4))
        clear hE4 hs4 hr4 hv4 happ hGr t0 t1 e0 e1 e2 r0 hG0 hO0 hS0 hrlt hrne
        rintro u4 hu4
        have q0 : u4.cell? ⟨y.rb k id, 0, none⟩ = some (.slice A3 (r.old.length + 1) c3) := (hu4.fam.holds (.row k id)).cell H4.out.2.1 rfl
        have q1 : u4.frozen? ⟨y.rb k id, 0, none⟩ = false := (hu4.fam.holds (.row k id)).frozen H4.out.2.1
        by_cases hn6 : r.old.length = 6
        · have hcm : r.commit v M.time = { r with old := (r.old ++ [{ v with time := M.time }]).drop 1, lost := true, opn := none } := by
            simp [RowS.commit, hn6]
          have hcv := H4.out.2.2
          rw [hn6] at q0 hcv hc3
          obtain ⟨css4, hall4, hown4⟩ := hcv
          have hlen4 : css4.length = 7 := by rw [← hall4.length, List.length_append, hn6]; rfl
          have hl4 : (r.old ++ [{ v with time := M.time }]).length = 7 := by rw [List.length_append, hn6]; rfl
          rw [hl4] at hown4
          obtain ⟨hx4, ⟨_, h0⟩ | ⟨b4, cap4, cur4, hv4, hb4, hb5, hb6, hb7, hb8⟩⟩ := hown4
          · cases h0
          injection hv4 with a1 a2 a3
          subst a1; subst a3
          have hown4 : Own (g4 (.row k id)) 98 3 (.slice (some ⟨b4, 0, none⟩) 7 c3) 7 css4.flatten := ⟨hx4, .inr ⟨b4, c3, cur4, rfl, hb4, hb5, hb6, hb7, hb8⟩⟩
          have hcl : ∀ x ∈ css4, x.length = 3 := fun x hx => by
            obtain ⟨j, hj⟩ := List.getElem?_of_mem hx
            have hlt := (List.getElem?_eq_some_iff.1 hj).1
            obtain ⟨c, hc⟩ : ∃ c, (r.old ++ [{ v with time := M.time }])[j]? = some c := ⟨_, List.getElem?_eq_getElem (by rw [hl4]; omega)⟩
            obtain ⟨cs, h1, rv, h2, _⟩ := hall4.get hc
            rw [hj] at h1
            cases h1
            rw [h2]
            rfl
          have hone : ∀ x ∈ (css4.drop 1).flatten, x.oneCell' = true := fun x hx => by
            obtain ⟨cs, hcs, hx⟩ := List.mem_flatten.1 hx
            have hcs := List.mem_of_mem_drop hcs
            obtain ⟨j, hj⟩ := List.getElem?_of_mem hcs
            have hlt := (List.getElem?_eq_some_iff.1 hj).1
            obtain ⟨c, hc⟩ : ∃ c, (r.old ++ [{ v with time := M.time }])[j]? = some c := ⟨_, List.getElem?_eq_getElem (by rw [hl4]; omega)⟩
            obtain ⟨cs', h1, rv, h2, A9, c9, h3, _⟩ := hall4.get hc
            rw [hj] at h1
            cases h1
            rw [h2, h3] at hx
            simp only [List.mem_cons, List.not_mem_nil, or_false] at hx
            rcases hx with rfl | rfl | rfl <;> rfl
          have hfd : (css4.drop 1).flatten = css4.flatten.drop (1 * 3) := flatten_drop 1 hcl
          have hCl := vsClone_any (g4 (.row k id)) (some ⟨b4, 3, none⟩) 6 (c3 - 1) (css4.drop 1).flatten u4 (hu4.fam.holds _) (by rw [hfd]; have := hown4.span.drop 3; rwa [Nat.zero_add] at this) (by rw [hfd, List.length_drop, hx4]) hone (by simp) (by omega)
          have hc31 : (c3 == 1) = false := by simp; omega
          have hc32 : ¬ c3 = 1 := by omega
          have HC := Lib.hid hCl
          have HN6 := Lib.hid hn6
          have H5 := Lib.hid (And.intro hu4 (And.intro hall4 hcm))
          clear hCl hone hfd hcl hown4 hb8 hb7 hb6 hb4 hx4 hlen4 hl4 hall4 hn6 hcm hu4
          go_wp2_with fail
          refine HC.out.mono ?_
          rintro e z ⟨v5, Gr, rfl, hb5, hh5, hf5, hown5⟩
          obtain ⟨A5, c5, rfl, _, _⟩ := hown5.form
          obtain ⟨hu4, hall4, hcm⟩ := H5.out
          have hE5 := hu4.of_below_new hb5 hh5 hf5 (.row k id)
          have hapr : Apart (g4 (.row k id)) Gr := fun b => by
            cases hc : g4 (.row k id) b with
            | none => exact .inl rfl
            | some o =>
              right
              cases hx : Gr b with
              | none => rfl
              | some x => have := hf5 b (by rw [hx]; simp); have := (hu4.fam.holds (.row k id)).lt hc; omega
          have hro5 : ((g4 (.row k id)).or Gr) (y.rb k id) = some (.cells #[.slice (some ⟨b4, 0, none⟩) (r.old.length + 1) c3, .bool r.lost, .pointer none, .int .i64 r.txn] 102 (0, 0)) := Gh.or_left _ _ H4.out.2.1
          have y0 : z.frozen? ⟨y.rb k id, 0, none⟩ = false := (hE5.fam.holds (.row k id)).frozen (by rw [upd_same]; exact hro5)
          have y1 : z.frozen? ⟨y.rb k id, 1, none⟩ = false := (hE5.fam.holds (.row k id)).frozen (by rw [upd_same]; exact hro5)
          have y2 : z.cell? ⟨y.rb k id, 0, none⟩ = some (.slice (some ⟨b4, 0, none⟩) (r.old.length + 1) c3) := (hE5.fam.holds (.row k id)).cell (by rw [upd_same]; exact hro5) rfl
          have y3 : z.cell? ⟨y.rb k id, 1, none⟩ = some (.bool r.lost) := (hE5.fam.holds (.row k id)).cell (by rw [upd_same]; exact hro5) rfl
          have H6 := Lib.hid (And.intro hE5 (And.intro hapr (And.intro hro5 (And.intro hown5 (And.intro hall4 hcm)))))
          clear hu4 hall4 hcm hE5 hapr hro5 hown5 hb5 hh5 hf5
          go_wp2
          go_end0
          obtain ⟨hE5, hapr, hro5, hown5, hall4, hcm⟩ := H6.out
          obtain ⟨h, ht, hr, hi, hl, hm, hrow, hold, hrv, ho⟩ := HX.out
          have hE6 := (hE5.setCell (c := .row k id) (i := 0) (by rw [upd_same]; exact hro5) (.slice A5 6 c5)).setCell (c := .row k id) (i := 1) (by rw [upd_same]; exact Gh.put_same _ _ _) (.bool true)
          rw [upd_same, upd_same, upd_upd, upd_upd, Gh.put_put] at hE6
          refine ⟨_, _, rfl, hE6, rfl, y, ?_, rfl, rfl⟩
          rw [HM.out, hcm]
          refine h.setRow ht hr _ (fun c n1 n2 n3 => by rw [upd_other _ _ n3, H4.out.1 c n3]) (by rw [upd_other _ _ (by simp), H4.out.1 _ (by simp)]; exact Sub.refl _) ?_
          rw [upd_same, upd_other _ _ (by simp), H4.out.1 .imm (by simp)]
          refine ⟨.slice A5 6 c5, .pointer none, by rw [Gh.put_same]; simp, ?_, rfl⟩
          refine ⟨css4.drop 1, hall4.drop 1, ?_⟩
          have h6l : ((r.old ++ [{ v with time := M.time }]).drop 1).length = 6 := by rw [List.length_drop, List.length_append, HN6.out]; rfl
          dsimp only
          rw [h6l]
          exact (hown5.keep (fun b o _ hb => Gh.or_right hapr hb)).keep_row hro5
        · have hn5 : r.old.length ≤ 5 := by omega
          have hcm : r.commit v M.time = { r with old := r.old ++ [{ v with time := M.time }], opn := none } := by
            have : ¬ 6 < (r.old ++ [{ v with time := M.time }]).length := by rw [List.length_append]; simp; omega
            simp only [RowS.commit]
            rw [if_neg this]
          have hw6 : IntKind.i64.wrap (((r.old.length + 1 : Nat) : Int) - 6) = ((r.old.length + 1 : Nat) : Int) - 6 := IntWalk.i64_in _ ⟨by omega, by omega⟩
          have HC := Lib.hid (And.intro hu4 hcm)
          clear hu4 hcm hn6
          go_wp2
          go_end0
          obtain ⟨hu4, hcm⟩ := HC.out
          obtain ⟨h, ht, hr, hi, hl, hm, hrow, hold, hrv, ho⟩ := HX.out
          refine ⟨_, _, rfl, hu4, rfl, y, ?_, rfl, rfl⟩
          rw [HM.out, hcm]
          refine h.setRow ht hr _ (fun c n1 n2 n3 => H4.out.1 c n3) (by rw [H4.out.1 _ (by simp)]; exact Sub.refl _) ?_
          rw [H4.out.1 .imm (by simp)]
          refine ⟨_, .pointer none, H4.out.2.1, ?_, rfl⟩
          exact H4.out.2.2
end Go.Ju

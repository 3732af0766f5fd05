/- 'undo': a change is undone. -/
import Derived.Test.YthdnjokioboehaaGreatDoorDrop
namespace Go.Ju
open Go.RowKit
open Go.Proofs
open Go.ChangeMaps

/-- A change is undone, where its table has not been dropped since. -/
def St.undoIn (M : St) (c : Chg) (r : RowS) : St := if c.before.isNone && r.old.isEmpty then M.delRow c.key c.id else M.putRow c.key c.id { r with opn := c.before }
theorem St.undo1_in {M : St} {c : Chg} {r : RowS} (hd : c.drops = M.dr c.key) (hr : M.row c.key c.id = some r) : M.undo1 c = M.undoIn c r := by
  simp only [St.undo1, hd, hr, St.undoIn, if_true]

theorem VersAt.slice {G I : Gh} {sv : Value} {l : List Ver} (h : VersAt G I sv l) : ∃ A c, sv = .slice A l.length c := by
  obtain ⟨css, _, h2⟩ := h
  obtain ⟨A, c, rfl, _, _⟩ := h2.form
  exact ⟨A, c, rfl⟩
theorem VersAt.keep_row {G I : Gh} {sv : Value} {l : List Ver} (h : VersAt G I sv l) {b : Nat} {cs cs' : Array Value} {fr fr' : Nat × Nat} (hb : G b = some (.cells cs 102 fr)) : VersAt (G.put b (.cells cs' 102 fr')) I sv l := by
  obtain ⟨css, h1, h2⟩ := h
  exact ⟨css, h1, h2.keep_row hb⟩

set_option maxRecDepth 100000 in
theorem undo_any (B : Nat) (g : Comp → Gh) (w : World) (y : Lay) (M : St) (c : Chg) (t : Tab) (r : RowS) (op : Value) (hF : Fam B g w) (h : Rep y M g)
    (ht : aget M.tabs c.key = some t) (hr : aget t.rows c.id = some r) (hi : okI c.id) (hl : r.old.length ≤ 1000) (hop : OpnAt (g .imm) op c.before) :
    Calls Tryz.prog 67 #[ptr y.p, .agg #[.string c.key.1, .string c.key.2, .int .i64 c.drops, .int .i64 c.id, op]] w (Does B g w fun u g' => u = .tuple #[] ∧ ∃ y', Rep y' (M.undoIn c r) g' ∧ y'.p = y.p ∧ (∀ x, g' (.log x) = g (.log x)) ∧ g' .imm = g .imm) := by
  have HE := Lib.hid (FEv.refl hF)
  have HR := Lib.hid h
  have HX := Lib.hid (And.intro ht (And.intro hr (And.intro hi (And.intro hl hop))))
  obtain ⟨pa, rfl⟩ := hop.ptr
  clear hF h
  unfold ptr
  go_enter Tryz.func67, Tryz.ntmps67
  go_wp2
  refine World.abs (fun u => FEv B g w g u ∧ Beside g (Gh.nil.put w.heap.size (.cells #[.string c.key.1, .string c.key.2, .int .i64 c.drops, .int .i64 c.id, .pointer pa] 133)) u) ⟨HE.out.more _, Beside.new HE.out.fam _⟩ ?_
  rintro u ⟨hu, hbk⟩
  generalize w.heap.size = kb at *
  have e0 : u.cell? ⟨kb, 0, none⟩ = some (.string c.key.1) := hbk.holds.cell (Gh.put_same _ _ _) rfl
  have e1 : u.cell? ⟨kb, 1, none⟩ = some (.string c.key.2) := hbk.holds.cell (Gh.put_same _ _ _) rfl
  have e2 : u.cell? ⟨kb, 2, none⟩ = some (.int .i64 c.drops) := hbk.holds.cell (Gh.put_same _ _ _) rfl
  have e3 : u.cell? ⟨kb, 3, none⟩ = some (.int .i64 c.id) := hbk.holds.cell (Gh.put_same _ _ _) rfl
  have e4 : u.cell? ⟨kb, 4, none⟩ = some (.pointer pa) := hbk.holds.cell (Gh.put_same _ _ _) rfl
  obtain ⟨c0, c1, c2, c3⟩ := HR.out.cells hu.fam
  obtain ⟨sv, op0, hrow, hold, hop0, d1, d2⟩ := HR.out.rowCells hu.fam ht hr
  have l1 := fun n => HR.out.lookT c.key (W := u.drewN n) (hu.fam.holds .tM)
  have l2 := fun n => HR.out.lookR (aget_mem ht) hi (W := u.drewN n) (hu.fam.holds (.tab c.key))
  rw [ht] at l1
  rw [hr] at l2
  unfold encI encK ptr at *
  have HU := Lib.hid (And.intro hu (And.intro hbk hrow))
  clear hu hbk ht hr hi hop hop0 hrow hold
  go_quiet (fail)
  go_wp2
  go_quiet (fail)
  refine World.abs (fun u' => FEv B g w g u' ∧ Beside g (Gh.nil.put kb (.cells #[.string c.key.1, .string c.key.2, .int .i64 c.drops, .int .i64 c.id, .pointer pa] 133)) u') ⟨(HU.out.1.drewN _).drewN _, (HU.out.2.1.drewN _).drewN _⟩ ?_
  clear e0 e1 e2 e3 e4 c0 c1 c2 c3 d1 d2 l1 l2 HU sv op0 u
  rintro u ⟨hu, hbk⟩
  obtain ⟨ht, hr, hi, hl, hop⟩ := HX.out
  have e4 : u.cell? ⟨kb, 4, none⟩ = some (.pointer pa) := hbk.holds.cell (Gh.put_same _ _ _) rfl
  obtain ⟨sv, op0, hrow, hold, hop0, d1, d2⟩ := HR.out.rowCells hu.fam ht hr
  obtain ⟨A, cp, rfl⟩ := hold.slice
  have z2 : u.frozen? ⟨y.rb c.key c.id, 2, none⟩ = false := (hu.fam.holds (.row c.key c.id)).frozen hrow
  have hA := (FEv.refl hu.fam).setCell (c := .row c.key c.id) (i := 2) hrow (.pointer pa)
  have hR2 : Rep y (M.putRow c.key c.id { r with opn := c.before }) (upd g (.row c.key c.id) ((g (.row c.key c.id)).put (y.rb c.key c.id) (.cells (#[.slice A r.old.length cp, .bool r.lost, op0, .int .i64 r.txn].setIfInBounds 2 (.pointer pa)) 102 (0, 0)))) := by
    refine HR.out.setRow ht hr _ (fun c n1 n2 n3 => upd_other _ _ n3) (by rw [upd_other _ _ (by simp)]; exact Sub.refl _) ?_
    rw [upd_same, upd_other _ _ (by simp)]
    exact ⟨_, _, Gh.put_same _ _ _, hold.keep_row hrow, hop⟩
  generalize hgg : upd g (.row c.key c.id) ((g (.row c.key c.id)).put (y.rb c.key c.id) (.cells (#[.slice A r.old.length cp, .bool r.lost, op0, .int .i64 r.txn].setIfInBounds 2 (.pointer pa)) 102 (0, 0))) = g2 at *
  have hk2 := hbk.step hA
  have hlogs : (∀ x, g2 (.log x) = g (.log x)) ∧ g2 .imm = g .imm := ⟨fun x => by rw [← hgg, upd_other _ _ (by simp)], by rw [← hgg, upd_other _ _ (by simp)]⟩
  have HLg := Lib.hid hlogs
  clear hlogs
  have HA := Lib.hid (And.intro (hu.trans hA) (And.intro hk2 (And.intro hR2 hgg)))
  have hsv : u.cell? ⟨y.rb c.key c.id, 0, none⟩ = some (.slice A r.old.length cp) := (hu.fam.holds (.row c.key c.id)).cell hrow rfl
  clear hu hbk ht hr hi hop hop0 hrow hold hA hR2 hk2 hgg hl
  cases hb : c.before with
  | some v =>
    have hb2 : ∃ b, pa = some ⟨b, 0, none⟩ := by
      have h5 := HX.out.2.2.2.2
      rw [hb] at h5
      obtain ⟨b, cs, h6, _⟩ := h5
      injection h6 with h6
      exact ⟨b, h6⟩
    obtain ⟨b, rfl⟩ := hb2
    have HM : Hid (M.undoIn c r = M.putRow c.key c.id { r with opn := c.before }) := by unfold Hid; simp [St.undoIn, hb]
    clear hb
    go_wp2
    go_end0
    exact ⟨_, _, rfl, HA.out.1, rfl, y, by rw [HM.out]; exact HA.out.2.2.1, rfl, HLg.out.1, HLg.out.2⟩
  | none =>
    have hb2 : pa = none := by
      have h5 := HX.out.2.2.2.2
      rw [hb] at h5
      injection h5
    subst hb2
    cases ho : r.old with
    | cons v0 vs =>
      have HM : Hid (M.undoIn c r = M.putRow c.key c.id { r with opn := c.before }) := by unfold Hid; simp [St.undoIn, ho]
      rw [ho] at hsv
      simp only [List.length_cons] at hsv
      have hlen : (((vs.length + 1 : Nat) : Int) == 0) = false := by simp; omega
      clear hb ho
      go_wp2
      go_end0
      exact ⟨_, _, rfl, HA.out.1, rfl, y, by rw [HM.out]; exact HA.out.2.2.1, rfl, HLg.out.1, HLg.out.2⟩
    | nil =>
      have HM : Hid (M.undoIn c r = M.delRow c.key c.id) := by unfold Hid; simp [St.undoIn, ho, hb]
      rw [ho] at hsv
      simp only [List.length_nil] at hsv
      clear hb ho
      go_wp2
      refine World.abs (fun u' => FEv B g w g2 u' ∧ Beside g2 (Gh.nil.put kb (.cells #[.string c.key.1, .string c.key.2, .int .i64 c.drops, .int .i64 c.id, .pointer none] 133)) u') ⟨HA.out.1, HA.out.2.1⟩ ?_
      clear e4 d1 d2 z2 hsv
      rintro u2 ⟨hu2, hbk2⟩
      have e3 : u2.cell? ⟨kb, 3, none⟩ = some (.int .i64 c.id) := hbk2.holds.cell (Gh.put_same _ _ _) rfl
      have hgt : g2 (.tab c.key) = g (.tab c.key) := by rw [← HA.out.2.2.2, upd_other _ _ (by simp)]
      obtain ⟨htb, hmp⟩ := HR.out.tab c.key t (aget_mem HX.out.1)
      have htabs := hu2.fam.holds (.tab c.key)
      rw [hgt] at htabs
      have d1 : u2.cell? ⟨y.tb c.key, 0, none⟩ = some (.map (some (y.rM c.key))) := htabs.cell htb rfl
      obtain ⟨x, hx1, hx2, hx3⟩ := MapAt.delete klI Tryz.underlying92 htabs hmp (k := c.id) HX.out.2.2.1 3 0
      have hdel := hx1 u2.drew htabs
      have HD := Lib.hid (And.intro hu2 (And.intro htabs (And.intro hgt (And.intro hx2 (And.intro hx3 htb)))))
      clear hu2 hbk2 hgt htb hmp htabs hx1 hx2 hx3
      unfold encI at *
      go_region
      all_goals
        go_wp2
        go_end0
        have hfe := HD.out.1.drew.then (c := .tab c.key) (by rw [HD.out.2.2.1]; exact HD.out.2.2.2.1 u2.drew HD.out.2.1)
        refine ⟨_, _, rfl, hfe, rfl, { y with rM := ins y.rM c.key (y.rM c.key), rb := ins y.rb c.key (y.rb c.key) }, ?_, rfl, fun x => by rw [upd_other _ _ (by simp)]; exact HLg.out.1 x, by rw [upd_other _ _ (by simp)]; exact HLg.out.2⟩
        rw [HM.out, show M.delRow c.key c.id = { M with tabs := aput M.tabs c.key { t with rows := adel t.rows c.id } } by simp [St.delRow, HX.out.1]]
        refine HR.out.setTab HX.out.1 _ _ _ (fun d n1 n2 n3 n4 => by rw [upd_other _ _ n3, ← HA.out.2.2.2, upd_other _ _ (n4 _)]) (by rw [upd_other _ _ (by simp), ← HA.out.2.2.2, upd_other _ _ (by simp)]; exact Sub.refl _) ?_ (fun i q hq => ?_)
        · rw [upd_same]
          exact ⟨by rw [Gh.put_other _ _ (fun e => by obtain ⟨es, clk, h1, _⟩ := (HR.out.tab c.key t (aget_mem HX.out.1)).2; rw [← e, HD.out.2.2.2.2.2] at h1; cases h1)]; exact HD.out.2.2.2.2.2, HD.out.2.2.2.2.1⟩
        · obtain ⟨h1, h2⟩ := mem_adel hq
          rw [upd_other _ _ (by simp), upd_other _ _ (by simp), ← HA.out.2.2.2, upd_other _ _ (by simpa using h2), upd_other _ _ (by simp)]
          exact HR.out.row c.key t (aget_mem HX.out.1) i q h1
end Go.Ju

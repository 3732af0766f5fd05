/- 'Drop'. -/
import Derived.Test.YthdnjokioboehaaGreatDoorEntry
namespace Go.Ju
open Go.RowKit
open Go.Proofs
open Go.ChangeMaps

def St.dropA (M : St) (k : Key) : St × Int := if nameK k then (M.drop k, 0) else (M, 2)
theorem drop_nil (k : Key) (w : World) : Calls Tryz.prog 51 #[.pointer none, .string k.1, .string k.2] w fun e w' => e = .returned (.int .i64 1) ∧ w = w' := by
  go_enter Tryz.func51, Tryz.ntmps51
  go_wp2
  go_ret
  exact ⟨rfl, rfl⟩

section
variable {y : Lay} {M : St} {g g' : Comp → Gh}
/-- The count of a table's drops changes. -/
theorem Rep.setDrops (h : Rep y M g) (L : List (Key × Int))
    (hk : ∀ c, c ≠ .tmp → c ≠ .imm → c ≠ .dM → g' c = g c) (hi : Sub (g .imm) (g' .imm))
    (hM : MapAt (g' .dM) y.dM encK (fun _ => True) (L.map fun p => (p.1, .int .i64 p.2))) : Rep y { M with drops := L } g' where
  st := by rw [hk _ (by simp) (by simp) (by simp)]; exact h.st
  tM := by rw [hk _ (by simp) (by simp) (by simp)]; exact h.tM
  dM := hM
  lM := by rw [hk _ (by simp) (by simp) (by simp)]; exact h.lM
  tab k t hkt := by rw [hk _ (by simp) (by simp) (by simp)]; exact h.tab k t hkt
  row k t hkt i r hr := by rw [hk _ (by simp) (by simp) (by simp)]; exact (h.row k t hkt i r hr).sub hi
  log z m hm := by rw [hk _ (by simp) (by simp) (by simp)]; exact (h.log z m hm).sub hi
end

set_option maxRecDepth 100000 in
theorem drop_any (B N : Nat) (g : Comp → Gh) (w : World) (y : Lay) (M : St) (k : Key) (hF : Fam B g w) (h : Rep y M g) (hfit : Fit N M) (hN : N ≤ 1000000) :
    Calls Tryz.prog 51 #[ptr y.p, .string k.1, .string k.2] w (Does B g w fun u g' => u = .int .i64 (M.dropA k).2 ∧ ∃ y', Rep y' (M.dropA k).1 g' ∧ y'.p = y.p) := by
  have HT := Lib.hid (isTable_any k.1 k.2)
  have HE := Lib.hid (FEv.refl hF)
  have HR := Lib.hid h
  cases hT : (nameB k.1 && nameB k.2) with
  | false =>
    have HM : Hid (M.dropA k = (M, 2)) := by unfold Hid; simp [St.dropA, nameK, hT]
    rw [hT] at HT
    clear hF h hT hfit
    unfold ptr at *
    go_enter Tryz.func51, Tryz.ntmps51
    go_wp2_with (go_at_call 72; refine (HT.out _).mono ?_; rintro e w1 ⟨rfl, hb1⟩)
    go_ret
    exact ⟨_, _, rfl, HE.out.of_below hb1, (congrArg (fun p : St × Int => Value.int .i64 p.2) HM.out).symm, y, by rw [HM.out]; exact HR.out, rfl⟩
  | true =>
    rw [hT] at HT
    have hm : M.dropA k = (M.drop k, 0) := by simp [St.dropA, nameK, hT]
    have hmm := @run_makeMap Tryz.prog
    have hdr : 0 ≤ M.dr k ∧ M.dr k ≤ 1000000 := by
      unfold St.dr
      cases ha : aget M.drops k with
      | none => simp
      | some d => have := hfit.drops k d (aget_mem ha); simp only [Option.getD_some]; omega
    have hwr : IntKind.i64.wrap (M.dr k + 1) = M.dr k + 1 := IntWalk.i64_in _ ⟨by omega, by omega⟩
    clear hF h hT hfit
    unfold ptr at *
    go_enter Tryz.func51, Tryz.ntmps51
    go_wp2_with (go_at_call 72; refine (HT.out _).mono ?_; rintro e w1 ⟨rfl, hb1⟩)
    refine World.abs (fun u => FEv B g w g u ∧ Beside g (Gh.nil.put w1.heap.size (keyObj k)) u) ?_ ?_
    · have hE3 := HE.out.of_below hb1
      exact ⟨hE3.more _, Beside.new hE3.fam _⟩
    rintro u ⟨hu, hbk⟩
    obtain ⟨c0, c1, c2, c3⟩ := HR.out.cells hu.fam
    obtain ⟨e1, e2⟩ := hbk.key
    have hT1 := fun n => HR.out.lookT k (W := u.drewN n) (hu.fam.holds .tM)
    have HU := Lib.hid (And.intro hu hbk)
    generalize w1.heap.size = ka at *
    cases ha : aget M.tabs k with
    | none =>
      rw [ha] at hT1
      have HM : Hid (M.dropA k = (M, 0)) := by unfold Hid; rw [hm]; simp [St.drop, ha]
      unfold encK at *
      clear hu hbk hm
      go_quiet (fail)
      go_wp2
      go_ret
      exact ⟨_, _, rfl, HU.out.1.drewN _, (congrArg (fun p : St × Int => Value.int .i64 p.2) HM.out).symm, y, by rw [HM.out]; exact HR.out, rfl⟩
    | some t =>
      rw [ha] at hT1
      have HM : Hid (M.dropA k = ({ M with tabs := aput M.tabs k { t with rows := [] }, drops := aput M.drops k (M.dr k + 1) }, 0)) := by unfold Hid; rw [hm]; simp [St.drop, ha]
      have HT1 := Lib.hid ha
      unfold encK ptr at *
      clear hu hbk hm ha
      go_quiet (fail)
      refine World.abs (fun u' => FEv B g w g u' ∧ Beside g (Gh.nil.put ka (keyObj k)) u') ⟨HU.out.1.drewN _, HU.out.2.drewN _⟩ ?_
      clear hT1 c0 c1 c2 c3 e1 e2 HU u
      rintro u ⟨hu, hbk⟩
      have htc := (HR.out.tab k t (aget_mem HT1.out)).1
      have d2 : u.frozen? ⟨y.tb k, 0, none⟩ = false := (hu.fam.holds (.tab k)).frozen htc
      have d3 : y.tb k < u.heap.size := (hu.fam.holds (.tab k)).lt htc
      have d1 : u.cell? ⟨y.tb k, 0, none⟩ = some (.map (some (y.rM k))) := (hu.fam.holds (.tab k)).cell htc rfl
      -- the memory behind 't.rows = map[int]*row{}'
      obtain ⟨g2, y2, hE2, hR2, hp2⟩ : ∃ g2 y2, FEv B g w g2 ((u.setCell ⟨y.tb k, 0, none⟩ (.map (some u.heap.size))).alloc (.map #[] 0)) ∧ Rep y2 { M with tabs := aput M.tabs k { t with rows := [] } } g2 ∧ (y2.p = y.p ∧ Beside g2 (Gh.nil.put ka (keyObj k)) ((u.setCell ⟨y.tb k, 0, none⟩ (.map (some u.heap.size))).alloc (.map #[] 0))) := by
        have h0 := (FEv.refl hu.fam).alloc (.tab k) (.map #[] 0)
        have h2 := h0.setCell (c := .tab k) (i := 0) (b := y.tb k) (cs := #[.map (some (y.rM k)), .int .i64 t.next]) (t := 94) (fr := (0, 0)) (by rw [upd_same]; exact Gh.put_some _ htc (by omega)) (.map (some u.heap.size))
        rw [upd_upd, upd_same, World.setCell_alloc_past _ _ _ _ d3] at h2
        refine ⟨_, { y with rM := ins y.rM k u.heap.size, rb := ins y.rb k (y.rb k) }, hu.trans h2, ?_, rfl, hbk.step h2⟩
        refine HR.out.setTab HT1.out _ _ _ (fun c n1 n2 n3 n4 => upd_other _ _ n3) (by rw [upd_other _ _ (by simp)]; exact Sub.refl _) ?_ (fun i r hr => by simp at hr)
        rw [upd_same]
        refine ⟨Gh.put_same _ _ _, #[], 0, ?_, MapOf.empty _⟩
        rw [Gh.put_other _ _ (by omega)]
        exact Gh.put_same _ _ _
      have HA := Lib.hid (And.intro hE2 (And.intro hR2 hp2))
      clear hu hbk htc hE2 hR2 hp2
      unfold ptr at *
      go_wp2
      refine World.abs (fun u2 => FEv B g w g2 u2 ∧ Beside g2 (Gh.nil.put ka (keyObj k)) u2) ⟨HA.out.1, HA.out.2.2.2⟩ ?_
      clear d1 d2 d3
      rintro u2 ⟨hu2, hbk2⟩
      obtain ⟨c0, c1, c2, c3⟩ := HA.out.2.1.cells hu2.fam
      obtain ⟨e1, e2⟩ := hbk2.key
      have hdm : entryVal (.int .i64 0) (fun p : Key × Int => .int .i64 p.2) k (aget M.drops k) = .int .i64 (M.dr k) := by unfold entryVal St.dr; cases aget M.drops k <;> rfl
      obtain ⟨x1, i, x2, q1, q2, q3, q4, q5⟩ := MapAt.entry klK Tryz.underlying84 (hu2.fam.holds .dM) HA.out.2.1.dM (k := k) trivial (z := .int .i64 0) zeroInt (M.dr k + 1) (fun p => .int .i64 p.2) (fun p _ _ => rfl)
      rw [hdm] at q1 q2
      have l1 := HA.out.2.1.lookD k (W := u2.drew) (hu2.fam.holds .dM)
      have l2 := q1 u2.drew (hu2.fam.holds .dM)
      have l3 := q2 u2.drew (hu2.fam.holds .dM)
      have l4 := q3 u2.drew (hu2.fam.holds .dM)
      rw [HA.out.2.2.1] at c0 c1 c2 c3
      have HQ := Lib.hid (And.intro hu2 (And.intro q4 q5))
      clear q1 q2 q3 q4 q5 hu2 hbk2
      unfold encK goInt at *
      change _ = Result.ok (Value.int .i64 (M.dr k)) _ at l1
      go_region
      all_goals
        go_wp2
        go_ret
        have hfe := HQ.out.1.drew.then (c := .dM) (HQ.out.2.1 u2.drew (HQ.out.1.fam.holds .dM))
        refine ⟨_, _, rfl, hfe, (congrArg (fun p : St × Int => Value.int .i64 p.2) HM.out).symm, y2, ?_, HA.out.2.2.1⟩
        rw [HM.out]
        exact HA.out.2.1.setDrops (aput M.drops k (M.dr k + 1)) (fun c n1 n2 n3 => upd_other _ _ n3) (by rw [upd_other _ _ (by simp)]; exact Sub.refl _) (by rw [upd_same]; exact HQ.out.2.2)
end Go.Ju

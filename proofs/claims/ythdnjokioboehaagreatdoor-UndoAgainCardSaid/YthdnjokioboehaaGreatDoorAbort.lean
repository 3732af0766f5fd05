/- 'Abort'. -/
import Derived.Test.YthdnjokioboehaaGreatDoorBack
namespace Go.Ju
open Go.RowKit
open Go.Proofs
open Go.ChangeMaps

def St.abortA (M : St) (txn : Int) : St × Int := if !numB txn then (M, 2) else ({ (M.back txn 0) with log := adel (M.back txn 0).log txn }, 0)
theorem back_nil (txn mark : Int) (w : World) : Calls Tryz.prog 32 #[.pointer none, encI txn, encI mark] w fun e w' => e = .returned (.int .i64 1) ∧ Below w.heap.size w w' := by
  have HMk := Lib.hid (mark_nil txn)
  refine callsIn_wide.1 (callsIn_of_wp_marks (n := 3) Tryz.func32 rfl trivial (wpIn_wide.2 ?_) rfl)
  simp only [Tryz.ntmps32, List.size_toArray, List.length_cons, List.length_nil, Nat.reduceAdd, Nat.reduceSub, Array.replicate_succ, Array.replicate_zero, List.push_toArray, List.append_toArray, List.nil_append, List.cons_append]
  unfold encI at *
  go_wp2_with fail
  refine (HMk.out _).mono ?_
  rintro e w1 ⟨rfl, rfl⟩
  go_wp2
  (try simp only [Exit.inBlock, Exit.then])
  refine ⟨_, results_tmp rfl _ _ _, rfl, (Below.refl _ _).alloc (Nat.le_refl _) _⟩
theorem abort_nil (txn : Int) (w : World) : Calls Tryz.prog 33 #[.pointer none, encI txn] w fun e w' => e = .returned (.int .i64 1) ∧ Below w.heap.size w w' := by
  have HB := Lib.hid (back_nil txn 0 w)
  unfold encI at *
  go_enter Tryz.func33, Tryz.ntmps33
  go_wp2_with (go_at_call 32; refine HB.out.mono ?_; rintro e w1 ⟨rfl, hb1⟩)
  go_ret
  exact ⟨rfl, hb1⟩

section
variable {y : Lay} {M : St} {g g' : Comp → Gh}
/-- A transaction's log is gone. -/
theorem Rep.delLog (h : Rep y M g) (x : Int)
    (hk : ∀ c, c ≠ .tmp → c ≠ .imm → c ≠ .lM → g' c = g c) (hi : Sub (g .imm) (g' .imm))
    (hM : MapAt (g' .lM) y.lM encI okI ((adel M.log x).map fun p => (p.1, y.lv p.1))) : Rep y { M with log := adel M.log x } g' where
  st := by rw [hk _ (by simp) (by simp) (by simp)]; exact h.st
  tM := by rw [hk _ (by simp) (by simp) (by simp)]; exact h.tM
  dM := by rw [hk _ (by simp) (by simp) (by simp)]; exact h.dM
  lM := hM
  tab k t hkt := by rw [hk _ (by simp) (by simp) (by simp)]; exact h.tab k t hkt
  row k t hkt i r hr := by rw [hk _ (by simp) (by simp) (by simp)]; exact (h.row k t hkt i r hr).sub hi
  log z m hm := by rw [hk _ (by simp) (by simp) (by simp)]; exact (h.log z m (mem_adel hm).1).sub hi
end
set_option maxRecDepth 100000 in
theorem abort_any (B N : Nat) (g : Comp → Gh) (w : World) (y : Lay) (M : St) (txn : Int) (hF : Fam B g w) (h : Rep y M g) (hfit : Fit N M) (hN : N ≤ 1000000) (hsafe : UndoSafe M (M.lg txn).reverse) :
    Calls Tryz.prog 33 #[ptr y.p, encI txn] w (Does B g w fun u g' => u = .int .i64 (M.abortA txn).2 ∧ ∃ y', Rep y' (M.abortA txn).1 g' ∧ y'.p = y.p) := by
  have HB := Lib.hid (back_any B N g w y M txn 0 hF h hfit hN (okI_of (by decide) (by decide)) (by simpa using hsafe))
  cases hn : numB txn with
  | false =>
    have hbk : M.backA txn 0 = (M, 2) := by simp [St.backA, hn]
    have HM : Hid (M.abortA txn = (M, 2)) := by unfold Hid; simp [St.abortA, hn]
    rw [hbk] at HB
    clear hF h hfit hsafe
    unfold encI ptr at *
    go_enter Tryz.func33, Tryz.ntmps33
    go_wp2_with (go_at_call 32; refine HB.out.mono ?_; rintro e w1 ⟨v1, g1, rfl, hf1, rfl, y1, hr1, hp1⟩)
    go_ret
    exact ⟨_, _, rfl, hf1, (congrArg (fun p : St × Int => Value.int .i64 p.2) HM.out).symm, y1, by rw [HM.out]; exact hr1, hp1⟩
  | true =>
    have hx := numB_ok hn
    have hbk : M.backA txn 0 = (M.back txn 0, 0) := by simp [St.backA, hn]
    have HM : Hid (M.abortA txn = ({ (M.back txn 0) with log := adel (M.back txn 0).log txn }, 0)) := by unfold Hid; simp [St.abortA, hn]
    rw [hbk] at HB
    clear hF h hfit hsafe
    unfold encI ptr at *
    go_enter Tryz.func33, Tryz.ntmps33
    go_wp2_with fail
    refine HB.out.mono ?_
    rintro e w1 ⟨v1, g1, rfl, hf1, rfl, y1, hr1, hp1⟩
    obtain ⟨c0, c1, c2, c3⟩ := hr1.cells hf1.fam
    rw [hp1] at c3
    obtain ⟨x, hx1, hx2, hx3⟩ := MapAt.delete klI Tryz.underlying85 (hf1.fam.holds .lM) hr1.lM (k := txn) hx 3 0
    have hd := hx1 w1 (hf1.fam.holds .lM)
    have HZ := Lib.hid (And.intro hf1 (And.intro hr1 (And.intro hp1 (And.intro hx2 hx3))))
    clear hf1 hr1 hp1 hx1 hx2 hx3
    unfold encI at hd
    go_wp2
    go_ret
    obtain ⟨hf1, hr1, hp1, hx2, hx3⟩ := HZ.out
    refine ⟨_, _, rfl, hf1.then (c := .lM) (hx2 w1 (hf1.fam.holds .lM)), (congrArg (fun p : St × Int => Value.int .i64 p.2) HM.out).symm, y1, ?_, hp1⟩
    rw [HM.out]
    exact hr1.delLog txn (fun c n1 n2 n3 => upd_other _ _ n3) (by rw [upd_other _ _ (by simp)]; exact Sub.refl _) (by rw [upd_same]; exact hx3)
end Go.Ju

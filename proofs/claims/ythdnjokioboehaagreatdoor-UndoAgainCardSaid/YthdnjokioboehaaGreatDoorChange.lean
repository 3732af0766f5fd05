/- 'Mark', 'change', 'Put', 'Delete'. -/
import Derived.Test.YthdnjokioboehaaGreatDoorSet
namespace Go.Ju
open Go.RowKit
open Go.Proofs
open Go.ChangeMaps

/-- The bounds within which a store lies. -/
structure Fit (n : Nat) (M : St) : Prop where
  logs : ∀ x l, (x, l) ∈ M.log → l.length ≤ n
  rows : ∀ k t, (k, t) ∈ M.tabs → t.rows.length ≤ n
  next : ∀ k t, (k, t) ∈ M.tabs → 1 ≤ t.next ∧ t.next ≤ 1099511627776
  old : ∀ k t, (k, t) ∈ M.tabs → ∀ i r, (i, r) ∈ t.rows → r.old.length ≤ 6
  time : 0 ≤ M.time ∧ M.time ≤ 1099511627776
  tabs : M.tabs.length ≤ n
  drops : ∀ k d, (k, d) ∈ M.drops → 0 ≤ d ∧ d ≤ n
theorem Fit.lg {n : Nat} {M : St} (h : Fit n M) (x : Int) : (M.lg x).length ≤ n := by
  unfold St.lg
  cases ha : aget M.log x with
  | none => simp
  | some l => exact h.logs x l (aget_mem ha)
theorem numB_ok {n : Int} (h : numB n = true) : okI n := by
  simp [numB] at h
  exact okI_of (by omega) (by omega)

section
variable {y : Lay} {M : St} {g : Comp → Gh} {w : World} {B : Nat}
theorem mark_nil (txn : Int) (w : World) : Calls Tryz.prog 31 #[.pointer none, encI txn] w fun e w' => e = .returned (.tuple #[.int .i64 0, .int .i64 1]) ∧ w = w' := by
  unfold encI
  go_enter Tryz.func31, Tryz.ntmps31
  go_wp2
  go_ret2
  exact ⟨rfl, rfl⟩
def St.mark (M : St) (txn : Int) : Int × Int := if numB txn then ((M.lg txn).length, 0) else (0, 2)
set_option maxRecDepth 100000 in
theorem mark_any (hF : Fam B g w) (h : Rep y M g) (txn : Int) (n : Nat) : Calls Tryz.prog 31 #[ptr y.p, encI txn] (w.drewN n) fun e w' => e = .returned (.tuple #[.int .i64 (M.mark txn).1, .int .i64 (M.mark txn).2]) ∧ w.drewN n = w' := by
  have HN := Lib.hid (number_any txn)
  cases hn : numB txn with
  | false =>
    simp only [St.mark, hn]
    rw [hn] at HN
    unfold encI ptr
    go_enter Tryz.func31, Tryz.ntmps31
    go_wp2_with (go_at_call 65; refine (HN.out _).mono ?_; rintro e w1 ⟨rfl, rfl⟩)
    go_ret2
    exact ⟨rfl, rfl⟩
  | true =>
    simp only [St.mark, hn]
    rw [hn] at HN
    obtain ⟨lgv, ⟨css, _, hown⟩, hlk⟩ := h.logAt (numB_ok hn)
    obtain ⟨A, c, rfl, _, _⟩ := hown.form
    obtain ⟨c0, c1, c2, c3⟩ := h.cells (hF.drewN n)
    have hl := hlk (w.drewN n) (hF.holds .lM)
    clear hlk hown h hF
    unfold encI ptr at *
    go_enter Tryz.func31, Tryz.ntmps31
    go_wp2_with (go_at_call 65; refine (HN.out _).mono ?_; rintro e w1 ⟨rfl, rfl⟩)
    go_ret2
    exact ⟨rfl, rfl⟩
end

set_option maxRecDepth 100000 in
theorem change_any (B N : Nat) (g : Comp → Gh) (w : World) (y : Lay) (M : St) (k : Key) (id txn : Int) (v : Ver) (rv : Value) (hF : Fam B g w) (h : Rep y M g) (hfit : Fit N M) (hN : N ≤ 1000000)
    (hx : okI txn) (hi : okI id) (hv : RowAt (g .imm) rv v.row) :
    Calls Tryz.prog 77 #[ptr y.p, .string k.1, .string k.2, encI txn, encI id, .agg #[.int .i64 v.time, .bool v.gone, rv]] w (Does B g w fun u g' => u = .int .i64 (M.change k txn id v).2 ∧ ∃ y', Rep y' (M.change k txn id v).1 g' ∧ y'.p = y.p) := by
  obtain ⟨g1, hE1, h1, hkey, hver, hv1⟩ : ∃ g1, FEv B g w g1 ((w.alloc (.cells #[.int .i64 v.time, .bool v.gone, rv] 98)).alloc (.cells #[.string k.1, .string k.2] 91)) ∧ Rep y M g1 ∧ g1 .tmp (w.heap.size + 1) = some (.cells #[.string k.1, .string k.2] 91 (0, 0)) ∧ g1 .tmp w.heap.size = some (.cells #[.int .i64 v.time, .bool v.gone, rv] 98 (0, 0)) ∧ RowAt (g1 .imm) rv v.row := by
    have hE := ((FEv.refl hF).alloc .tmp (.cells #[.int .i64 v.time, .bool v.gone, rv] 98)).alloc .tmp (.cells #[.string k.1, .string k.2] 91)
    rw [upd_upd, upd_same, World.size_alloc] at hE
    refine ⟨_, hE, h.keep (fun c h1 h2 => upd_other _ _ h1) (by rw [upd_other _ _ (by simp)]; exact Sub.refl _), by rw [upd_same]; exact Gh.put_same _ _ _, by rw [upd_same, Gh.put_other _ _ (by omega)]; exact Gh.put_same _ _ _, by rw [upd_other _ _ (by simp)]; exact hv⟩
  have HE := Lib.hid hE1
  have HH := Lib.hid (And.intro h1 (And.intro hkey (And.intro hver (And.intro hv1 (And.intro hfit (And.intro hN (And.intro hx hi)))))))
  clear hF h hv hE1 h1 hkey hver hv1 hfit hN hx hi
  unfold encI ptr at *
  go_enter Tryz.func77, Tryz.ntmps77
  go_wp2
  refine World.abs (FEv B g w g1) HE.out ?_
  intro u hu
  obtain ⟨h1, hkey, hver, hv1, hfit, hN, hx, hi⟩ := HH.out
  obtain ⟨c0, c1, c2, c3⟩ := h1.cells hu.fam
  have e1 : u.cell? ⟨w.heap.size + 1, 0, none⟩ = some (.string k.1) := (hu.fam.holds .tmp).cell hkey rfl
  have e2 : u.cell? ⟨w.heap.size + 1, 1, none⟩ = some (.string k.2) := (hu.fam.holds .tmp).cell hkey rfl
  have v0 : u.cell? ⟨w.heap.size, 0, none⟩ = some (.int .i64 v.time) := (hu.fam.holds .tmp).cell hver rfl
  have v1 : u.cell? ⟨w.heap.size, 1, none⟩ = some (.bool v.gone) := (hu.fam.holds .tmp).cell hver rfl
  have v2 : u.cell? ⟨w.heap.size, 2, none⟩ = some rv := (hu.fam.holds .tmp).cell hver rfl
  have hT := fun n => h1.lookT k (W := u.drewN n) (hu.fam.holds .tM)
  have HF := Lib.hid hu
  cases ha : aget M.tabs k with
  | none =>
    rw [ha] at hT
    have hm : M.change k txn id v = (M, 4) := by simp [St.change, St.row, ha]
    have HM := Lib.hid hm
    clear hm
    unfold encK at hT
    clear h1 hkey hver hv1 hfit hN hx hi hu
    go_quiet (fail)
    go_wp2
    go_ret
    exact ⟨_, _, rfl, HF.out.drewN _, (congrArg (fun p : St × Int => Value.int .i64 p.2) HM.out).symm, y, by rw [HM.out]; exact HH.out.1, rfl⟩
  | some t =>
    rw [ha] at hT
    have hR := fun n => h1.lookR (aget_mem ha) hi (W := u.drewN n) (hu.fam.holds (.tab k))
    have d1 : u.cell? ⟨y.tb k, 0, none⟩ = some (.map (some (y.rM k))) := (hu.fam.holds (.tab k)).cell (h1.tab k t (aget_mem ha)).1 rfl
    cases hr : aget t.rows id with
    | none =>
      rw [hr] at hR
      have hm : M.change k txn id v = (M, 4) := by simp [St.change, St.row, ha, hr]
      have HM := Lib.hid hm
      clear hm
      unfold encK ptr at hT
      unfold encI at hR
      clear h1 hkey hver hv1 hfit hN hx hi hu
      go_quiet (fail)
      go_wp2
      go_ret
      exact ⟨_, _, rfl, HF.out.drewN _, (congrArg (fun p : St × Int => Value.int .i64 p.2) HM.out).symm, y, by rw [HM.out]; exact HH.out.1, rfl⟩
    | some r =>
      rw [hr] at hR
      have hro := h1.row k t (aget_mem ha) id r (aget_mem hr)
      obtain ⟨sv, op, _, _, hvp, r0, r1, r2, r3⟩ := hro.cells (hu.fam.holds _) (hu.fam.holds _)
      obtain ⟨np, hnp, hnow⟩ := now_any _ _ u _ r txn (hu.fam.holds _) (hu.fam.holds _) hro (by have := hfit.old k t (aget_mem ha) id r (aget_mem hr); omega)
      have HNow := Lib.hid hnow
      have HTh := Lib.hid (fun n => there_any _ (u.drewN n) _ _ (hnp.drewN n))
      have hm : M.change k txn id v = if r.opn.isSome && decide (r.txn ≠ txn) then (M, 27) else if there (r.now txn) then (M.set k txn id v, 0) else (M, 4) := by simp [St.change, St.row, ha, hr]
      have HS := Lib.hid (fun n => set_any B g1 (u.drewN n) y M k t r id txn v rv (hu.fam.drewN n) h1 ha hr hx hi (by have := hfit.lg txn; omega) hv1)
      unfold encK ptr encI at *
      clear h1 hkey hver hv1 hfit hN hx hi hu hro hnow hnp
      cases ho : (r.opn.isSome && decide (r.txn ≠ txn)) with
      | true =>
        have HM : Hid (M.change k txn id v = (M, 27)) := by rw [hm, ho]; rfl
        clear hm
        simp only [Bool.and_eq_true, decide_eq_true_eq] at ho
        obtain ⟨ho1, ho2⟩ := ho
        obtain ⟨vv, hvv⟩ := Option.isSome_iff_exists.1 ho1
        rw [hvv] at hvp
        obtain ⟨vb, vo, _, rfl, _⟩ := hvp
        have hxb : (r.txn == txn) = false := by simpa using ho2
        clear ho1 ho2 hvv
        go_quiet (fail)
        go_wp2
        go_ret
        exact ⟨_, _, rfl, HF.out.drewN _, (congrArg (fun p : St × Int => Value.int .i64 p.2) HM.out).symm, y, by rw [HM.out]; exact HH.out.1, rfl⟩
      | false =>
        rw [ho] at hm
        have hcase : (op = .pointer none) ∨ ∃ vb vo, op = .pointer (some ⟨vb, vo, none⟩) ∧ (r.txn == txn) = true := by
          cases hop : r.opn with
          | none => rw [hop] at hvp; exact .inl hvp
          | some vv =>
            rw [hop] at hvp
            obtain ⟨vb, vo, _, rfl, _⟩ := hvp
            exact .inr ⟨vb, vo, rfl, by simpa [hop] using ho⟩
        clear ho hvp
        cases hth : there (r.now txn) with
        | false =>
          rw [hth] at hm HTh
          have HM : Hid (M.change k txn id v = (M, 4)) := hm
          clear hm hth
          rcases hcase with rfl | ⟨vb, vo, rfl, hxb⟩
          all_goals
            go_quiet (fail)
            go_wp2_with (first | (go_at_call 106; refine (HNow.out _).mono ?_; rintro e z1 ⟨rfl, m, rfl⟩) | (go_at_call 88; refine (HTh.out _).mono ?_; rintro e z2 ⟨rfl, rfl⟩))
            go_ret
            exact ⟨_, _, rfl, HF.out.drewN _, (congrArg (fun p : St × Int => Value.int .i64 p.2) HM.out).symm, y, by rw [HM.out]; exact HH.out.1, rfl⟩
        | true =>
          rw [hth] at hm HTh
          have HM : Hid (M.change k txn id v = (M.set k txn id v, 0)) := hm
          clear hm hth
          rcases hcase with rfl | ⟨vb, vo, rfl, hxb⟩
          all_goals
            go_quiet (fail)
            go_wp2_with (first | (go_at_call 106; refine (HNow.out _).mono ?_; rintro e z1 ⟨rfl, m, rfl⟩) | (go_at_call 88; refine (HTh.out _).mono ?_; rintro e z2 ⟨rfl, rfl⟩) | (go_at_call 75; refine (HS.out _).mono ?_; rintro e z3 ⟨z4, g4, rfl, hf4, rfl, y4, hr4, hp4⟩))
            go_ret
            exact ⟨_, _, rfl, (HF.out.drewN _).trans hf4, (congrArg (fun p : St × Int => Value.int .i64 p.2) HM.out).symm, y4, by rw [HM.out]; exact hr4, hp4⟩
end Go.Ju

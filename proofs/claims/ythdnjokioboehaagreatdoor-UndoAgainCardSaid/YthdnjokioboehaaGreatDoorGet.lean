/- 'New', 'Time', 'look', 'Last', 'Row'. -/
import Derived.Test.YthdnjokioboehaaGreatDoorAdd
namespace Go.Ju
open Go.RowKit
open Go.Proofs
open Go.ChangeMaps

theorem Span.none_nil {G : Gh} {xs : List Value} (h : Span G none xs) : xs = [] := by
  rcases h with h | ⟨b, o, _, _, _, h, _⟩
  · exact h
  · cases h
theorem RowAt.arg {G : Gh} {w : World} {rv : Value} {l : List Val} (h : RowAt G rv l) (hG : Holds G w) (hl : l.length * 32 ≤ 140737488355328) : ArgRow G w rv l := by
  refine ⟨hG, h, fun c e => ?_, hl⟩
  obtain ⟨A, c', e', _, hs⟩ := h
  rw [e] at e'
  cases e'
  have := congrArg List.length hs.none_nil
  rw [rowCells_len, List.length_nil] at this
  omega

theorem Below.of_drewN (B : Nat) (w : World) (n : Nat) : Below B w (w.drewN n) := ⟨rfl, rfl, rfl, Nat.le_refl _, fun _ _ => rfl⟩
theorem time_nil (w : World) : Calls Tryz.prog 17 #[.pointer none] w fun e w' => e = .returned (.int .i64 0) ∧ w = w' := by
  go_enter Tryz.func17, Tryz.ntmps17
  go_wp2
  go_ret
  exact ⟨rfl, rfl⟩
section
variable {y : Lay} {M : St} {g : Comp → Gh} {w : World} {B : Nat}
theorem time_any (hF : Fam B g w) (h : Rep y M g) : Calls Tryz.prog 17 #[ptr y.p] w fun e w' => e = .returned (.int .i64 M.time) ∧ w = w' := by
  obtain ⟨c0, _, _, _⟩ := h.cells hF
  unfold ptr
  go_enter Tryz.func17, Tryz.ntmps17
  go_wp2
  go_ret
  exact ⟨rfl, rfl⟩
end
/-- The pieces before there is a store. -/
def noFam : Comp → Gh := fun _ => Gh.nil
theorem noFam.fam (B : Nat) (w : World) (h : B ≤ w.heap.size) : Fam B noFam w := ⟨fun _ => Holds.nil w, fun _ _ _ _ => .inl rfl, fun _ _ h => absurd rfl h, h⟩
def newLay (n : Nat) : Lay := ⟨n + 1 + 1 + 1, n, n + 1, n + 1 + 1, fun _ => 0, fun _ => 0, fun _ _ => 0, fun _ => .slice none 0 0⟩
theorem new_any (w : World) (B : Nat) (hB : B ≤ w.heap.size) : Calls Tryz.prog 19 #[] w (Does B noFam w fun v g => ∃ y, v = ptr y.p ∧ Rep y St.empty g) := by
  have hmm := @run_makeMap Tryz.prog
  have hE := ((((FEv.refl (noFam.fam B w hB)).alloc .tM (.map #[] 0)).alloc .dM (.map #[] 0)).alloc .lM (.map #[] 0)).alloc .st (.cells #[.int .i64 0, .map (some w.heap.size), .map (some (w.heap.size + 1)), .map (some (w.heap.size + 1 + 1))] 87)
  simp only [World.size_alloc] at hE
  have HE := Lib.hid hE
  clear hE
  go_enter Tryz.func19, Tryz.ntmps19
  go_wp2
  go_ret
  refine ⟨_, _, rfl, HE.out, newLay w.heap.size, rfl, ?_⟩
  refine ⟨?_, ?_, ?_, ?_, ?_, ?_, ?_⟩
  · rw [upd_same]; exact Gh.put_same _ _ _
  · rw [upd_other _ _ (by simp), upd_other _ _ (by simp), upd_other _ _ (by simp), upd_same]
    exact ⟨#[], 0, Gh.put_same _ _ _, MapOf.empty _⟩
  · rw [upd_other _ _ (by simp), upd_other _ _ (by simp), upd_same]
    exact ⟨#[], 0, Gh.put_same _ _ _, MapOf.empty _⟩
  · rw [upd_other _ _ (by simp), upd_same]
    exact ⟨#[], 0, Gh.put_same _ _ _, MapOf.empty _⟩
  · intro k t h; simp [St.empty] at h
  · intro k t h; simp [St.empty] at h
  · intro x l h; simp [St.empty] at h

/-! ### the readers' look at their arguments -/
def nameK (k : Key) : Bool := nameB k.1 && nameB k.2
def St.look (M : St) (k : Key) (time txn : Int) : Int := if !nameK k || decide (txn < 0) || decide (1099511627776 < txn) then 2 else if decide (time < 0) || decide (M.time < time) then 21 else 0
theorem look_nil (o n : ByteArray) (time txn : Int) (w : World) : Calls Tryz.prog 64 #[.pointer none, .string o, .string n, .int .i64 time, .int .i64 txn] w fun e w' => e = .returned (.int .i64 1) ∧ w = w' := by
  go_enter Tryz.func64, Tryz.ntmps64
  go_wp2
  go_ret
  exact ⟨rfl, rfl⟩
set_option maxRecDepth 100000 in
theorem look_any {B : Nat} {g : Comp → Gh} {w : World} {y : Lay} {M : St} (hF : Fam B g w) (h : Rep y M g) (k : Key) (time txn : Int) :
    Calls Tryz.prog 64 #[ptr y.p, .string k.1, .string k.2, .int .i64 time, .int .i64 txn] w fun e w' => e = .returned (.int .i64 (M.look k time txn)) ∧ Below w.heap.size w w' := by
  have HT := Lib.hid (isTable_any k.1 k.2)
  have hst := (hF.holds .st)
  have hc := h.st
  cases hT : (nameB k.1 && nameB k.2) with
  | false =>
    have hm : M.look k time txn = 2 := by simp [St.look, nameK, hT]
    rw [hT] at HT
    rw [hm]
    clear hF h hT hst hc
    unfold ptr at *
    go_enter Tryz.func64, Tryz.ntmps64
    go_wp2_with (go_at_call 72; refine (HT.out _).mono ?_; rintro e w1 ⟨rfl, hb1⟩)
    go_ret
    exact ⟨rfl, hb1⟩
  | true =>
    rw [hT] at HT
    have hm : M.look k time txn = if decide (txn < 0) || decide (1099511627776 < txn) then 2 else if decide (time < 0) || decide (M.time < time) then 21 else 0 := by simp [St.look, nameK, hT]
    have HC := Lib.hid (fun W (hW : Below w.heap.size w W) => (hst.below hW).cell hc (i := 0) rfl)
    clear hF h hT hst hc
    have h3 : (decide (txn < 0) = true ∨ decide (txn < 0) = false ∧ decide (1099511627776 < txn) = true) ∨ (decide (txn < 0) = false ∧ decide (1099511627776 < txn) = false) := by
      cases decide (txn < 0) <;> cases decide (1099511627776 < txn) <;> simp
    rcases h3 with h3 | ⟨h3, h4⟩
    · have HM : Hid (M.look k time txn = 2) := by
        unfold Hid; rw [hm]; rcases h3 with h3 | ⟨h3, h4⟩ <;> simp only [*, Bool.true_or, Bool.or_true, if_true]
      clear hm
      rcases h3 with h3 | ⟨h3, h4⟩
      all_goals
        simp only [decide_eq_true_eq, decide_eq_false_iff_not] at *
        unfold ptr at *
        go_enter Tryz.func64, Tryz.ntmps64
        go_wp2_with (go_at_call 72; refine (HT.out _).mono ?_; rintro e w1 ⟨rfl, hb1⟩)
        go_ret
        exact ⟨by rw [HM.out]; rfl, hb1⟩
    · have h5 : (decide (time < 0) = true ∨ decide (time < 0) = false ∧ decide (M.time < time) = true) ∨ (decide (time < 0) = false ∧ decide (M.time < time) = false) := by
        cases decide (time < 0) <;> cases decide (M.time < time) <;> simp
      rcases h5 with h5 | ⟨h5, h6⟩
      · have HM : Hid (M.look k time txn = 21) := by
          unfold Hid; rw [hm]; rcases h5 with h5 | ⟨h5, h6⟩ <;> simp only [*, Bool.true_or, Bool.or_true, Bool.false_or, if_true] <;> rfl
        clear hm
        rcases h5 with h5 | ⟨h5, h6⟩
        all_goals
          simp only [decide_eq_true_eq, decide_eq_false_iff_not] at *
          unfold ptr at *
          go_enter Tryz.func64, Tryz.ntmps64
          go_wp2_with fail
          refine (HT.out _).mono ?_
          rintro e w1 ⟨rfl, hb1⟩
          have hcc := HC.out w1 hb1
          go_wp2
          go_ret
          exact ⟨by rw [HM.out]; rfl, hb1⟩
      · have HM : Hid (M.look k time txn = 0) := by
          unfold Hid; rw [hm]; simp only [h3, h4, h5, h6]; rfl
        clear hm
        simp only [decide_eq_false_iff_not] at *
        unfold ptr at *
        go_enter Tryz.func64, Tryz.ntmps64
        go_wp2_with fail
        refine (HT.out _).mono ?_
        rintro e w1 ⟨rfl, hb1⟩
        have hcc := HC.out w1 hb1
        go_wp2
        go_ret
        exact ⟨by rw [HM.out]; rfl, hb1⟩

/-! ### 'Last' -/
def St.lastA (M : St) (k : Key) (id : Int) : Int × Int × Int := if !nameK k then (0, 0, 2) else match M.row k id with
  | none => (0, 0, 4)
  | some r => ((r.last.map Ver.time).getD 0, if r.opn.isSome then r.txn else 0, 0)
theorem last_nil (k : Key) (id : Int) (w : World) : Calls Tryz.prog 39 #[.pointer none, .string k.1, .string k.2, .int .i64 id] w fun e w' => e = .returned (.tuple #[.int .i64 0, .int .i64 0, .int .i64 1]) ∧ w = w' := by
  go_enter Tryz.func39, Tryz.ntmps39
  go_wp2
  go_ret3
  exact ⟨rfl, rfl⟩
def three (p : Int × Int × Int) : Value := .tuple #[.int .i64 p.1, .int .i64 p.2.1, .int .i64 p.2.2]
set_option maxRecDepth 100000 in
theorem lastA_any {B N : Nat} {g : Comp → Gh} {w : World} {y : Lay} {M : St} (hF : Fam B g w) (h : Rep y M g) (hfit : Fit N M) (k : Key) (id : Int) (hi : okI id) :
    Calls Tryz.prog 39 #[ptr y.p, .string k.1, .string k.2, encI id] w fun e w' => e = .returned (three (M.lastA k id)) ∧ Below w.heap.size w w' := by
  have HT := Lib.hid (isTable_any k.1 k.2)
  cases hT : (nameB k.1 && nameB k.2) with
  | false =>
    have HM : Hid (M.lastA k id = (0, 0, 2)) := by unfold Hid; simp [St.lastA, nameK, hT]
    rw [hT] at HT
    clear hF h hT hfit
    unfold ptr encI at *
    go_enter Tryz.func39, Tryz.ntmps39
    go_wp2_with (go_at_call 72; refine (HT.out _).mono ?_; rintro e w1 ⟨rfl, hb1⟩)
    go_ret3
    exact ⟨by rw [HM.out]; rfl, hb1⟩
  | true =>
    rw [hT] at HT
    have hm : M.lastA k id = match M.row k id with | none => (0, 0, 4) | some r => ((r.last.map Ver.time).getD 0, if r.opn.isSome then r.txn else 0, 0) := by simp [St.lastA, nameK, hT]
    have HF := Lib.hid (fun W (hW : Below w.heap.size w W) => ((FEv.refl hF).of_below hW).fam)
    cases ha : aget M.tabs k with
    | none =>
      have HM : Hid (M.lastA k id = (0, 0, 4)) := by unfold Hid; rw [hm]; simp [St.row, ha]
      have HL := Lib.hid (fun W (hW : Below w.heap.size w W) => And.intro (h.cells (HF.out W hW)).2.1 (h.lookT k ((HF.out W hW).holds .tM)))
      rw [ha] at HL
      clear hF h hT hfit hm ha
      unfold ptr encI encK at *
      go_enter Tryz.func39, Tryz.ntmps39
      go_wp2_with fail
      refine (HT.out _).mono ?_
      rintro e w1 ⟨rfl, hb1⟩
      obtain ⟨c1, l1⟩ := HL.out w1 hb1
      go_wp2
      go_ret3
      exact ⟨by rw [HM.out]; rfl, hb1⟩
    | some t =>
      cases hr : aget t.rows id with
      | none =>
        have HM : Hid (M.lastA k id = (0, 0, 4)) := by unfold Hid; rw [hm]; simp [St.row, ha, hr]
        have HL := Lib.hid (fun W (hW : Below w.heap.size w W) => And.intro (h.cells (HF.out W hW)).2.1 (And.intro (h.lookT k ((HF.out W hW).holds .tM)) (And.intro (((HF.out W hW).holds (.tab k)).cell (h.tab k t (aget_mem ha)).1 (i := 0) rfl) (h.lookR (aget_mem ha) hi ((HF.out W hW).holds (.tab k))))))
        rw [ha, hr] at HL
        clear hF h hT hfit hm ha hr hi
        unfold ptr encI encK at *
        go_enter Tryz.func39, Tryz.ntmps39
        go_wp2_with fail
        refine (HT.out _).mono ?_
        rintro e w1 ⟨rfl, hb1⟩
        obtain ⟨c1, l1, c2, l2⟩ := HL.out w1 hb1
        go_wp2
        go_ret3
        exact ⟨by rw [HM.out]; rfl, hb1⟩
      | some r =>
        have HM : Hid (M.lastA k id = ((r.last.map Ver.time).getD 0, if r.opn.isSome then r.txn else 0, 0)) := by unfold Hid; rw [hm]; simp [St.row, ha, hr]
        have HL := Lib.hid (fun W (hW : Below w.heap.size w W) => And.intro (h.cells (HF.out W hW)).2.1 (And.intro (h.lookT k ((HF.out W hW).holds .tM)) (And.intro (((HF.out W hW).holds (.tab k)).cell (h.tab k t (aget_mem ha)).1 (i := 0) rfl) (And.intro (h.lookR (aget_mem ha) hi ((HF.out W hW).holds (.tab k))) ((h.row k t (aget_mem ha) id r (aget_mem hr)).facts ((HF.out W hW).holds _) ((HF.out W hW).holds _) (by have := hfit.old k t (aget_mem ha) id r (aget_mem hr); omega))))))
        rw [ha, hr] at HL
        clear hF h hT hfit hm ha hr hi
        unfold ptr encI encK at *
        go_enter Tryz.func39, Tryz.ntmps39
        go_wp2_with fail
        refine (HT.out _).mono ?_
        rintro e w1 ⟨rfl, hb1⟩
        obtain ⟨c1, l1, c2, l2, op, pl, f⟩ := HL.out w1 hb1
        obtain ⟨f1, f2, f3, f4, f5⟩ := f
        have HQ := Lib.hid f5
        clear f5
        cases ho : r.opn with
        | none =>
          rw [ho] at f3 HM
          obtain rfl : op = .pointer none := f3
          cases hl : r.last with
          | none =>
            rw [hl] at f4 HM
            obtain rfl : pl = .pointer none := f4
            unfold ptr at *
            go_wp2_with (go_at_call 78; refine (HQ.out.at).mono ?_; rintro e w2 ⟨rfl, m, rfl⟩)
            go_ret3
            exact ⟨by rw [HM.out]; rfl, hb1.trans (Below.of_drewN _ _ _)⟩
          | some v =>
            rw [hl] at f4 HM
            obtain ⟨b, o, rv, rfl, _, f6, _, _, _⟩ := f4
            unfold ptr at *
            go_wp2_with (go_at_call 78; refine (HQ.out.at).mono ?_; rintro e w2 ⟨rfl, m, rfl⟩)
            go_ret3
            exact ⟨by rw [HM.out]; rfl, hb1.trans (Below.of_drewN _ _ _)⟩
        | some vv =>
          rw [ho] at f3 HM
          obtain ⟨vb, vo, _, rfl, _⟩ := f3
          cases hl : r.last with
          | none =>
            rw [hl] at f4 HM
            obtain rfl : pl = .pointer none := f4
            unfold ptr at *
            go_wp2_with (go_at_call 78; refine (HQ.out.at).mono ?_; rintro e w2 ⟨rfl, m, rfl⟩)
            go_ret3
            exact ⟨by rw [HM.out]; rfl, hb1.trans (Below.of_drewN _ _ _)⟩
          | some v =>
            rw [hl] at f4 HM
            obtain ⟨b, o, rv, rfl, _, f6, _, _, _⟩ := f4
            unfold ptr at *
            go_wp2_with (go_at_call 78; refine (HQ.out.at).mono ?_; rintro e w2 ⟨rfl, m, rfl⟩)
            go_ret3
            exact ⟨by rw [HM.out]; rfl, hb1.trans (Below.of_drewN _ _ _)⟩
end Go.Ju

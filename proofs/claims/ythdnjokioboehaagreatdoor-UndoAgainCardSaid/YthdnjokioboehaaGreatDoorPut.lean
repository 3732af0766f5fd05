/- 'Put', 'Delete'. -/
import Derived.Test.YthdnjokioboehaaGreatDoorChange
namespace Go.Ju
open Go.RowKit
open Go.Proofs
open Go.ChangeMaps

/-- A caller's row, as an argument. -/
structure ArgRow (G : Gh) (w : World) (rv : Value) (l : List Val) : Prop where
  holds : Holds G w
  at' : RowAt G rv l
  nil : ∀ c, rv = .slice none l.length c → l.length = 0
  len : l.length * 32 ≤ 140737488355328
theorem ArgRow.below {G : Gh} {w w' : World} {rv : Value} {l : List Val} (h : ArgRow G w rv l) (hb : Below w.heap.size w w') : ArgRow G w' rv l := ⟨h.holds.below hb, h.at', h.nil, h.len⟩
theorem ArgRow.isRow {G : Gh} {w : World} {rv : Value} {l : List Val} (h : ArgRow G w rv l) (hn : Nul w) : Calls Tryz.prog 73 #[rv] w fun e w' => e = .returned (.bool (rowB l)) ∧ Below w.heap.size w w' := by
  obtain ⟨A, c, rfl, _, hs⟩ := h.at'
  exact isRow_any G A l c w h.holds hs hn (by have := h.len; omega)
theorem ArgRow.clone {G : Gh} {w : World} {rv : Value} {l : List Val} (h : ArgRow G w rv l) : Calls Tryz.prog 42 #[rv] w (Makes w fun v Gr => RowAt Gr v l) := by
  obtain ⟨A, c, rfl, _, hs⟩ := h.at'
  exact clone_any G A l c w h.holds hs (fun e => h.nil c (by rw [e])) h.len
/-- A clone comes to the piece of what never turns. -/
theorem FEv.clone {B : Nat} {g g' : Comp → Gh} {w w1 w2 : World} {Gr : Gh} {y : Lay} {M : St} {rv : Value} {l : List Val} (h : FEv B g w g' w1) (hr : Rep y M g') (hb : Below w1.heap.size w1 w2) (hh : Holds Gr w2) (hf : ∀ b, Gr b ≠ none → w1.heap.size ≤ b) (hrow : RowAt Gr rv l) :
    ∃ g2, FEv B g w g2 w2 ∧ Rep y M g2 ∧ RowAt (g2 .imm) rv l := by
  have hap : Apart (g' .imm) Gr := fun b => by
    cases hc : g' .imm b with
    | none => exact .inl rfl
    | some o =>
      right
      cases hx : Gr b with
      | none => rfl
      | some x => have := hf b (by rw [hx]; simp); have := (h.fam.holds .imm).lt hc; omega
  refine ⟨_, h.of_below_new hb hh hf .imm, hr.keep (fun c _ h2 => upd_other _ _ h2) (by rw [upd_same]; exact fun b o hb => Gh.or_left _ _ hb), ?_⟩
  rw [upd_same]
  exact hrow.sub fun b o hb => Gh.or_right hap hb

def St.argsB (k : Key) (txn : Int) : Bool := nameB k.1 && nameB k.2 && numB txn
def St.putA (M : St) (k : Key) (txn id : Int) (row : List Val) : St × Int := if St.argsB k txn && rowB row then M.change k txn id ⟨0, false, row⟩ else (M, 2)
def St.delA (M : St) (k : Key) (txn id : Int) : St × Int := if St.argsB k txn then M.change k txn id ⟨0, true, []⟩ else (M, 2)

theorem put_nil (k : Key) (txn id : Int) (rv : Value) (w : World) : Calls Tryz.prog 38 #[.pointer none, .string k.1, .string k.2, encI txn, encI id, rv] w fun e w' => e = .returned (.int .i64 1) ∧ w = w' := by
  unfold encI
  go_enter Tryz.func38, Tryz.ntmps38
  go_wp2
  go_ret
  exact ⟨rfl, rfl⟩
theorem del_nil (k : Key) (txn id : Int) (w : World) : Calls Tryz.prog 49 #[.pointer none, .string k.1, .string k.2, encI txn, encI id] w fun e w' => e = .returned (.int .i64 1) ∧ w = w' := by
  unfold encI
  go_enter Tryz.func49, Tryz.ntmps49
  go_wp2
  go_ret
  exact ⟨rfl, rfl⟩

set_option maxRecDepth 100000 in
theorem del_any (B N : Nat) (g : Comp → Gh) (w : World) (y : Lay) (M : St) (k : Key) (id txn : Int) (hF : Fam B g w) (h : Rep y M g) (hfit : Fit N M) (hN : N ≤ 1000000) (hi : okI id) :
    Calls Tryz.prog 49 #[ptr y.p, .string k.1, .string k.2, encI txn, encI id] w (Does B g w fun u g' => u = .int .i64 (M.delA k txn id).2 ∧ ∃ y', Rep y' (M.delA k txn id).1 g' ∧ y'.p = y.p) := by
  have HT := Lib.hid (isTable_any k.1 k.2)
  have HNum := Lib.hid (number_any txn)
  have HE := Lib.hid (FEv.refl hF)
  have HR := Lib.hid h
  cases hT : (nameB k.1 && nameB k.2) with
  | false =>
    have HM : Hid (M.delA k txn id = (M, 2)) := by unfold Hid; simp [St.delA, St.argsB, hT]
    rw [hT] at HT
    clear hF h hT hfit
    unfold encI ptr at *
    go_enter Tryz.func49, Tryz.ntmps49
    go_wp2_with (go_at_call 72; refine (HT.out _).mono ?_; rintro e w1 ⟨rfl, hb1⟩)
    go_ret
    exact ⟨_, _, rfl, HE.out.of_below hb1, (congrArg (fun p : St × Int => Value.int .i64 p.2) HM.out).symm, y, by rw [HM.out]; exact HR.out, rfl⟩
  | true =>
    rw [hT] at HT
    cases hn : numB txn with
    | false =>
      have HM : Hid (M.delA k txn id = (M, 2)) := by unfold Hid; simp [St.delA, St.argsB, hn]
      rw [hn] at HNum
      clear hF h hT hfit hn
      unfold encI ptr at *
      go_enter Tryz.func49, Tryz.ntmps49
      go_wp2_with (first | (go_at_call 72; refine (HT.out _).mono ?_; rintro e w1 ⟨rfl, hb1⟩) | (go_at_call 65; refine (HNum.out _).mono ?_; rintro e w2 ⟨rfl, rfl⟩))
      go_ret
      exact ⟨_, _, rfl, HE.out.of_below hb1, (congrArg (fun p : St × Int => Value.int .i64 p.2) HM.out).symm, y, by rw [HM.out]; exact HR.out, rfl⟩
    | true =>
      have HM : Hid (M.delA k txn id = M.change k txn id ⟨0, true, []⟩) := by unfold Hid; simp [St.delA, St.argsB, hT, hn]
      have HC := Lib.hid (fun W (hW : Below w.heap.size w W) => change_any B N g W y M k id txn ⟨0, true, []⟩ (.slice none 0 0) ((FEv.refl hF).of_below hW).fam h hfit hN (numB_ok hn) hi ⟨none, 0, rfl, Nat.le_refl _, Span.nil _ _⟩)
      rw [hn] at HNum
      clear hF h hT hfit hn
      unfold encI ptr at *
      go_enter Tryz.func49, Tryz.ntmps49
      go_wp2_with (first | (go_at_call 72; refine (HT.out _).mono ?_; rintro e w1 ⟨rfl, hb1⟩) | (go_at_call 65; refine (HNum.out _).mono ?_; rintro e w2 ⟨rfl, rfl⟩))
      refine (HC.out _ hb1).mono ?_
      rintro e w3 ⟨v3, g3, rfl, hf3, rfl, y3, hr3, hp3⟩
      go_wp2
      go_ret
      exact ⟨_, _, rfl, (HE.out.of_below hb1).trans hf3, (congrArg (fun p : St × Int => Value.int .i64 p.2) HM.out).symm, y3, by rw [HM.out]; exact hr3, hp3⟩

set_option maxRecDepth 100000 in
theorem put_any (B N : Nat) (g : Comp → Gh) (G : Gh) (w : World) (y : Lay) (M : St) (k : Key) (id txn : Int) (rv : Value) (l : List Val) (hF : Fam B g w) (h : Rep y M g) (hfit : Fit N M) (hN : N ≤ 1000000) (hi : okI id) (hnul : Nul w) (hrow : ArgRow G w rv l) :
    Calls Tryz.prog 38 #[ptr y.p, .string k.1, .string k.2, encI txn, encI id, rv] w (Does B g w fun u g' => u = .int .i64 (M.putA k txn id l).2 ∧ ∃ y', Rep y' (M.putA k txn id l).1 g' ∧ y'.p = y.p) := by
  have HT := Lib.hid (isTable_any k.1 k.2)
  have HNum := Lib.hid (number_any txn)
  have HRow := Lib.hid (fun W (hW : Below w.heap.size w W) => (hrow.below hW).isRow (hnul.below hW))
  have HE := Lib.hid (FEv.refl hF)
  have HR := Lib.hid h
  cases hT : (nameB k.1 && nameB k.2) with
  | false =>
    have HM : Hid (M.putA k txn id l = (M, 2)) := by unfold Hid; simp [St.putA, St.argsB, hT]
    rw [hT] at HT
    clear hF h hT hfit hrow hnul HRow HNum
    unfold encI ptr at *
    go_enter Tryz.func38, Tryz.ntmps38
    go_wp2_with (go_at_call 72; refine (HT.out _).mono ?_; rintro e w1 ⟨rfl, hb1⟩)
    go_ret
    exact ⟨_, _, rfl, HE.out.of_below hb1, (congrArg (fun p : St × Int => Value.int .i64 p.2) HM.out).symm, y, by rw [HM.out]; exact HR.out, rfl⟩
  | true =>
    rw [hT] at HT
    cases hn : numB txn with
    | false =>
      have HM : Hid (M.putA k txn id l = (M, 2)) := by unfold Hid; simp [St.putA, St.argsB, hn]
      rw [hn] at HNum
      clear hF h hT hfit hn hrow hnul HRow
      unfold encI ptr at *
      go_enter Tryz.func38, Tryz.ntmps38
      go_wp2_with (first | (go_at_call 72; refine (HT.out _).mono ?_; rintro e w1 ⟨rfl, hb1⟩) | (go_at_call 65; refine (HNum.out _).mono ?_; rintro e w2 ⟨rfl, rfl⟩))
      go_ret
      exact ⟨_, _, rfl, HE.out.of_below hb1, (congrArg (fun p : St × Int => Value.int .i64 p.2) HM.out).symm, y, by rw [HM.out]; exact HR.out, rfl⟩
    | true =>
      rw [hn] at HNum
      cases hrb : rowB l with
      | false =>
        have HM : Hid (M.putA k txn id l = (M, 2)) := by unfold Hid; simp [St.putA, hrb]
        rw [hrb] at HRow
        clear hF h hT hfit hn hrow hnul hrb
        unfold encI ptr at *
        go_enter Tryz.func38, Tryz.ntmps38
        go_wp2_with (first | (go_at_call 72; refine (HT.out _).mono ?_; rintro e w1 ⟨rfl, hb1⟩) | (go_at_call 65; refine (HNum.out _).mono ?_; rintro e w2 ⟨rfl, rfl⟩))
        refine (HRow.out _ hb1).mono ?_
        rintro e w3 ⟨rfl, hb3⟩
        go_wp2
        go_ret
        exact ⟨_, _, rfl, (HE.out.of_below hb1).of_below hb3, (congrArg (fun p : St × Int => Value.int .i64 p.2) HM.out).symm, y, by rw [HM.out]; exact HR.out, rfl⟩
      | true =>
        have HM : Hid (M.putA k txn id l = M.change k txn id ⟨0, false, l⟩) := by unfold Hid; simp [St.putA, St.argsB, hT, hn, hrb]
        rw [hrb] at HRow
        have HCl := Lib.hid (fun W (hW : Below w.heap.size w W) => (hrow.below hW).clone)
        have HC := Lib.hid (fun W g1 (rv' : Value) (hW : FEv B g w g1 W) (hr : Rep y M g1) (hv : RowAt (g1 .imm) rv' l) => change_any B N g1 W y M k id txn ⟨0, false, l⟩ rv' hW.fam hr hfit hN (numB_ok hn) hi hv)
        clear hF h hT hfit hn hrow hnul hrb
        unfold encI ptr at *
        go_enter Tryz.func38, Tryz.ntmps38
        go_wp2_with (first | (go_at_call 72; refine (HT.out _).mono ?_; rintro e w1 ⟨rfl, hb1⟩) | (go_at_call 65; refine (HNum.out _).mono ?_; rintro e w2 ⟨rfl, rfl⟩))
        refine (HRow.out _ hb1).mono ?_
        rintro e w3 ⟨rfl, hb3⟩
        have hb4 := hb1.trans (hb3.mono hb1.size)
        go_wp2_with fail
        refine (HCl.out _ hb4).mono ?_
        rintro e w5 ⟨rv5, Gr, rfl, hb5, hh5, hf5, hrow5⟩
        obtain ⟨g5, hE5, hR5, hv5⟩ := ((HE.out.of_below hb1).of_below hb3).clone HR.out hb5 hh5 hf5 hrow5
        have hv6 := hrow5
        obtain ⟨A5, c5, rfl, _, _⟩ := hv6
        have HX := Lib.hid (And.intro hE5 (And.intro hR5 hv5))
        clear hE5 hR5 hv5 hb5 hh5 hf5 hrow5
        go_wp2_with fail
        refine (HC.out _ _ _ HX.out.1 HX.out.2.1 HX.out.2.2).mono ?_
        rintro e w6 ⟨v6, g6, rfl, hf6, rfl, y6, hr6, hp6⟩
        go_wp2
        go_ret
        exact ⟨_, _, rfl, HX.out.1.trans hf6, (congrArg (fun p : St × Int => Value.int .i64 p.2) HM.out).symm, y6, by rw [HM.out]; exact hr6, hp6⟩
end Go.Ju

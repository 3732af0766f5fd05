/- The laws' comparisons of rows, of lists of rows, of images, of replies. -/
import Derived.Test.YthdnjokioboehaaGreatDoorImage
import Derived.Laws.StructEq
import Derived.LoopN
namespace Go.Ju
open Go.RowKit
open Go.Proofs
open Go.ChangeMaps

instance : DecidableEq Val := fun a b => by
  cases a; cases b
  simp only [Val.mk.injEq]
  exact inferInstance

def eqV (x y : Val) : Bool := decide (x.kind = y.kind) && decide (x.n = y.n) && (x.text.toList == y.text.toList)
theorem eqV_iff {x y : Val} : eqV x y = true ↔ x = y := by
  unfold eqV
  simp only [Bool.and_eq_true, decide_eq_true_eq]
  constructor
  · rintro ⟨⟨h1, h2⟩, h3⟩
    obtain ⟨k1, n1, t1⟩ := x
    obtain ⟨k2, n2, t2⟩ := y
    simp only at h1 h2 h3
    have h4 := toList_inj (a := t1) (b := t2) (by simpa using h3)
    rw [h1, h2, h4]
  · rintro rfl
    simp
theorem neq_val (x y : Val) (w : World) : (binOp .neq 82 (.agg #[.int .i64 x.kind, .int .i64 x.n, .string x.text]) (.agg #[.int .i64 y.kind, .int .i64 y.n, .string y.text])).run Tryz.prog w = .ok (.bool (!eqV x y)) w := by
  have hS : Tryz.prog.underlying 82 = some (.struct (Tryz.prog.fieldsOf 82)) := by kernel_rfl
  have hp : Tryz.prog.stoodInHeld 82 = false := by kernel_rfl
  rw [run_neq_struct, show (10000 : Nat) = 9999 + 1 from rfl, run_equalIn_agg w 9999 82 _ _ hS hp]
  simp only [Program.fieldsOf, Tryz.underlying82]
  unfold eqV
  go_simp
  by_cases h1 : x.kind = y.kind <;> by_cases h2 : x.n = y.n <;> by_cases h3 : x.text.toList = y.text.toList <;> simp [h1, h2, h3]

def sameR : List Val → List Val → Bool
  | [], [] => true
  | x :: l, y :: m => eqV x y && sameR l m
  | _, _ => false
theorem sameR_iff : ∀ {l m : List Val}, sameR l m = true ↔ l = m
  | [], [] => by simp [sameR]
  | [], _ :: _ => by simp [sameR]
  | _ :: _, [] => by simp [sameR]
  | x :: l, y :: m => by simp [sameR, eqV_iff, sameR_iff]
theorem sameR_eq (l m : List Val) : sameR l m = decide (l = m) := by
  rw [Bool.eq_iff_iff, sameR_iff, decide_eq_true_eq]

set_option maxRecDepth 100000 in
/-- SameRow. -/
theorem sameRow_any (G : Gh) (a b : Value) (l m : List Val) (w : World) (hG : Holds G w) (ha : RowAt G a l) (hb : RowAt G b m) (hl : l.length ≤ 1000000000) (_hm : m.length ≤ 1000000000) :
    Calls Tryz.prog 48 #[a, b] w fun e w' => e = .returned (.bool (decide (l = m))) ∧ ∃ n, w' = w.drewN n := by
  obtain ⟨A, c, rfl, hc, hs⟩ := ha
  obtain ⟨A', c', rfl, hc', hs'⟩ := hb
  have HVal : ∀ {A : Option Addr} {l : List Val}, Span G A (rowCells l) → Hid (∀ (k : Nat) (x : Val), l[k]? = some x → ∃ b o, A = some ⟨b, o, none⟩ ∧ ∀ n, (w.drewN n).cell? ⟨b, o + k * 3, none⟩ = some (.int .i64 x.kind) ∧ (w.drewN n).cell? ⟨b, o + k * 3 + 1, none⟩ = some (.int .i64 x.n) ∧ (w.drewN n).cell? ⟨b, o + k * 3 + 2, none⟩ = some (.string x.text)) := fun hs k x hx => by
    obtain ⟨b, o, h1, _, h2⟩ := hs.val hG hx
    exact ⟨b, o, h1, fun n => h2⟩
  have HV := HVal hs
  have HV' := HVal hs'
  have HNe := Lib.hid neq_val
  clear HVal hs hs' hG
  by_cases hlen : l.length = m.length
  · have HL := Lib.hid hlen
    rw [← hlen] at hc' ⊢
    generalize hn : l.length = n at *
    clear hlen
    go_enter Tryz.func48, Tryz.ntmps48
    go_wp2
    go_loopw [13] (fun i wr => ∃ k q : Nat, k ≤ n ∧ i = .int .i64 k ∧ wr = w.drewN q ∧ l.take k = m.take k) (fun i _ => n - (RowKit.intOf i).toNat)
    case atStart => exact ⟨0, 0, Nat.zero_le _, by simp, rfl, by simp⟩
    case round =>
      obtain ⟨k, q, hk, rfl, rfl, heq⟩ := hrel
      by_cases hkn : k = n
      · subst hkn
        have HE : Hid (decide (l = m) = true) := by
          unfold Hid
          rw [List.take_of_length_le (by omega), List.take_of_length_le (by have := HL.out; omega)] at heq
          simpa using heq
        clear heq hn
        go_wp2
        go_ret
        exact ⟨ret_bool HE.out.symm, q, rfl⟩
      · obtain ⟨x, hx⟩ : ∃ x, l[k]? = some x := ⟨l[k]'(by omega), List.getElem?_eq_getElem _⟩
        obtain ⟨z, hz⟩ : ∃ z, m[k]? = some z := ⟨m[k]'(by have := HL.out; omega), List.getElem?_eq_getElem _⟩
        have hklt : k < n := by omega
        have hk1 : (k : Int) < (n : Int) := by omega
        have hk0 : (0 : Int) ≤ (k : Int) := Int.natCast_nonneg _
        obtain ⟨b1, o1, rfl, hc1⟩ := HV.out k x hx
        obtain ⟨b2, o2, rfl, hc2⟩ := HV'.out k z hz
        have hx1 := fun n => (hc1 n).1
        have hx2 := fun n => (hc1 n).2.1
        have hx3 := fun n => (hc1 n).2.2
        have hz1 := fun n => (hc2 n).1
        have hz2 := fun n => (hc2 n).2.1
        have hz3 := fun n => (hc2 n).2.2
        have hsx := take_snoc hx
        have hsz := take_snoc hz
        clear hkn hc1 hc2
        cases hq : eqV x z with
        | true =>
          have hxz := eqV_iff.1 hq
          have HH : Hid (l.take (k + 1) = m.take (k + 1)) := by unfold Hid; rw [hsx, hsz, heq, hxz]
          have hne := fun w => HNe.out x z w
          rw [hq] at hne
          clear heq hn hsx hsz hq hxz hx hz
          go_wp2
          go_quiet (fail)
          go_wp2
          go_roundw
          case rel => exact ⟨k + 1, _, by omega, by go_num, rfl, HH.out⟩
          case measure => simp [RowKit.intOf]; omega
        | false =>
          have HE : Hid (decide (l = m) = false) := by
            unfold Hid
            rw [decide_eq_false_iff_not]
            intro e
            rw [e, hz] at hx
            cases hx
            rw [eqV_iff.2 rfl] at hq
            cases hq
          have hne := fun w => HNe.out x z w
          rw [hq] at hne
          clear heq hn hsx hsz hq hx hz
          go_wp2
          go_quiet (fail)
          go_wp2
          go_ret
          exact ⟨ret_bool HE.out.symm, _, World.drewN_drewN _ _ _⟩
  · have HE : Hid (decide (l = m) = false) := by
      unfold Hid
      rw [decide_eq_false_iff_not]
      exact fun e => hlen (by rw [e])
    have hci : ¬ ((l.length : Int) = (m.length : Int)) := by omega
    have hb1 : ((l.length : Int) == (m.length : Int)) = false := by simpa using hci
    have hb2 : ((l.length : Int) != (m.length : Int)) = true := by simpa using hci
    clear hlen hci
    go_enter Tryz.func48, Tryz.ntmps48
    go_wp2
    go_ret
    exact ⟨ret_bool HE.out.symm, 0, rfl⟩

theorem held_at {GO GR : Gh} {v : Value} {l : List (Int × List Val)} (h : HeldsAt GO GR v l) : ∃ A c, v = .slice A l.length c ∧ l.length ≤ c ∧ ∀ (j : Nat) (x : Int × List Val), l[j]? = some x → ∃ b rv, A = some ⟨b, 0, none⟩ ∧ RowAt GR rv x.2 ∧ ∀ W, Holds GO W → W.cell? ⟨b, j * 2, none⟩ = some (.int .i64 x.1) ∧ W.cell? ⟨b, j * 2 + 1, none⟩ = some rv := by
  obtain ⟨css, h1, h2⟩ := h
  obtain ⟨A, c, rfl, hc, hs⟩ := h2.form
  have hlen : ∀ x ∈ css, x.length = 2 := by
    clear h2 hs hc
    induction h1 with
    | nil => simp
    | cons h _ ih =>
      intro x hx
      rcases List.mem_cons.1 hx with rfl | hx
      · obtain ⟨rv, rfl, _⟩ := h; rfl
      · exact ih x hx
  refine ⟨A, c, rfl, hc, fun j x hj => ?_⟩
  obtain ⟨cs, hcs, rv, rfl, hrow⟩ := h1.get hj
  have g : ∀ i, i < 2 → css.flatten[j * 2 + i]? = ([.int .i64 x.1, rv] : List Value)[i]? := fun i hi => flatten_get hlen hcs hi
  rcases h2.2 with ⟨_, h0⟩ | ⟨b, cap, cur, hv, hb, _, _, _, htake⟩
  · have := (List.getElem?_eq_some_iff.1 hj).1; omega
  · injection hv with hA _ _
    have cel : ∀ W, Holds GO W → ∀ i u, css.flatten[i]? = some u → W.cell? ⟨b, i, none⟩ = some u := fun W hG i u hi => by
      refine hG.cell hb ?_
      rw [← htake, List.getElem?_take] at hi
      split at hi
      · simpa using hi
      · cases hi
    exact ⟨b, rv, hA, hrow, fun W hG => ⟨cel W hG _ _ (g 0 (by omega)), cel W hG _ _ (g 1 (by omega))⟩⟩

/-- The lists are short enough for Go's ints. -/
def HeldSmall (l : List (Int × List Val)) : Prop := l.length ≤ 1000000000 ∧ ∀ x ∈ l, x.2.length ≤ 1000000000
set_option maxRecDepth 100000 in
/-- SameHeld. -/
theorem sameHeld_any (G : Gh) (a b : Value) (l m : List (Int × List Val)) (w : World) (hG : Holds G w) (ha : HeldsAt G G a l) (hb : HeldsAt G G b m) (hl : HeldSmall l) (hm : HeldSmall m) :
    Calls Tryz.prog 47 #[a, b] w fun e w' => e = .returned (.bool (decide (l = m))) ∧ ∃ n, w' = w.drewN n := by
  obtain ⟨A, c, rfl, hc, hs⟩ := held_at ha
  obtain ⟨A', c', rfl, hc', hs'⟩ := held_at hb
  have HV := Lib.hid hs
  have HV' := Lib.hid hs'
  have HG := Lib.hid hG
  have hl1 := hl.1
  have HSm := Lib.hid (And.intro hl.2 hm.2)
  have HRow := Lib.hid (fun a b l m W hW ha hb hl hm => sameRow_any G a b l m W hW ha hb hl hm)
  clear hs hs' ha hb hl hm hG
  by_cases hlen : l.length = m.length
  · have HL := Lib.hid hlen
    rw [← hlen] at hc' ⊢
    generalize hn : l.length = n at *
    clear hlen
    go_enter Tryz.func47, Tryz.ntmps47
    go_wp2
    go_loopw [13] (fun i wr => ∃ k q : Nat, k ≤ n ∧ i = .int .i64 k ∧ wr = w.drewN q ∧ l.take k = m.take k) (fun i _ => n - (RowKit.intOf i).toNat)
    case atStart => exact ⟨0, 0, Nat.zero_le _, by simp, rfl, by simp⟩
    case round =>
      obtain ⟨k, q, hk, rfl, hwq, heq⟩ := hrel
      have hGr : Holds G wr := by rw [hwq]; exact HG.out.drewN q
      have HW := Lib.hid hwq
      clear hwq
      by_cases hkn : k = n
      · subst hkn
        have HE : Hid (decide (l = m) = true) := by
          unfold Hid
          rw [List.take_of_length_le (by omega), List.take_of_length_le (by have := HL.out; omega)] at heq
          simpa using heq
        clear heq hn
        go_wp2
        go_ret
        exact ⟨ret_bool HE.out.symm, q, HW.out⟩
      · obtain ⟨x, hx⟩ : ∃ x, l[k]? = some x := ⟨l[k]'(by omega), List.getElem?_eq_getElem _⟩
        obtain ⟨z, hz⟩ : ∃ z, m[k]? = some z := ⟨m[k]'(by have := HL.out; omega), List.getElem?_eq_getElem _⟩
        have hklt : k < n := by omega
        have hk1 : (k : Int) < (n : Int) := by omega
        have hk0 : (0 : Int) ≤ (k : Int) := Int.natCast_nonneg _
        obtain ⟨b1, rv1, rfl, hr1, hc1⟩ := HV.out k x hx
        obtain ⟨b2, rv2, rfl, hr2, hc2⟩ := HV'.out k z hz
        have hx1 := fun n => (hc1 _ (hGr.drewN n)).1
        have hx2 := fun n => (hc1 _ (hGr.drewN n)).2
        have hz1 := fun n => (hc2 _ (hGr.drewN n)).1
        have hz2 := fun n => (hc2 _ (hGr.drewN n)).2
        have hsx := take_snoc hx
        have hsz := take_snoc hz
        have hs1 := HSm.out.1 x (List.mem_of_getElem? hx)
        have hs2 := HSm.out.2 z (List.mem_of_getElem? hz)
        have hne : x ≠ z → decide (l = m) = false := fun h => by
          rw [decide_eq_false_iff_not]
          intro e
          rw [e, hz] at hx
          cases hx
          exact h rfl
        obtain ⟨xi, xr⟩ := x
        obtain ⟨zi, zr⟩ := z
        dsimp only at *
        clear hkn hc1 hc2
        by_cases hid : xi = zi
        · have hq := fun n => HRow.out rv1 rv2 xr zr _ (hGr.drewN n) hr1 hr2 hs1 hs2
          subst hid
          cases hd : decide (xr = zr) with
          | true =>
            have HH : Hid (l.take (k + 1) = m.take (k + 1)) := by unfold Hid; rw [hsx, hsz, heq, of_decide_eq_true hd]
            rw [hd] at hq
            have HQ := Lib.hid hq
            clear heq hn hsx hsz hx hz hne hr1 hr2 hq hd
            go_wp2
            go_quiet ((go_at_call 48; exact Calls.quiet_of (HQ.out _)))
            go_wp2
            go_roundw
            case rel => exact ⟨k + 1, _, by omega, by go_num, by rw [HW.out, World.drewN_drewN], HH.out⟩
            case measure => simp [RowKit.intOf]; omega
          | false =>
            have HE := Lib.hid (hne (fun e => by injection e with _ e; rw [e] at hd; simp at hd))
            rw [hd] at hq
            have HQ := Lib.hid hq
            clear heq hn hsx hsz hx hz hne hr1 hr2 hq hd
            go_wp2
            go_quiet ((go_at_call 48; exact Calls.quiet_of (HQ.out _)))
            go_wp2
            go_ret
            exact ⟨ret_bool HE.out.symm, _, by rw [HW.out, World.drewN_drewN]⟩
        · have HE := Lib.hid (hne (fun e => by injection e with e _; exact hid e))
          have hb1 : (xi == zi) = false := by simpa using hid
          have hb2 : (xi != zi) = true := by simpa using hid
          clear heq hn hsx hsz hx hz hne hr1 hr2 hid
          go_wp2
          go_quiet (fail)
          go_wp2
          go_ret
          exact ⟨ret_bool HE.out.symm, _, by rw [HW.out, World.drewN_drewN]⟩
  · have HE : Hid (decide (l = m) = false) := by
      unfold Hid
      rw [decide_eq_false_iff_not]
      exact fun e => hlen (by rw [e])
    have hci : ¬ ((l.length : Int) = (m.length : Int)) := by omega
    have hb1 : ((l.length : Int) == (m.length : Int)) = false := by simpa using hci
    have hb2 : ((l.length : Int) != (m.length : Int)) = true := by simpa using hci
    clear hlen hci
    go_enter Tryz.func47, Tryz.ntmps47
    go_wp2
    go_ret
    exact ⟨ret_bool HE.out.symm, 0, rfl⟩

/-! ### replies -/
structure Reply where
  n : Int
  m : Int
  e : Int
  row : List Val
  held : List (Int × List Val)
def Reply.zero : Reply := ⟨0, 0, 0, [], []⟩
def sameRep (a b : Reply) : Bool := decide (a.n = b.n) && decide (a.m = b.m) && decide (a.e = b.e) && decide (a.row = b.row) && decide (a.held = b.held)
theorem sameRep_iff {a b : Reply} : sameRep a b = true ↔ a = b := by
  unfold sameRep
  simp only [Bool.and_eq_true, decide_eq_true_eq]
  obtain ⟨a1, a2, a3, a4, a5⟩ := a
  obtain ⟨b1, b2, b3, b4, b5⟩ := b
  simp only [Reply.mk.injEq]
  constructor
  · rintro ⟨⟨⟨⟨h1, h2⟩, h3⟩, h4⟩, h5⟩; exact ⟨h1, h2, h3, h4, h5⟩
  · rintro ⟨h1, h2, h3, h4, h5⟩; exact ⟨⟨⟨⟨h1, h2⟩, h3⟩, h4⟩, h5⟩
structure RepAt (G : Gh) (rv hv : Value) (r : Reply) : Prop where
  row : RowAt G rv r.row
  held : HeldsAt G G hv r.held
  srow : r.row.length ≤ 1000000000
  sheld : HeldSmall r.held
theorem RepAt.sub {G G' : Gh} {rv hv : Value} {r : Reply} (h : RepAt G rv hv r) (hs : Sub G G') : RepAt G' rv hv r := ⟨h.row.sub hs, h.held.sub hs, h.srow, h.sheld⟩
theorem HeldSmall.nil : HeldSmall [] := ⟨by simp, by simp⟩
def repVal (r : Reply) (rv hv : Value) : Value := .agg #[.int .i64 r.n, .int .i64 r.m, .int .i64 r.e, rv, hv]

set_option maxRecDepth 100000 in
/-- same. -/
theorem same_any (G : Gh) (a b : Reply) (ra ha rb hb : Value) (w : World) (hG : Holds G w) (h1 : RepAt G ra ha a) (h2 : RepAt G rb hb b) :
    Calls Tryz.prog 21 #[repVal a ra ha, repVal b rb hb] w fun e w' => e = .returned (.bool (sameRep a b)) ∧ Below w.heap.size w w' := by
  have hb2 : Below w.heap.size w ((w.alloc (.cells #[.int .i64 a.n, .int .i64 a.m, .int .i64 a.e, ra, ha] 47)).alloc (.cells #[.int .i64 b.n, .int .i64 b.m, .int .i64 b.e, rb, hb] 47)) := ((Below.refl _ _).alloc (Nat.le_refl _) _).alloc (by simp) _
  have HB := Lib.hid hb2
  have HRow := Lib.hid (sameRow_any G ra rb a.row b.row _ (hG.below hb2) h1.row h2.row h1.srow h2.srow)
  have HHeld := Lib.hid (fun n => sameHeld_any G ha hb a.held b.held _ ((hG.below hb2).drewN n) h1.held h2.held h1.sheld h2.sheld)
  obtain ⟨A1, c1, rfl, _, _⟩ := h1.row
  obtain ⟨A2, c2, rfl, _, _⟩ := h2.row
  obtain ⟨A3, c3, rfl, _, _⟩ := held_at h1.held
  obtain ⟨A4, c4, rfl, _, _⟩ := held_at h2.held
  unfold repVal
  clear hb2 h1 h2 hG
  by_cases e1 : a.n = b.n
  · have f1 : (a.n == b.n) = true := by simpa using e1
    by_cases e2 : a.m = b.m
    · have f2 : (a.m == b.m) = true := by simpa using e2
      by_cases e3 : a.e = b.e
      · have f3 : (a.e == b.e) = true := by simpa using e3
        cases e4 : decide (a.row = b.row) with
        | true =>
          have HS : Hid (sameRep a b = decide (a.held = b.held)) := by unfold Hid sameRep; rw [e4]; simp [e1, e2, e3]
          rw [e4] at HRow
          have F := Lib.hid (And.intro e1 (And.intro e2 e3))
          clear e1 e2 e3 e4
          go_enter Tryz.func21, Tryz.ntmps21
          go_wp2_with (first | (go_at_call 48; refine HRow.out.mono ?_; rintro e w2 ⟨rfl, n2, rfl⟩) | (go_at_call 47; refine (HHeld.out _).mono ?_; rintro e w3 ⟨rfl, n3, rfl⟩))
          go_ret
          exact ⟨ret_bool HS.out.symm, HB.out.trans (Below.of_drewN _ _ _)⟩
        | false =>
          have HS : Hid (sameRep a b = false) := by unfold Hid sameRep; rw [e4]; simp
          rw [e4] at HRow
          clear e1 e2 e3 e4
          go_enter Tryz.func21, Tryz.ntmps21
          go_wp2_with (first | (go_at_call 48; refine HRow.out.mono ?_; rintro e w2 ⟨rfl, n2, rfl⟩))
          go_ret
          exact ⟨ret_bool HS.out.symm, HB.out.trans (Below.of_drewN _ _ n2)⟩
      · have f3 : (a.e == b.e) = false := by simpa using e3
        have HS : Hid (sameRep a b = false) := by unfold Hid sameRep; simp [e3]
        clear e1 e2 e3
        go_enter Tryz.func21, Tryz.ntmps21
        go_wp2
        go_ret
        exact ⟨ret_bool HS.out.symm, HB.out⟩
    · have f2 : (a.m == b.m) = false := by simpa using e2
      have HS : Hid (sameRep a b = false) := by unfold Hid sameRep; simp [e2]
      clear e1 e2
      go_enter Tryz.func21, Tryz.ntmps21
      go_wp2
      go_ret
      exact ⟨ret_bool HS.out.symm, HB.out⟩
  · have f1 : (a.n == b.n) = false := by simpa using e1
    have HS : Hid (sameRep a b = false) := by unfold Hid sameRep; simp [e1]
    clear e1
    go_enter Tryz.func21, Tryz.ntmps21
    go_wp2
    go_ret
    exact ⟨ret_bool HS.out.symm, HB.out⟩

/-! ### images -/
theorem stored_at {GO GR : Gh} {v : Value} {l : List StoredM} (h : StoredsAt GO GR v l) : ∃ A c, v = .slice A l.length c ∧ l.length ≤ c ∧ ∀ (j : Nat) (x : StoredM), l[j]? = some x → ∃ b hv, A = some ⟨b, 0, none⟩ ∧ HeldsAt GR GR hv x.rows ∧ ∀ W, Holds GO W → W.cell? ⟨b, j * 4, none⟩ = some (.string x.key.1) ∧ W.cell? ⟨b, j * 4 + 1, none⟩ = some (.string x.key.2) ∧ W.cell? ⟨b, j * 4 + 2, none⟩ = some hv ∧ W.cell? ⟨b, j * 4 + 3, none⟩ = some (.int .i64 x.next) := by
  obtain ⟨css, h1, h2⟩ := h
  obtain ⟨A, c, rfl, hc, hs⟩ := h2.form
  have hlen : ∀ x ∈ css, x.length = 4 := by
    clear h2 hs hc
    induction h1 with
    | nil => simp
    | cons h _ ih =>
      intro x hx
      rcases List.mem_cons.1 hx with rfl | hx
      · obtain ⟨rv, rfl, _⟩ := h; rfl
      · exact ih x hx
  refine ⟨A, c, rfl, hc, fun j x hj => ?_⟩
  obtain ⟨cs, hcs, hv, rfl, hheld⟩ := h1.get hj
  have g : ∀ i, i < 4 → css.flatten[j * 4 + i]? = ([.string x.key.1, .string x.key.2, hv, .int .i64 x.next] : List Value)[i]? := fun i hi => flatten_get hlen hcs hi
  rcases h2.2 with ⟨_, h0⟩ | ⟨b, cap, cur, hv', hb, _, _, _, htake⟩
  · have := (List.getElem?_eq_some_iff.1 hj).1; omega
  · injection hv' with hA _ _
    have cel : ∀ W, Holds GO W → ∀ i u, css.flatten[i]? = some u → W.cell? ⟨b, i, none⟩ = some u := fun W hG i u hi => by
      refine hG.cell hb ?_
      rw [← htake, List.getElem?_take] at hi
      split at hi
      · simpa using hi
      · cases hi
    exact ⟨b, hv, hA, hheld, fun W hG => ⟨cel W hG _ _ (g 0 (by omega)), cel W hG _ _ (g 1 (by omega)), cel W hG _ _ (g 2 (by omega)), cel W hG _ _ (g 3 (by omega))⟩⟩
def ImgSmall (l : List StoredM) : Prop := l.length ≤ 1000000000 ∧ ∀ x ∈ l, HeldSmall x.rows
def sameSt (x y : StoredM) : Bool := (x.key.1.toList == y.key.1.toList) && (x.key.2.toList == y.key.2.toList) && decide (x.next = y.next) && decide (x.rows = y.rows)
theorem sameSt_iff {x y : StoredM} : sameSt x y = true ↔ x = y := by
  unfold sameSt
  simp only [Bool.and_eq_true, decide_eq_true_eq, beq_iff_eq]
  obtain ⟨⟨a1, a2⟩, a3, a4⟩ := x
  obtain ⟨⟨b1, b2⟩, b3, b4⟩ := y
  simp only [StoredM.mk.injEq, Prod.mk.injEq]
  constructor
  · rintro ⟨⟨⟨h1, h2⟩, h3⟩, h4⟩; exact ⟨⟨toList_inj h1, toList_inj h2⟩, h4, h3⟩
  · rintro ⟨⟨h1, h2⟩, h3, h4⟩; exact ⟨⟨⟨by rw [h1], by rw [h2]⟩, h4⟩, h3⟩
def sameSts : List StoredM → List StoredM → Bool
  | [], [] => true
  | x :: l, y :: m => sameSt x y && sameSts l m
  | _, _ => false
theorem sameSts_iff : ∀ {l m : List StoredM}, sameSts l m = true ↔ l = m
  | [], [] => by simp [sameSts]
  | [], _ :: _ => by simp [sameSts]
  | _ :: _, [] => by simp [sameSts]
  | x :: l, y :: m => by simp [sameSts, sameSt_iff, sameSts_iff]
def sameImg (a b : Img) : Bool := decide (a.time = b.time) && sameSts a.tabs b.tabs
theorem sameImg_iff {a b : Img} : sameImg a b = true ↔ a = b := by
  unfold sameImg
  simp only [Bool.and_eq_true, decide_eq_true_eq, sameSts_iff]
  obtain ⟨a1, a2⟩ := a
  obtain ⟨b1, b2⟩ := b
  simp only [Img.mk.injEq]
theorem sameImg_false {a b : Img} (h : a ≠ b) : sameImg a b = false := by
  cases h1 : sameImg a b with
  | false => rfl
  | true => exact absurd (sameImg_iff.1 h1) h

set_option maxRecDepth 100000 in
set_option maxHeartbeats 1000000 in
/-- SameImage. -/
theorem sameImage_any (G : Gh) (a b : Img) (ta tb : Value) (w : World) (hG : Holds G w) (ha : StoredsAt G G ta a.tabs) (hb : StoredsAt G G tb b.tabs) (hl : ImgSmall a.tabs) (hm : ImgSmall b.tabs) :
    Calls Tryz.prog 16 #[.agg #[.int .i64 a.time, ta], .agg #[.int .i64 b.time, tb]] w fun e w' => e = .returned (.bool (sameImg a b)) ∧ Below w.heap.size w w' := by
  obtain ⟨A, c, rfl, hc, hs⟩ := stored_at ha
  obtain ⟨A', c', rfl, hc', hs'⟩ := stored_at hb
  have HV := Lib.hid hs
  have HV' := Lib.hid hs'
  have hb2 : Below w.heap.size w ((w.alloc (.cells #[.int .i64 a.time, .slice A a.tabs.length c] 24)).alloc (.cells #[.int .i64 b.time, .slice A' b.tabs.length c'] 24)) := ((Below.refl _ _).alloc (Nat.le_refl _) _).alloc (by simp) _
  have hl1 := hl.1
  have HSm := Lib.hid (And.intro hl.2 hm.2)
  have HHeld := Lib.hid (fun x y l m W hW ha hb hl hm => sameHeld_any G x y l m W hW ha hb hl hm)
  by_cases et : a.time = b.time
  · have ft : (a.time == b.time) = true := by simpa using et
    have ft2 : (a.time != b.time) = false := by simpa using et
    by_cases hlen : a.tabs.length = b.tabs.length
    · have HT := Lib.hid (And.intro et hlen)
      rw [← hlen] at hc' hb2 ⊢
      generalize hn : a.tabs.length = n at *
      have HB := Lib.hid (And.intro hb2 (show w.heap.size + 1 < ((w.alloc (.cells #[.int .i64 a.time, .slice A n c] 24)).alloc (.cells #[.int .i64 b.time, .slice A' n c'] 24)).heap.size by simp))
      have HG := Lib.hid hG
      clear hs hs' ha hb hl hm hG et hlen hb2
      go_enter Tryz.func16, Tryz.ntmps16
      go_wp2_with fail
      obtain ⟨u, hU⟩ : ∃ u, u = ((w.alloc (.cells #[.int .i64 a.time, .slice A n c] 24)).alloc (.cells #[.int .i64 b.time, .slice A' n c'] 24)) := ⟨_, rfl⟩
      have d1 : u.cell? ⟨w.heap.size + 1, 1, none⟩ = some (.slice A' n c') := by rw [hU]; simp
      rw [← hU] at HB ⊢
      clear hU
      have HD := Lib.hid (And.intro HB.out.1 (And.intro HB.out.2 d1))
      generalize hb1w : w.heap.size = b1 at *
      clear d1 HB
      go_loopw [25] (fun i wr => ∃ k : Nat, k ≤ n ∧ i = .int .i64 k ∧ Below u.heap.size u wr ∧ a.tabs.take k = b.tabs.take k) (fun i _ => n - (RowKit.intOf i).toNat)
      case atStart => exact ⟨0, Nat.zero_le _, by simp, Below.refl _ _, by simp⟩
      case round =>
        obtain ⟨k, hk, rfl, hbr, heq⟩ := hrel
        have hbw := HD.out.1.trans (hbr.mono (by rw [← hb1w]; exact HD.out.1.size))
        by_cases hkn : k = n
        · subst hkn
          have HE : Hid (sameImg a b = true) := by
            unfold Hid
            rw [List.take_of_length_le (by omega), List.take_of_length_le (by have := HT.out.2; omega)] at heq
            rw [sameImg_iff]
            obtain ⟨a1, a2⟩ := a
            obtain ⟨b1, b2⟩ := b
            simp only [Img.mk.injEq]
            exact ⟨HT.out.1, heq⟩
          have HW := Lib.hid hbw
          clear heq hn hbr hbw
          go_wp2
          go_ret
          exact ⟨ret_bool HE.out.symm, by rw [hb1w]; exact HW.out⟩
        · obtain ⟨x, hx⟩ : ∃ x, a.tabs[k]? = some x := ⟨a.tabs[k]'(by omega), List.getElem?_eq_getElem _⟩
          obtain ⟨z, hz⟩ : ∃ z, b.tabs[k]? = some z := ⟨b.tabs[k]'(by have := HT.out.2; omega), List.getElem?_eq_getElem _⟩
          have hklt : k < n := by omega
          have hk1 : (k : Int) < (n : Int) := by omega
          have hk0 : (0 : Int) ≤ (k : Int) := Int.natCast_nonneg _
          obtain ⟨q1, hv1, rfl, hh1, hc1⟩ := HV.out k x hx
          obtain ⟨q2, hv2, rfl, hh2, hc2⟩ := HV'.out k z hz
          obtain ⟨A5, c5, rfl, _, _⟩ := held_at hh1
          obtain ⟨A6, c6, rfl, _, _⟩ := held_at hh2
          have hGw : Holds G wr := HG.out.below (by rw [hb1w]; exact hbw)
          obtain ⟨x1, x2, x3, x4⟩ := hc1 wr hGw
          have hw2 : Below wr.heap.size wr (wr.alloc (.cells #[.string x.key.1, .string x.key.2, .slice A5 x.rows.length c5, .int .i64 x.next] 72)) := (Below.refl _ _).alloc (Nat.le_refl _) _
          have hw3 : Below wr.heap.size wr ((wr.alloc (.cells #[.string x.key.1, .string x.key.2, .slice A5 x.rows.length c5, .int .i64 x.next] 72)).alloc (.cells #[.string z.key.1, .string z.key.2, .slice A6 z.rows.length c6, .int .i64 z.next] 72)) := hw2.alloc (by simp) _
          obtain ⟨z1, z2, z3, z4⟩ := hc2 _ (hGw.below hw2)
          have d1 : (wr.alloc (.cells #[.string x.key.1, .string x.key.2, .slice A5 x.rows.length c5, .int .i64 x.next] 72)).cell? ⟨b1 + 1, 1, none⟩ = some (.slice (some ⟨q2, 0, none⟩) n c') := by
            have hlt := HD.out.2.1
            have h2 := hbr.trans (hw2.mono hbr.size)
            exact (h2.cell (p := ⟨b1 + 1, 1, none⟩) hlt).trans HD.out.2.2
          have HQ := Lib.hid (HHeld.out _ _ x.rows z.rows _ (hGw.below hw3) hh1 hh2 (HSm.out.1 x (List.mem_of_getElem? hx)) (HSm.out.2 z (List.mem_of_getElem? hz)))
          have hsx := take_snoc hx
          have hsz := take_snoc hz
          have hne : sameSt x z = false → sameImg a b = false := fun h => sameImg_false fun e => by
            rw [e, hz] at hx
            cases hx
            rw [sameSt_iff.2 rfl] at h
            cases h
          have HN := Lib.hid (And.intro hne (And.intro (hbr.trans (hw3.mono hbr.size)) (hbw.trans (hw3.mono (by rw [← hb1w]; exact hbw.size)))))
          have HX := Lib.hid (And.intro hsx (And.intro hsz heq))
          clear hsx hsz heq hne hn hx hz hkn hh1 hh2 hc1 hc2 hGw hw2 hw3 hbr hbw
          obtain ⟨xk, xr, xn⟩ := x
          obtain ⟨zk, zr, zn⟩ := z
          dsimp only at *
          cases f1 : (xk.1.toList == zk.1.toList) with
          | false =>
            have HE : Hid (sameImg a b = false) := HN.out.1 (by unfold sameSt; dsimp only; rw [f1]; rfl)
            go_wp2
            go_ret
            exact ⟨ret_bool HE.out.symm, by rw [hb1w]; exact HN.out.2.2⟩
          | true =>
            cases f2 : (xk.2.toList == zk.2.toList) with
            | false =>
              have HE : Hid (sameImg a b = false) := HN.out.1 (by unfold sameSt; dsimp only; rw [f1, f2]; rfl)
              go_wp2
              go_ret
              exact ⟨ret_bool HE.out.symm, by rw [hb1w]; exact HN.out.2.2⟩
            | true =>
              by_cases e3 : xn = zn
              · subst e3
                cases e4 : decide (xr = zr) with
                | true =>
                  have HH : Hid (a.tabs.take (k + 1) = b.tabs.take (k + 1)) := by
                    unfold Hid
                    have hxz : (⟨xk, xr, xn⟩ : StoredM) = ⟨zk, zr, xn⟩ := sameSt_iff.1 (by unfold sameSt; dsimp only; rw [f1, f2, e4]; simp)
                    rw [HX.out.1, HX.out.2.1, HX.out.2.2, hxz]
                  rw [e4] at HQ
                  clear e4
                  go_wp2_with (go_at_call 47; refine HQ.out.mono ?_; rintro e w5 ⟨rfl, n5, rfl⟩)
                  go_roundw
                  case rel => exact ⟨k + 1, by omega, by go_num, HN.out.2.1.trans (Below.of_drewN _ _ _), HH.out⟩
                  case measure => simp [RowKit.intOf]; omega
                | false =>
                  have HE : Hid (sameImg a b = false) := HN.out.1 (by unfold sameSt; dsimp only; rw [f1, f2, e4]; simp)
                  rw [e4] at HQ
                  clear e4
                  go_wp2_with (go_at_call 47; refine HQ.out.mono ?_; rintro e w5 ⟨rfl, n5, rfl⟩)
                  go_ret
                  exact ⟨ret_bool HE.out.symm, by rw [hb1w]; exact HN.out.2.2.trans (Below.of_drewN _ _ _)⟩
              · have f3 : (xn == zn) = false := by simpa using e3
                have f4 : (xn != zn) = true := by simpa using e3
                have HE : Hid (sameImg a b = false) := HN.out.1 (by unfold sameSt; dsimp only; rw [f1, f2]; simp [e3])
                clear e3
                go_wp2
                go_ret
                exact ⟨ret_bool HE.out.symm, by rw [hb1w]; exact HN.out.2.2⟩
    · have HE : Hid (sameImg a b = false) := sameImg_false (fun e => hlen (by rw [e]))
      have hci : ¬ ((a.tabs.length : Int) = (b.tabs.length : Int)) := by omega
      have hcl : ((a.tabs.length : Int) == (b.tabs.length : Int)) = false := by simpa using hci
      have hcl2 : ((a.tabs.length : Int) != (b.tabs.length : Int)) = true := by simpa using hci
      have HB := Lib.hid hb2
      clear hs hs' ha hb hl hm hG et hlen hb2 hci
      go_enter Tryz.func16, Tryz.ntmps16
      go_wp2
      go_ret
      exact ⟨ret_bool HE.out.symm, HB.out⟩
  · have ft : (a.time == b.time) = false := by simpa using et
    have ft2 : (a.time != b.time) = true := by simpa using et
    have HE : Hid (sameImg a b = false) := sameImg_false (fun e => et (by rw [e]))
    have HB := Lib.hid hb2
    clear hs hs' ha hb hl hm hG et hb2
    go_enter Tryz.func16, Tryz.ntmps16
    go_wp2
    go_ret
    exact ⟨ret_bool HE.out.symm, HB.out⟩
end Go.Ju

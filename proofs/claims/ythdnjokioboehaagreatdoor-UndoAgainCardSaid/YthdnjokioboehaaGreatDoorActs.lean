/- Acts, as plain data and as they lie in memory; 'few'. -/
import Derived.Test.YthdnjokioboehaaGreatDoorFull
import Derived.LoopN
namespace Go.Ju
open Go.RowKit
open Go.Proofs
open Go.ChangeMaps

structure ActM where
  op : Int
  key : Key
  txn : Int
  id : Int
  n : Int
  row : List Val
def i64 (n : Int) : Prop := -9223372036854775808 ≤ n ∧ n ≤ 9223372036854775807
structure ActIs (G : Gh) (a : ActM) (cs : List Value) : Prop where
  cells : ∃ rv, cs = [.int .i64 a.op, .string a.key.1, .string a.key.2, .int .i64 a.txn, .int .i64 a.id, .int .i64 a.n, rv] ∧ RowAt G rv a.row
  op : i64 a.op
  txn : i64 a.txn
  id : i64 a.id
  n : i64 a.n
  s1 : a.key.1.size ≤ 140737488351232
  s2 : a.key.2.size ≤ 140737488351232
  len : a.row.length ≤ 140737488351232
def ActsAt (G : Gh) (v : Value) (l : List ActM) : Prop := ∃ css A c, All2 (ActIs G) l css ∧ v = .slice A l.length c ∧ l.length ≤ c ∧ l.length ≤ 140737488351232 ∧ Span G A css.flatten
def fewA (a : ActM) : Bool := decide (a.row.length ≤ 30) && decide (a.key.1.size + a.key.2.size ≤ 200)
def fewB (l : List ActM) : Bool := l.all fewA && decide (l.length ≤ 300)

/-- An act's cells. -/
theorem act_at {G : Gh} {v : Value} {l : List ActM} (h : ActsAt G v l) : ∃ A c, v = .slice A l.length c ∧ l.length ≤ c ∧ l.length ≤ 140737488351232 ∧ ∀ (j : Nat) (a : ActM), l[j]? = some a → ∃ b o rv cs, A = some ⟨b, o, none⟩ ∧ ActIs G a cs ∧ cs = [.int .i64 a.op, .string a.key.1, .string a.key.2, .int .i64 a.txn, .int .i64 a.id, .int .i64 a.n, rv] ∧ RowAt G rv a.row ∧
    ∀ W, Holds G W → W.cell? ⟨b, o + j * 7, none⟩ = some (.int .i64 a.op) ∧ W.cell? ⟨b, o + j * 7 + 1, none⟩ = some (.string a.key.1) ∧ W.cell? ⟨b, o + j * 7 + 2, none⟩ = some (.string a.key.2) ∧ W.cell? ⟨b, o + j * 7 + 3, none⟩ = some (.int .i64 a.txn) ∧ W.cell? ⟨b, o + j * 7 + 4, none⟩ = some (.int .i64 a.id) ∧ W.cell? ⟨b, o + j * 7 + 5, none⟩ = some (.int .i64 a.n) ∧ W.cell? ⟨b, o + j * 7 + 6, none⟩ = some rv := by
  obtain ⟨css, A, c, h1, rfl, h2, h3, hs⟩ := h
  refine ⟨A, c, rfl, h2, by omega, fun j a hj => ?_⟩
  obtain ⟨cs, hcs, hact⟩ := h1.get hj
  obtain ⟨rv, hcv, hrow⟩ := hact.cells
  have hall : ∀ x ∈ css, x.length = 7 := by
    clear hs hj hcs h2 h3
    induction h1 with
    | nil => intro x hx; simp at hx
    | cons h0 _ ih =>
      intro x hx
      rcases List.mem_cons.1 hx with rfl | hx
      · obtain ⟨⟨_, e, _⟩, _⟩ := h0
        rw [e]; rfl
      · exact ih x hx
  have g : ∀ i, i < 7 → css.flatten[j * 7 + i]? = cs[i]? := fun i hi => flatten_get hall hcs hi
  rcases hs with hs | ⟨b, o, cs', t, fr, rfl, hb, hc⟩
  · have := g 0 (by omega)
    rw [hs, hcv] at this
    simp at this
  · refine ⟨b, o, rv, cs, rfl, hact, hcv, hrow, fun W hW => ?_⟩
    have cel : ∀ i u, i < 7 → cs[i]? = some u → W.cell? ⟨b, o + j * 7 + i, none⟩ = some u := fun i u hi hu => by
      have h5 := hc (j * 7 + i) u ((g i hi).trans hu)
      rw [show o + (j * 7 + i) = o + j * 7 + i by omega] at h5
      simp [World.cell?, hW b _ hb, h5]
    exact ⟨cel 0 _ (by omega) (by rw [hcv]; rfl), cel 1 _ (by omega) (by rw [hcv]; rfl), cel 2 _ (by omega) (by rw [hcv]; rfl), cel 3 _ (by omega) (by rw [hcv]; rfl), cel 4 _ (by omega) (by rw [hcv]; rfl), cel 5 _ (by omega) (by rw [hcv]; rfl), cel 6 _ (by omega) (by rw [hcv]; rfl)⟩

set_option maxRecDepth 100000 in
set_option maxHeartbeats 1000000 in
/-- few. -/
theorem few_any (G : Gh) (v : Value) (l : List ActM) (w : World) (hG : Holds G w) (h : ActsAt G v l) :
    Calls Tryz.prog 18 #[v] w fun e w' => e = .returned (.bool (fewB l)) ∧ Below w.heap.size w w' := by
  obtain ⟨A, c, rfl, hc, hm, hs⟩ := act_at h
  have HV := Lib.hid hs
  have HG := Lib.hid hG
  clear hs hG h
  generalize hn : l.length = n at *
  go_enter Tryz.func18, Tryz.ntmps18
  go_wp2
  go_loopw [7] (fun i wr => ∃ k : Nat, k ≤ n ∧ i = .int .i64 k ∧ Below w.heap.size w wr ∧ (l.take k).all fewA = true) (fun i _ => n - (RowKit.intOf i).toNat)
  case atStart => exact ⟨0, Nat.zero_le _, by simp, Below.refl _ _, by simp⟩
  case round =>
    obtain ⟨k, hk, rfl, hb, hall⟩ := hrel
    have hm' : (n : Int) ≤ 140737488351232 := by omega
    by_cases hkn : k = n
    · subst hkn
      have HB := Lib.hid hb
      have HE : Hid (decide ((k : Int) ≤ 300) = fewB l) := by
        unfold Hid fewB
        rw [List.take_of_length_le (by omega)] at hall
        rw [hall, hn, Bool.true_and]
        by_cases h3 : k ≤ 300
        · rw [decide_eq_true h3, decide_eq_true (by omega)]
        · rw [decide_eq_false h3, decide_eq_false (by omega)]
      clear hb hall hn
      go_wp2
      go_ret
      exact ⟨ret_bool HE.out, HB.out⟩
    · obtain ⟨x, hx⟩ : ∃ x, l[k]? = some x := ⟨l[k]'(by omega), List.getElem?_eq_getElem _⟩
      have hklt : k < n := by omega
      have hk1 : (k : Int) < (n : Int) := by omega
      have hk0 : (0 : Int) ≤ (k : Int) := Int.natCast_nonneg _
      obtain ⟨b, o, rv, cs, rfl, hact, -, hrow, hcel⟩ := HV.out k x hx
      obtain ⟨q0, q1, q2, q3, q4, q5, q6⟩ := hcel _ (HG.out.below hb)
      obtain ⟨A2, c2, rfl, hc2, -⟩ := hrow
      have hb2 : Below w.heap.size w (wr.alloc (.cells #[.int .i64 x.op, .string x.key.1, .string x.key.2, .int .i64 x.txn, .int .i64 x.id, .int .i64 x.n, .slice A2 x.row.length c2] 43)) := hb.alloc hb.size _
      have HB := Lib.hid hb2
      have hs1 := hact.s1
      have hs2 := hact.s2
      have hs3 := hact.len

      have hadd : wrap64 ((x.key.1.size : Int) + (x.key.2.size : Int)) = (x.key.1.size : Int) + (x.key.2.size : Int) := by unfold wrap64; omega
      have hne : fewA x = false → fewB l = false := fun h => by
        unfold fewB
        rw [Bool.and_eq_false_iff]
        left
        rw [List.all_eq_false]
        exact ⟨x, List.mem_of_getElem? hx, by simp [h]⟩
      have hyes : fewA x = true → (l.take (k + 1)).all fewA = true := fun h => by
        rw [List.take_add_one, hx, List.all_append, hall]
        simp [h]
      have HN := Lib.hid (And.intro hne hyes)
      clear hne hyes hx hact hall hb hb2 hcel hn hkn
      by_cases h30 : x.row.length ≤ 30
      · have d1 : ¬ ((30 : Int) < (x.row.length : Int)) := by omega
        by_cases h200 : x.key.1.size + x.key.2.size ≤ 200
        · have d2 : ¬ ((200 : Int) < (x.key.1.size : Int) + (x.key.2.size : Int)) := by omega
          have HA := Lib.hid (HN.out.2 (by unfold fewA; rw [decide_eq_true h30, decide_eq_true h200]; rfl))
          go_wp2
          go_roundw
          case rel => exact ⟨k + 1, by omega, by go_num, HB.out, HA.out⟩
          case measure => simp [RowKit.intOf]; omega
        · have d2 : ((200 : Int) < (x.key.1.size : Int) + (x.key.2.size : Int)) := by omega
          have HA := Lib.hid (HN.out.1 (by unfold fewA; rw [decide_eq_false h200]; simp))
          go_wp2
          go_ret
          exact ⟨ret_bool HA.out.symm, HB.out⟩
      · have d1 : ((30 : Int) < (x.row.length : Int)) := by omega
        have HA := Lib.hid (HN.out.1 (by unfold fewA; rw [decide_eq_false h30]; simp))
        go_wp2
        go_ret
        exact ⟨ret_bool HA.out.symm, HB.out⟩
end Go.Ju

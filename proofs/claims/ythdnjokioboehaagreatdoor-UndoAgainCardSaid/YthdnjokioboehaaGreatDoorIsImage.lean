/- The reference's Few, and IsImage. -/
import Derived.Test.YthdnjokioboehaaGreatDoorOpenI
import Derived.Test.YthdnjokioboehaaGreatDoorOrder
import Derived.RangeFuncCalls
namespace Go.Ju
open Go.RowKit
open Go.Proofs
open Go.ChangeMaps

/-- What Few comes to. -/
def FewIDoes (w : World) (n : Nat) (e : Ending) (w' : World) : Prop := ∃ b, e = .returned (.bool b) ∧ (b = true → n < 2000) ∧ Below w.heap.size w w'
set_option maxRecDepth 100000 in
set_option maxHeartbeats 1000000 in
/-- The reference's Few: few tables, if it says so. -/
theorem fewI_any (G : Gh) (v : Value) (i : Img) (w : World) (hG : Holds G w) (h : ImgIn G v i) :
    Calls Tryz.prog 12 #[v] w (FewIDoes w i.tabs.length) := by
  obtain ⟨tv, rfl, hin, hfit⟩ := h
  obtain ⟨A, c, rfl, hc, hs⟩ := stored_in hin
  have hm := hfit.len
  have HV := Lib.hid hs
  have HG := Lib.hid hG
  have HFit := Lib.hid hfit
  have hbx : Below w.heap.size w (w.alloc (.cells #[.int .i64 i.time, .slice A i.tabs.length c] 24)) := (Below.refl _ _).alloc (Nat.le_refl _) _
  have HB := Lib.hid hbx
  have HC := Lib.hid (fun (W : World) (hW : Below (w.alloc (.cells #[.int .i64 i.time, .slice A i.tabs.length c] 24)).heap.size (w.alloc (.cells #[.int .i64 i.time, .slice A i.tabs.length c] 24)) W) => (((Holds.nil w).alloc (.cells #[.int .i64 i.time, .slice A i.tabs.length c] 24)).below hW).cell (i := 1) (Gh.put_same _ _ _) rfl)
  clear hs hG hin hfit hbx
  generalize hn : i.tabs.length = n at *
  go_enter Tryz.func12, Tryz.ntmps12
  go_wp2_with fail
  generalize hu : w.alloc (.cells #[.int .i64 i.time, .slice A n c] 24) = u at *
  obtain ⟨s, hs⟩ : ∃ s, w.heap.size = s := ⟨_, rfl⟩
  rw [hs] at HC ⊢
  clear hs hu
  go_loopw [3, 4] (fun nn i wr => ∃ (k : Nat) (z : Int), k ≤ n ∧ i = .int .i64 k ∧ nn = .int .i64 z ∧ Hid (k = 0 → z = n) ∧ Hid (0 < k → n < 2000) ∧ Below u.heap.size u wr) (fun _ i _ => n - (RowKit.intOf i).toNat)
  case atStart => exact ⟨0, n, Nat.zero_le _, by simp, rfl, fun _ => rfl, fun h => absurd h (by omega), Below.refl _ _⟩
  case round =>
    obtain ⟨k, z, hk, rfl, rfl, hz, hk0', hb⟩ := hrel
    have b1 := HC.out _ hb
    have HBw := Lib.hid (show Below w.heap.size w wr from HB.out.trans (hb.mono HB.out.size))
    by_cases hkn : k = n
    · subst hkn
      clear hb
      go_wp2
      go_ret
      refine ⟨_, rfl, fun h => ?_, HBw.out⟩
      rcases Nat.eq_zero_or_pos k with e | e
      · omega
      · exact hk0'.out e
    · have hk1 : (k : Int) < (n : Int) := by omega
      have hk0 : (0 : Int) ≤ (k : Int) := Int.natCast_nonneg _
      by_cases hz2 : z < 2000
      · obtain ⟨x, hx⟩ : ∃ x, i.tabs[k]? = some x := ⟨i.tabs[k]'(by omega), List.getElem?_eq_getElem _⟩
        have hxf := HFit.out.tabs x (List.mem_of_getElem? hx)
        obtain ⟨q, o, hv, rfl, hh, hcl⟩ := HV.out k x hx
        obtain ⟨A5, c5, rfl, hc5, hcl5⟩ := held_in hh
        have hGw : Holds G wr := HG.out.below HBw.out
        obtain ⟨x1, x2, x3, x4⟩ := hcl wr hGw
        have hm5 := hxf.len
        have HXf := Lib.hid hxf
        have HV5 := Lib.hid hcl5
        have HK : Hid (n < 2000) := by
          rcases Nat.eq_zero_or_pos k with e | e
          · have := hz.out e; unfold Hid; omega
          · exact hk0'.out e
        have HBr := Lib.hid hb
        generalize hn5 : x.rows.length = n5 at *
        clear hh hcl hcl5 hxf hx hkn hz hk0' hGw hb
        go_wp2_with fail
        go_loopw [3, 28] (fun nn i wi => ∃ (j : Nat) (z : Int), j ≤ n5 ∧ i = .int .i64 j ∧ nn = .int .i64 z ∧ Below u.heap.size u wi) (fun _ i _ => n5 - (RowKit.intOf i).toNat)
        case atStart => exact ⟨0, z, Nat.zero_le _, by simp, rfl, HBr.out⟩
        case round =>
          obtain ⟨j, z', hj, rfl, rfl, hb'⟩ := hrel
          by_cases hjn : j = n5
          · subst hjn
            have HB' := Lib.hid hb'
            clear hb'
            go_wp2
            go_roundw
            case rel => exact ⟨k + 1, z', by omega, by go_num, rfl, fun h => absurd h (by omega), fun _ => HK.out, HB'.out⟩
            case measure => simp [RowKit.intOf]; omega
          · obtain ⟨y, hy⟩ : ∃ y, x.rows[j]? = some y := ⟨x.rows[j]'(by omega), List.getElem?_eq_getElem _⟩
            have hyf := (HXf.out.rows y (List.mem_of_getElem? hy)).2
            have hj1 : (j : Int) < (n5 : Int) := by omega
            have hj0 : (0 : Int) ≤ (j : Int) := Int.natCast_nonneg _
            obtain ⟨q5, o5, rv5, rfl, hr5, hcl6⟩ := HV5.out j y hy
            obtain ⟨A6, c6, rfl, hc6, -⟩ := hr5
            have hGi : Holds G wr := HG.out.below (HB.out.trans (hb'.mono HB.out.size))
            obtain ⟨y1, y2⟩ := hcl6 wr hGi
            have HB' := Lib.hid hb'
            clear hy hcl6 hGi hb'
            go_wp2
            go_roundw
            case rel => exact ⟨j + 1, _, by omega, by go_num, rfl, HB'.out.alloc HB'.out.size _⟩
            case measure => simp [RowKit.intOf]; omega
      · clear hb
        go_wp2
        go_ret
        exact ⟨_, rfl, fun h => absurd h (by decide), HBw.out⟩

/-! ### IsImage -/
def heldsB (next : Int) : Int → List (Int × List Val) → Bool
  | _, [] => true
  | last, h :: r => decide (last < h.1) && decide (h.1 < next) && rowB h.2 && heldsB next h.1 r
def afterB (p : Option Key) (k : Key) : Bool := match p with
  | none => true
  | some q => decide (cmpK q k < 0)
def tabsB : Option Key → List StoredM → Bool
  | _, [] => true
  | p, s :: r => nameK s.key && decide (s.rows.length ≤ 500) && numB s.next && afterB p s.key && heldsB s.next 0 s.rows && tabsB (some s.key) r
def isImageB (i : Img) : Bool := decide (0 ≤ i.time) && decide (i.time ≤ 1099511627776) && tabsB none i.tabs
def prevK (l : List StoredM) (k : Nat) : Option Key := if k = 0 then none else (l[k - 1]?).map StoredM.key
theorem drop_at {α : Type} {l : List α} {k : Nat} {x : α} (h : l[k]? = some x) : l.drop k = x :: l.drop (k + 1) := by
  have hl := (List.getElem?_eq_some_iff.1 h).1
  rw [List.drop_eq_getElem_cons hl]
  congr 1
  exact (List.getElem?_eq_some_iff.1 h).2

set_option maxRecDepth 100000 in
set_option maxHeartbeats 2000000 in
theorem isImage_any (G : Gh) (v : Value) (i : Img) (w : World) (hG : Holds G w) (h : ImgIn G v i) (hnul : Nul w) :
    Calls Tryz.prog 40 #[v] w fun e w' => e = .returned (.bool (isImageB i)) ∧ Below w.heap.size w w' := by
  obtain ⟨tv, rfl, hin, hfit⟩ := h
  obtain ⟨A, c, rfl, hc, hs⟩ := stored_in hin
  have hm := hfit.len
  have HV := Lib.hid hs
  have HG := Lib.hid hG
  have HN := Lib.hid hnul
  have HFit := Lib.hid hfit
  have hbx : Below w.heap.size w (w.alloc (.cells #[.int .i64 i.time, .slice A i.tabs.length c] 24)) := (Below.refl _ _).alloc (Nat.le_refl _) _
  have HB := Lib.hid hbx
  have HC := Lib.hid (fun (W : World) (hW : Below (w.alloc (.cells #[.int .i64 i.time, .slice A i.tabs.length c] 24)).heap.size (w.alloc (.cells #[.int .i64 i.time, .slice A i.tabs.length c] 24)) W) => (((Holds.nil w).alloc (.cells #[.int .i64 i.time, .slice A i.tabs.length c] 24)).below hW).cell (i := 1) (Gh.put_same _ _ _) rfl)
  clear hs hG hin hfit hnul
  by_cases ht1 : i.time < 0
  · have HE : Hid (isImageB i = false) := by unfold Hid isImageB; rw [decide_eq_false (show ¬ 0 ≤ i.time by omega)]; rfl
    clear HC
    go_enter Tryz.func40, Tryz.ntmps40
    go_wp2_with fail
    go_ret
    exact ⟨ret_bool HE.out.symm, hbx⟩
  by_cases ht2 : 1099511627776 < i.time
  · have HE : Hid (isImageB i = false) := by unfold Hid isImageB; rw [decide_eq_false (show ¬ i.time ≤ 1099511627776 by omega), Bool.and_false]; rfl
    clear HC
    go_enter Tryz.func40, Tryz.ntmps40
    go_wp2_with fail
    go_ret
    exact ⟨ret_bool HE.out.symm, hbx⟩
  have HI : Hid (isImageB i = tabsB none i.tabs) := by
    unfold Hid isImageB
    rw [decide_eq_true (show 0 ≤ i.time by omega), decide_eq_true (show i.time ≤ 1099511627776 by omega)]
    rfl
  generalize hn : i.tabs.length = n at *
  clear hbx
  go_enter Tryz.func40, Tryz.ntmps40
  go_wp2_with fail
  generalize hu : w.alloc (.cells #[.int .i64 i.time, .slice A n c] 24) = u at *
  obtain ⟨s, hs⟩ : ∃ s, w.heap.size = s := ⟨_, rfl⟩
  rw [hs] at HC ⊢
  have HSz : Hid (s < u.heap.size ∧ w.heap.size = s) := by
    unfold Hid
    refine ⟨?_, hs⟩
    rw [← hu, World.size_alloc]
    omega
  clear hu hs
  go_loopw [19] (fun i' wr => ∃ (k : Nat), k ≤ n ∧ i' = .int .i64 k ∧ Hid (tabsB none i.tabs = tabsB (prevK i.tabs k) (i.tabs.drop k)) ∧ Below u.heap.size u wr) (fun i' _ => n - (RowKit.intOf i').toNat)
  case atStart => exact ⟨0, Nat.zero_le _, by simp, by unfold Hid; simp [prevK], Below.refl _ _⟩
  case round =>
    obtain ⟨k, hk, rfl, hp, hb⟩ := hrel
    have b1 := HC.out _ hb
    have HBw := Lib.hid (show Below w.heap.size w wr from HB.out.trans (hb.mono HB.out.size))
    by_cases hkn : k = n
    · subst hkn
      have HE : Hid (isImageB i = true) := by
        unfold Hid
        rw [HI.out, hp.out, List.drop_of_length_le (by omega)]
        rfl
      clear hb hp
      go_wp2
      go_ret
      exact ⟨ret_bool HE.out.symm, HBw.out⟩
    · have hk1 : (k : Int) < (n : Int) := by omega
      have hk0 : (0 : Int) ≤ (k : Int) := Int.natCast_nonneg _
      obtain ⟨x, hx⟩ : ∃ x, i.tabs[k]? = some x := ⟨i.tabs[k]'(by omega), List.getElem?_eq_getElem _⟩
      have hxf := HFit.out.tabs x (List.mem_of_getElem? hx)
      obtain ⟨q, o, hv, rfl, hh, hcl⟩ := HV.out k x hx
      obtain ⟨A5, c5, rfl, hc5, hcl5⟩ := held_in hh
      have hGw : Holds G wr := HG.out.below HBw.out
      obtain ⟨x1, x2, x3, x4⟩ := hcl wr hGw
      have hm5 := hxf.len
      have HXf := Lib.hid hxf
      have HV5 := Lib.hid hcl5
      have HTb := Lib.hid (isTable_any x.key.1 x.key.2)
      have HNm := Lib.hid (number_any x.next)
      have hbt := hb.alloc hb.size (.cells #[.string x.key.1, .string x.key.2, .slice A5 x.rows.length c5, .int .i64 x.next] 72)
      have HP : Hid (∀ (W : World), Below (wr.alloc (.cells #[.string x.key.1, .string x.key.2, .slice A5 x.rows.length c5, .int .i64 x.next] 72)).heap.size (wr.alloc (.cells #[.string x.key.1, .string x.key.2, .slice A5 x.rows.length c5, .int .i64 x.next] 72)) W →
          W.cell? ⟨wr.heap.size, 0, none⟩ = some (.string x.key.1) ∧ W.cell? ⟨wr.heap.size, 1, none⟩ = some (.string x.key.2) ∧ W.cell? ⟨wr.heap.size, 2, none⟩ = some (.slice A5 x.rows.length c5) ∧ W.cell? ⟨wr.heap.size, 3, none⟩ = some (.int .i64 x.next) ∧
          W.cell? ⟨s, 1, none⟩ = some (.slice (some ⟨q, o, none⟩) n c) ∧ Holds G W ∧ Nul W ∧ Below w.heap.size w W ∧ Below u.heap.size u W) := fun W hW => by
        have hT := ((Holds.nil wr).alloc (.cells #[.string x.key.1, .string x.key.2, .slice A5 x.rows.length c5, .int .i64 x.next] 72)).below hW
        have hbW := hbt.trans (hW.mono hbt.size)
        have hwW := HB.out.trans (hbW.mono HB.out.size)
        exact ⟨hT.cell (i := 0) (Gh.put_same _ _ _) rfl, hT.cell (i := 1) (Gh.put_same _ _ _) rfl, hT.cell (i := 2) (Gh.put_same _ _ _) rfl, hT.cell (i := 3) (Gh.put_same _ _ _) rfl, HC.out _ hbW, HG.out.below hwW, HN.out.below hwW, hwW, hbW⟩
      have hps : ∀ kp, k = kp + 1 → ∃ y, i.tabs[kp]? = some y ∧ prevK i.tabs k = some y.key ∧ ∀ W, Holds G W → W.cell? ⟨q, o + kp * 4, none⟩ = some (.string y.key.1) ∧ W.cell? ⟨q, o + kp * 4 + 1, none⟩ = some (.string y.key.2) := fun kp hkp => by
        obtain ⟨y, hy⟩ : ∃ y, i.tabs[kp]? = some y := ⟨i.tabs[kp]'(by omega), List.getElem?_eq_getElem _⟩
        obtain ⟨q', o', _, hA, _, hcl'⟩ := HV.out kp y hy
        injection hA with hA
        injection hA with h1 h2
        subst h1 h2
        refine ⟨y, hy, ?_, fun W hW => ⟨(hcl' W hW).1, (hcl' W hW).2.1⟩⟩
        unfold prevK
        rw [if_neg (by omega), hkp, Nat.add_sub_cancel, hy]
        rfl
      have HPs := Lib.hid hps
      have hst : tabsB (prevK i.tabs k) (i.tabs.drop k) = (nameK x.key && decide (x.rows.length ≤ 500) && numB x.next && afterB (prevK i.tabs k) x.key && heldsB x.next 0 x.rows && tabsB (some x.key) (i.tabs.drop (k + 1))) := by rw [drop_at hx]; rfl
      have hpn : prevK i.tabs (k + 1) = some x.key := by unfold prevK; rw [if_neg (by omega), Nat.add_sub_cancel, hx]; rfl
      have HSt : Hid (isImageB i = (nameK x.key && decide (x.rows.length ≤ 500) && numB x.next && afterB (prevK i.tabs k) x.key && heldsB x.next 0 x.rows && tabsB (some x.key) (i.tabs.drop (k + 1)))) := by unfold Hid; rw [HI.out, hp.out, hst]
      have HPn := Lib.hid hpn
      generalize hn5 : x.rows.length = n5 at *
      clear hh hcl hcl5 hxf hkn hp hb hst hpn hbt hps
      go_wp2_with fail
      generalize hst : wr.heap.size = st at *
      generalize hu2 : wr.alloc (.cells #[.string x.key.1, .string x.key.2, .slice A5 n5 c5, .int .i64 x.next] 72) = u2 at *
      clear hst hu2 b1 x1 x2 x3 x4
      cases hn1 : (nameB x.key.1 && nameB x.key.2) with
      | false =>
        have HE : Hid (isImageB i = false) := by unfold Hid; rw [HSt.out]; unfold nameK; rw [hn1]; rfl
        rw [hn1] at HTb
        refine (HTb.out _).mono ?_
        rintro e w1 ⟨rfl, hb1⟩
        have hq := (HP.out _ hb1).2.2.2.2.2.2.2.1
        go_wp2
        go_ret
        exact ⟨ret_bool HE.out.symm, hq⟩
      | true =>
        rw [hn1] at HTb
        refine (HTb.out _).mono ?_
        rintro e w1 ⟨rfl, hb1⟩
        obtain ⟨t0, t1, t2, t3, b1, -, -, hwW, -⟩ := HP.out _ hb1
        have HW1 := Lib.hid (And.intro hb1 hwW)
        clear hb1 hwW HTb
        by_cases h500 : (500 : Int) < (n5 : Int)
        · have HE : Hid (isImageB i = false) := by unfold Hid; rw [HSt.out, decide_eq_false (show ¬ n5 ≤ 500 by omega), Bool.and_false]; rfl
          go_wp2
          go_ret
          exact ⟨ret_bool HE.out.symm, HW1.out.2⟩
        cases hn2 : numB x.next with
        | false =>
          have HE : Hid (isImageB i = false) := by unfold Hid; rw [HSt.out, hn2, Bool.and_false]; rfl
          rw [hn2] at HNm
          go_wp2_with (go_at_call 65; refine (HNm.out _).mono ?_; rintro e w2 ⟨rfl, rfl⟩)
          go_ret
          exact ⟨ret_bool HE.out.symm, HW1.out.2⟩
        | true =>
          rw [hn2] at HNm
          have HS2 : Hid (isImageB i = (afterB (prevK i.tabs k) x.key && heldsB x.next 0 x.rows && tabsB (some x.key) (i.tabs.drop (k + 1)))) := by
            unfold Hid
            rw [HSt.out, hn2, decide_eq_true (show n5 ≤ 500 by omega)]
            unfold nameK
            rw [hn1]
            simp
          go_wp2_with (go_at_call 65; refine (HNm.out _).mono ?_; rintro e w2 ⟨rfl, rfl⟩)
          by_cases hkz : k = 0
          · have HAF : Hid (afterB (prevK i.tabs k) x.key = true) := by unfold Hid prevK; rw [if_pos hkz]; rfl
            have HW2 := Lib.hid (HW1.out.1.trans (Below.of_drewN _ w1 1))
            have hkz1 : ¬ (0 < k) := by omega
            clear hkz
            refine wp_region_still_tail 23 (by kernel_rfl) (by kernel_rfl) ?_
            change wpStill _ _ w1.drew (fun a' => wpList _ _ _ _ a' w1.drew) _ _
            simp only [List.take_succ_cons, List.take_zero, List.drop_succ_cons, List.drop_zero]
            iterate 23 (with_reducible refine wpStill_step (fun K hK => ?_); go_simp; with_reducible refine hK _ ?_; clear hK K)
            with_reducible refine wpStill_nil ?_
            have HS3 : Hid (isImageB i = (heldsB x.next 0 x.rows && tabsB (some x.key) (i.tabs.drop (k + 1)))) := by
              unfold Hid
              rw [HS2.out, HAF.out, Bool.true_and]
            obtain ⟨t0, t1, t2, t3, b1, -, -, -, -⟩ := HP.out _ HW2.out
            go_wp2_with fail
            go_loopw [5, 71] (fun l' i' wi => ∃ (j : Nat) (last : Int), j ≤ n5 ∧ i' = .int .i64 j ∧ l' = .int .i64 last ∧ Hid (heldsB x.next 0 x.rows = heldsB x.next last (x.rows.drop j)) ∧ Below u2.heap.size u2 wi) (fun _ i' _ => n5 - (RowKit.intOf i').toNat)
            case atStart => exact ⟨0, 0, Nat.zero_le _, by simp, rfl, by unfold Hid; simp, HW2.out⟩
            case round =>
              obtain ⟨j, last, hj, rfl, rfl, hjl, hbj⟩ := hrel
              by_cases hjn : j = n5
              · subst hjn
                have HE : Hid (tabsB none i.tabs = tabsB (prevK i.tabs (k + 1)) (i.tabs.drop (k + 1))) := by
                  unfold Hid
                  rw [HPn.out, ← HI.out, HS3.out, hjl.out, List.drop_of_length_le (by omega)]
                  rfl
                have HBu := Lib.hid (HP.out _ hbj).2.2.2.2.2.2.2.2
                clear hjl hbj
                go_wp2
                go_roundw
                case rel => exact ⟨k + 1, by omega, by go_num, HE.out, HBu.out⟩
                case measure => simp [RowKit.intOf]; omega
              · obtain ⟨y, hy⟩ : ∃ y, x.rows[j]? = some y := ⟨x.rows[j]'(by omega), List.getElem?_eq_getElem _⟩
                have hyf := (HXf.out.rows y (List.mem_of_getElem? hy)).2
                have hj1 : (j : Int) < (n5 : Int) := by omega
                have hj0 : (0 : Int) ≤ (j : Int) := Int.natCast_nonneg _
                obtain ⟨q5, o5, rv5, rfl, hr5, hcl6⟩ := HV5.out j y hy
                obtain ⟨A6, c6, rfl, hc6, hsp6⟩ := hr5
                obtain ⟨t0, t1, t2, t3, b1, hGw, hNw, hww, hbu⟩ := HP.out _ hbj
                obtain ⟨y1, y2⟩ := hcl6 wr hGw
                have hh2 : Below wr.heap.size wr (wr.alloc (.cells #[.int .i64 y.1, .slice A6 y.2.length c6] 74)) := (Below.refl _ _).alloc (Nat.le_refl _) _
                have t3h := (HP.out _ (hbj.trans (hh2.mono hbj.size))).2.2.2.1
                have HRow := Lib.hid (isRow_any G A6 y.2 c6 _ (hGw.below hh2) hsp6 (hNw.below hh2) (by omega))
                have HW3 := Lib.hid (And.intro (hbj.trans (hh2.mono hbj.size)) (hww.trans (hh2.mono hww.size)))
                have HHb := Lib.hid (fun (W : World) (hW : Below (wr.alloc (.cells #[.int .i64 y.1, .slice A6 y.2.length c6] 74)).heap.size (wr.alloc (.cells #[.int .i64 y.1, .slice A6 y.2.length c6] 74)) W) => (((Holds.nil wr).alloc (.cells #[.int .i64 y.1, .slice A6 y.2.length c6] 74)).below hW).cell (i := 0) (Gh.put_same _ _ _) rfl)
                have hst2 : heldsB x.next last (x.rows.drop j) = (decide (last < y.1) && decide (y.1 < x.next) && rowB y.2 && heldsB x.next y.1 (x.rows.drop (j + 1))) := by rw [drop_at hy]; rfl
                have HJ : Hid (heldsB x.next 0 x.rows = (decide (last < y.1) && decide (y.1 < x.next) && rowB y.2 && heldsB x.next y.1 (x.rows.drop (j + 1)))) := by unfold Hid; rw [hjl.out, hst2]
                have HBad : Hid ((decide (last < y.1) && decide (y.1 < x.next) && rowB y.2) = false → isImageB i = false) := fun e => by rw [HS3.out, HJ.out, e]; rfl
                clear hy hcl6 hGw hNw hbj hww hbu hh2 hjl hst2 hsp6
                by_cases h1 : y.1 ≤ last
                · have HE : Hid (isImageB i = false) := HBad.out (by rw [decide_eq_false (show ¬ last < y.1 by omega)]; rfl)
                  go_wp2_with fail
                  go_ret
                  exact ⟨ret_bool HE.out.symm, HW3.out.2⟩
                by_cases h2 : x.next ≤ y.1
                · have HE : Hid (isImageB i = false) := HBad.out (by rw [decide_eq_false (show ¬ y.1 < x.next by omega), Bool.and_false]; rfl)
                  go_wp2_with fail
                  go_ret
                  exact ⟨ret_bool HE.out.symm, HW3.out.2⟩
                cases hr : rowB y.2 with
                | false =>
                  have HE : Hid (isImageB i = false) := HBad.out (by rw [hr, Bool.and_false])
                  rw [hr] at HRow
                  go_wp2_with (go_at_call 73; refine HRow.out.mono ?_; rintro e w3 ⟨rfl, hb3⟩; replace hb3 := Lib.hid hb3)
                  go_ret
                  exact ⟨ret_bool HE.out.symm, HW3.out.2.trans (hb3.out.mono HW3.out.2.size)⟩
                | true =>
                  have HJ2 : Hid (heldsB x.next 0 x.rows = heldsB x.next y.1 (x.rows.drop (j + 1))) := by
                    unfold Hid
                    rw [HJ.out, hr, decide_eq_true (show last < y.1 by omega), decide_eq_true (show y.1 < x.next by omega)]
                    rfl
                  rw [hr] at HRow
                  go_wp2_with (go_at_call 73; refine HRow.out.mono ?_; rintro e w3 ⟨rfl, hb3⟩; have h0 := HHb.out _ hb3; replace hb3 := Lib.hid hb3)
                  go_roundw
                  case rel => exact ⟨j + 1, y.1, by omega, by go_num, rfl, HJ2.out, HW3.out.1.trans (hb3.out.mono HW3.out.1.size)⟩
                  case measure => simp [RowKit.intOf]; omega
          · obtain ⟨kp, hkp⟩ : ∃ kp, k = kp + 1 := ⟨k - 1, by omega⟩
            obtain ⟨y, hy, hpk, hcy⟩ := HPs.out kp hkp
            obtain ⟨p0, p1⟩ := hcy w1 (HP.out _ HW1.out.1).2.2.2.2.2.1
            have HOrd := Lib.hid (order_below y.key x.key)
            have hafb : afterB (prevK i.tabs k) x.key = decide (cmpK y.key x.key < 0) := by rw [hpk]; rfl
            have hkz1 : 0 < k := by omega
            have hks : (k : Int) - 1 = (kp : Int) := by omega
            have hwk : IntKind.i64.wrap (kp : Int) = (kp : Int) := IntWalk.i64_in _ (by omega)
            have hkp1 : (kp : Int) < (n : Int) := by omega
            have hkp0 : (0 : Int) ≤ (kp : Int) := Int.natCast_nonneg _
            generalize cmpK y.key x.key = ck at *
            have HAfb := Lib.hid hafb
            unfold encK at *
            clear hy hpk hcy hafb
            refine wp_region_still_tail 23 (by kernel_rfl) (by kernel_rfl) ?_
            change wpStill _ _ w1.drew (fun a' => wpList _ _ _ _ a' w1.drew) _ _
            simp only [List.take_succ_cons, List.take_zero, List.drop_succ_cons, List.drop_zero]
            iterate 23 (with_reducible refine wpStill_step (fun K hK => ?_); go_simp; with_reducible refine hK _ ?_; clear hK K)
            with_reducible refine wpStill_nil ?_
            by_cases hck : ck < 0
            · have HAF : Hid (afterB (prevK i.tabs k) x.key = true) := by unfold Hid; rw [HAfb.out]; exact decide_eq_true hck
              go_wp2_with (go_at_call 45; refine (HOrd.out _).mono ?_; rintro e w2 ⟨rfl, hb2⟩; have HW2 := Lib.hid ((HW1.out.1.trans (Below.of_drewN _ w1 1)).trans (hb2.mono HW1.out.1.size)); clear hb2; obtain ⟨t0, t1, t2, t3, b1, -, -, -, -⟩ := HP.out _ HW2.out)
              have HS3 : Hid (isImageB i = (heldsB x.next 0 x.rows && tabsB (some x.key) (i.tabs.drop (k + 1)))) := by
                unfold Hid
                rw [HS2.out, HAF.out, Bool.true_and]
              go_loopw [5, 71] (fun l' i' wi => ∃ (j : Nat) (last : Int), j ≤ n5 ∧ i' = .int .i64 j ∧ l' = .int .i64 last ∧ Hid (heldsB x.next 0 x.rows = heldsB x.next last (x.rows.drop j)) ∧ Below u2.heap.size u2 wi) (fun _ i' _ => n5 - (RowKit.intOf i').toNat)
              case atStart => exact ⟨0, 0, Nat.zero_le _, by simp, rfl, by unfold Hid; simp, HW2.out⟩
              case round =>
                obtain ⟨j, last, hj, rfl, rfl, hjl, hbj⟩ := hrel
                by_cases hjn : j = n5
                · subst hjn
                  have HE : Hid (tabsB none i.tabs = tabsB (prevK i.tabs (k + 1)) (i.tabs.drop (k + 1))) := by
                    unfold Hid
                    rw [HPn.out, ← HI.out, HS3.out, hjl.out, List.drop_of_length_le (by omega)]
                    rfl
                  have HBu := Lib.hid (HP.out _ hbj).2.2.2.2.2.2.2.2
                  clear hjl hbj
                  go_wp2
                  go_roundw
                  case rel => exact ⟨k + 1, by omega, by go_num, HE.out, HBu.out⟩
                  case measure => simp [RowKit.intOf]; omega
                · obtain ⟨y, hy⟩ : ∃ y, x.rows[j]? = some y := ⟨x.rows[j]'(by omega), List.getElem?_eq_getElem _⟩
                  have hyf := (HXf.out.rows y (List.mem_of_getElem? hy)).2
                  have hj1 : (j : Int) < (n5 : Int) := by omega
                  have hj0 : (0 : Int) ≤ (j : Int) := Int.natCast_nonneg _
                  obtain ⟨q5, o5, rv5, rfl, hr5, hcl6⟩ := HV5.out j y hy
                  obtain ⟨A6, c6, rfl, hc6, hsp6⟩ := hr5
                  obtain ⟨t0, t1, t2, t3, b1, hGw, hNw, hww, hbu⟩ := HP.out _ hbj
                  obtain ⟨y1, y2⟩ := hcl6 wr hGw
                  have hh2 : Below wr.heap.size wr (wr.alloc (.cells #[.int .i64 y.1, .slice A6 y.2.length c6] 74)) := (Below.refl _ _).alloc (Nat.le_refl _) _
                  have t3h := (HP.out _ (hbj.trans (hh2.mono hbj.size))).2.2.2.1
                  have HRow := Lib.hid (isRow_any G A6 y.2 c6 _ (hGw.below hh2) hsp6 (hNw.below hh2) (by omega))
                  have HW3 := Lib.hid (And.intro (hbj.trans (hh2.mono hbj.size)) (hww.trans (hh2.mono hww.size)))
                  have HHb := Lib.hid (fun (W : World) (hW : Below (wr.alloc (.cells #[.int .i64 y.1, .slice A6 y.2.length c6] 74)).heap.size (wr.alloc (.cells #[.int .i64 y.1, .slice A6 y.2.length c6] 74)) W) => (((Holds.nil wr).alloc (.cells #[.int .i64 y.1, .slice A6 y.2.length c6] 74)).below hW).cell (i := 0) (Gh.put_same _ _ _) rfl)
                  have hst2 : heldsB x.next last (x.rows.drop j) = (decide (last < y.1) && decide (y.1 < x.next) && rowB y.2 && heldsB x.next y.1 (x.rows.drop (j + 1))) := by rw [drop_at hy]; rfl
                  have HJ : Hid (heldsB x.next 0 x.rows = (decide (last < y.1) && decide (y.1 < x.next) && rowB y.2 && heldsB x.next y.1 (x.rows.drop (j + 1)))) := by unfold Hid; rw [hjl.out, hst2]
                  have HBad : Hid ((decide (last < y.1) && decide (y.1 < x.next) && rowB y.2) = false → isImageB i = false) := fun e => by rw [HS3.out, HJ.out, e]; rfl
                  clear hy hcl6 hGw hNw hbj hww hbu hh2 hjl hst2 hsp6
                  by_cases h1 : y.1 ≤ last
                  · have HE : Hid (isImageB i = false) := HBad.out (by rw [decide_eq_false (show ¬ last < y.1 by omega)]; rfl)
                    go_wp2_with fail
                    go_ret
                    exact ⟨ret_bool HE.out.symm, HW3.out.2⟩
                  by_cases h2 : x.next ≤ y.1
                  · have HE : Hid (isImageB i = false) := HBad.out (by rw [decide_eq_false (show ¬ y.1 < x.next by omega), Bool.and_false]; rfl)
                    go_wp2_with fail
                    go_ret
                    exact ⟨ret_bool HE.out.symm, HW3.out.2⟩
                  cases hr : rowB y.2 with
                  | false =>
                    have HE : Hid (isImageB i = false) := HBad.out (by rw [hr, Bool.and_false])
                    rw [hr] at HRow
                    go_wp2_with (go_at_call 73; refine HRow.out.mono ?_; rintro e w3 ⟨rfl, hb3⟩; replace hb3 := Lib.hid hb3)
                    go_ret
                    exact ⟨ret_bool HE.out.symm, HW3.out.2.trans (hb3.out.mono HW3.out.2.size)⟩
                  | true =>
                    have HJ2 : Hid (heldsB x.next 0 x.rows = heldsB x.next y.1 (x.rows.drop (j + 1))) := by
                      unfold Hid
                      rw [HJ.out, hr, decide_eq_true (show last < y.1 by omega), decide_eq_true (show y.1 < x.next by omega)]
                      rfl
                    rw [hr] at HRow
                    go_wp2_with (go_at_call 73; refine HRow.out.mono ?_; rintro e w3 ⟨rfl, hb3⟩; have h0 := HHb.out _ hb3; replace hb3 := Lib.hid hb3)
                    go_roundw
                    case rel => exact ⟨j + 1, y.1, by omega, by go_num, rfl, HJ2.out, HW3.out.1.trans (hb3.out.mono HW3.out.1.size)⟩
                    case measure => simp [RowKit.intOf]; omega
            · have HE : Hid (isImageB i = false) := by unfold Hid; rw [HS2.out, HAfb.out, decide_eq_false hck]; rfl
              go_wp2_with (go_at_call 45; refine (HOrd.out _).mono ?_; rintro e w2 ⟨rfl, hb2⟩; have hw2 := Lib.hid ((HW1.out.2.trans (Below.of_drewN _ w1 1)).trans (hb2.mono HW1.out.2.size)); clear hb2)
              go_ret
              exact ⟨ret_bool HE.out.symm, hw2.out⟩
end Go.Ju

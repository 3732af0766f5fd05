/- Comparisons of lists of rows and of images that came in. -/
import Derived.Test.YthdnjokioboehaaGreatDoorSame
namespace Go.Ju
open Go.RowKit
open Go.Proofs
open Go.ChangeMaps

/-- Rows, wherever they lie. -/
def HeldIn (G : Gh) (v : Value) (l : List (Int × List Val)) : Prop := ∃ css A c, All2 (HeldIs G) l css ∧ v = .slice A l.length c ∧ l.length ≤ c ∧ Span G A css.flatten
theorem HeldsAt.read {G : Gh} {v : Value} {l : List (Int × List Val)} (h : HeldsAt G G v l) : HeldIn G v l := by
  obtain ⟨css, h1, h2⟩ := h
  obtain ⟨A, c, rfl, hc, hs⟩ := h2.form
  exact ⟨css, A, c, h1, rfl, hc, hs⟩
theorem HeldIn.sub {G G' : Gh} {v : Value} {l : List (Int × List Val)} (h : HeldIn G v l) (hs : Sub G G') : HeldIn G' v l := by
  obtain ⟨css, A, c, h1, h2, h3, h4⟩ := h
  exact ⟨css, A, c, h1.imp (fun _ _ k => k.sub hs), h2, h3, h4.sub hs⟩
theorem held_in {G : Gh} {v : Value} {l : List (Int × List Val)} (h : HeldIn G v l) : ∃ A c, v = .slice A l.length c ∧ l.length ≤ c ∧ ∀ (j : Nat) (x : Int × List Val), l[j]? = some x → ∃ b o rv, A = some ⟨b, o, none⟩ ∧ RowAt G rv x.2 ∧ ∀ W, Holds G W → W.cell? ⟨b, o + j * 2, none⟩ = some (.int .i64 x.1) ∧ W.cell? ⟨b, o + j * 2 + 1, none⟩ = some rv := by
  obtain ⟨css, A, c, h1, rfl, hc, hs⟩ := h
  have hlen : ∀ x ∈ css, x.length = 2 := by
    clear hs hc
    induction h1 with
    | nil => simp
    | cons h _ ih =>
      intro x hx
      rcases List.mem_cons.1 hx with rfl | hx
      · obtain ⟨rv, rfl, _⟩ := h; rfl
      · exact ih x hx
  refine ⟨A, c, rfl, hc, fun j x hj => ?_⟩
  obtain ⟨cs, hcs, rv, rfl, hrow⟩ := h1.get hj
  have g : ∀ i, i < 2 → css.flatten[j * 2 + i]? = ([.int .i64 x.1, rv] : List Value)[i]? := fun i hi => flatten_get hlen hcs hi
  rcases hs with hs | ⟨b, o, cs', t, fr, rfl, hb, hc'⟩
  · have := g 0 (by omega)
    rw [hs] at this
    simp at this
  · have cel : ∀ W, Holds G W → ∀ i u, i < 2 → ([.int .i64 x.1, rv] : List Value)[i]? = some u → W.cell? ⟨b, o + j * 2 + i, none⟩ = some u := fun W hG i u hi hu => by
      have h5 := hc' (j * 2 + i) u ((g i hi).trans hu)
      rw [show o + (j * 2 + i) = o + j * 2 + i by omega] at h5
      exact hG.cell hb h5
    exact ⟨b, o, rv, rfl, hrow, fun W hG => ⟨cel W hG 0 _ (by omega) rfl, cel W hG 1 _ (by omega) rfl⟩⟩
set_option maxRecDepth 100000 in
theorem sameHeldIn_any (G : Gh) (a b : Value) (l m : List (Int × List Val)) (w : World) (hG : Holds G w) (ha : HeldIn G a l) (hb : HeldIn G b m) (hl : HeldSmall l) (hm : HeldSmall m) :
    Calls Tryz.prog 47 #[a, b] w fun e w' => e = .returned (.bool (decide (l = m))) ∧ ∃ n, w' = w.drewN n := by
  obtain ⟨A, c, rfl, hc, hs⟩ := held_in ha
  obtain ⟨A', c', rfl, hc', hs'⟩ := held_in hb
  have HV := Lib.hid hs
  have HV' := Lib.hid hs'
  have HG := Lib.hid hG
  have hl1 := hl.1
  have HSm := Lib.hid (And.intro hl.2 hm.2)
  have HRow := Lib.hid (fun a b l m W hW ha hb hl hm => sameRow_any G a b l m W hW ha hb hl hm)
  clear hs hs' ha hb hl hm hG
  by_cases hlen : l.length = m.length
  · have HL := Lib.hid hlen
    rw [← hlen] at hc' ⊢
    generalize hn : l.length = n at *
    clear hlen
    go_enter Tryz.func47, Tryz.ntmps47
    go_wp2
    go_loopw [13] (fun i wr => ∃ k q : Nat, k ≤ n ∧ i = .int .i64 k ∧ wr = w.drewN q ∧ l.take k = m.take k) (fun i _ => n - (RowKit.intOf i).toNat)
    case atStart => exact ⟨0, 0, Nat.zero_le _, by simp, rfl, by simp⟩
    case round =>
      obtain ⟨k, q, hk, rfl, hwq, heq⟩ := hrel
      have hGr : Holds G wr := by rw [hwq]; exact HG.out.drewN q
      have HW := Lib.hid hwq
      clear hwq
      by_cases hkn : k = n
      · subst hkn
        have HE : Hid (decide (l = m) = true) := by
          unfold Hid
          rw [List.take_of_length_le (by omega), List.take_of_length_le (by have := HL.out; omega)] at heq
          simpa using heq
        clear heq hn
        go_wp2
        go_ret
        exact ⟨ret_bool HE.out.symm, q, HW.out⟩
      · obtain ⟨x, hx⟩ : ∃ x, l[k]? = some x := ⟨l[k]'(by omega), List.getElem?_eq_getElem _⟩
        obtain ⟨z, hz⟩ : ∃ z, m[k]? = some z := ⟨m[k]'(by have := HL.out; omega), List.getElem?_eq_getElem _⟩
        have hklt : k < n := by omega
        have hk1 : (k : Int) < (n : Int) := by omega
        have hk0 : (0 : Int) ≤ (k : Int) := Int.natCast_nonneg _
        obtain ⟨b1, o1, rv1, rfl, hr1, hc1⟩ := HV.out k x hx
        obtain ⟨b2, o2, rv2, rfl, hr2, hc2⟩ := HV'.out k z hz
        have hx1 := fun n => (hc1 _ (hGr.drewN n)).1
        have hx2 := fun n => (hc1 _ (hGr.drewN n)).2
        have hz1 := fun n => (hc2 _ (hGr.drewN n)).1
        have hz2 := fun n => (hc2 _ (hGr.drewN n)).2
        have hsx := take_snoc hx
        have hsz := take_snoc hz
        have hs1 := HSm.out.1 x (List.mem_of_getElem? hx)
        have hs2 := HSm.out.2 z (List.mem_of_getElem? hz)
        have hne : x ≠ z → decide (l = m) = false := fun h => by
          rw [decide_eq_false_iff_not]
          intro e
          rw [e, hz] at hx
          cases hx
          exact h rfl
        obtain ⟨xi, xr⟩ := x
        obtain ⟨zi, zr⟩ := z
        dsimp only at *
        clear hkn hc1 hc2
        by_cases hid : xi = zi
        · have hq := fun n => HRow.out rv1 rv2 xr zr _ (hGr.drewN n) hr1 hr2 hs1 hs2
          subst hid
          cases hd : decide (xr = zr) with
          | true =>
            have HH : Hid (l.take (k + 1) = m.take (k + 1)) := by unfold Hid; rw [hsx, hsz, heq, of_decide_eq_true hd]
            rw [hd] at hq
            have HQ := Lib.hid hq
            clear heq hn hsx hsz hx hz hne hr1 hr2 hq hd
            go_wp2
            go_quiet ((go_at_call 48; exact Calls.quiet_of (HQ.out _)))
            go_wp2
            go_roundw
            case rel => exact ⟨k + 1, _, by omega, by go_num, by rw [HW.out, World.drewN_drewN], HH.out⟩
            case measure => simp [RowKit.intOf]; omega
          | false =>
            have HE := Lib.hid (hne (fun e => by injection e with _ e; rw [e] at hd; simp at hd))
            rw [hd] at hq
            have HQ := Lib.hid hq
            clear heq hn hsx hsz hx hz hne hr1 hr2 hq hd
            go_wp2
            go_quiet ((go_at_call 48; exact Calls.quiet_of (HQ.out _)))
            go_wp2
            go_ret
            exact ⟨ret_bool HE.out.symm, _, by rw [HW.out, World.drewN_drewN]⟩
        · have HE := Lib.hid (hne (fun e => by injection e with e _; exact hid e))
          have hb1 : (xi == zi) = false := by simpa using hid
          have hb2 : (xi != zi) = true := by simpa using hid
          clear heq hn hsx hsz hx hz hne hr1 hr2 hid
          go_wp2
          go_quiet (fail)
          go_wp2
          go_ret
          exact ⟨ret_bool HE.out.symm, _, by rw [HW.out, World.drewN_drewN]⟩
  · have HE : Hid (decide (l = m) = false) := by
      unfold Hid
      rw [decide_eq_false_iff_not]
      exact fun e => hlen (by rw [e])
    have hci : ¬ ((l.length : Int) = (m.length : Int)) := by omega
    have hb1 : ((l.length : Int) == (m.length : Int)) = false := by simpa using hci
    have hb2 : ((l.length : Int) != (m.length : Int)) = true := by simpa using hci
    clear hlen hci
    go_enter Tryz.func47, Tryz.ntmps47
    go_wp2
    go_ret
    exact ⟨ret_bool HE.out.symm, 0, rfl⟩

/-- A table's rows, wherever they lie. -/
def StoredIs2 (G : Gh) (x : StoredM) (cs : List Value) : Prop := ∃ hv, cs = [.string x.key.1, .string x.key.2, hv, .int .i64 x.next] ∧ HeldIn G hv x.rows
def StoredIn (G : Gh) (v : Value) (l : List StoredM) : Prop := ∃ css A c, All2 (StoredIs2 G) l css ∧ v = .slice A l.length c ∧ l.length ≤ c ∧ Span G A css.flatten
theorem StoredsAt.read {G : Gh} {v : Value} {l : List StoredM} (h : StoredsAt G G v l) : StoredIn G v l := by
  obtain ⟨css, h1, h2⟩ := h
  obtain ⟨A, c, rfl, hc, hs⟩ := h2.form
  exact ⟨css, A, c, h1.imp (fun _ _ ⟨hv, e, k⟩ => ⟨hv, e, k.read⟩), rfl, hc, hs⟩
theorem StoredIn.sub {G G' : Gh} {v : Value} {l : List StoredM} (h : StoredIn G v l) (hs : Sub G G') : StoredIn G' v l := by
  obtain ⟨css, A, c, h1, h2, h3, h4⟩ := h
  exact ⟨css, A, c, h1.imp (fun _ _ ⟨hv, e, k⟩ => ⟨hv, e, k.sub hs⟩), h2, h3, h4.sub hs⟩
theorem stored_in {G : Gh} {v : Value} {l : List StoredM} (h : StoredIn G v l) : ∃ A c, v = .slice A l.length c ∧ l.length ≤ c ∧ ∀ (j : Nat) (x : StoredM), l[j]? = some x → ∃ b o hv, A = some ⟨b, o, none⟩ ∧ HeldIn G hv x.rows ∧ ∀ W, Holds G W → W.cell? ⟨b, o + j * 4, none⟩ = some (.string x.key.1) ∧ W.cell? ⟨b, o + j * 4 + 1, none⟩ = some (.string x.key.2) ∧ W.cell? ⟨b, o + j * 4 + 2, none⟩ = some hv ∧ W.cell? ⟨b, o + j * 4 + 3, none⟩ = some (.int .i64 x.next) := by
  obtain ⟨css, A, c, h1, rfl, hc, hs⟩ := h
  have hlen : ∀ x ∈ css, x.length = 4 := by
    clear hs hc
    induction h1 with
    | nil => simp
    | cons h _ ih =>
      intro x hx
      rcases List.mem_cons.1 hx with rfl | hx
      · obtain ⟨rv, rfl, _⟩ := h; rfl
      · exact ih x hx
  refine ⟨A, c, rfl, hc, fun j x hj => ?_⟩
  obtain ⟨cs, hcs, hv, rfl, hheld⟩ := h1.get hj
  have g : ∀ i, i < 4 → css.flatten[j * 4 + i]? = ([.string x.key.1, .string x.key.2, hv, .int .i64 x.next] : List Value)[i]? := fun i hi => flatten_get hlen hcs hi
  rcases hs with hs | ⟨b, o, cs', t, fr, rfl, hb, hc'⟩
  · have := g 0 (by omega)
    rw [hs] at this
    simp at this
  · have cel : ∀ W, Holds G W → ∀ i u, i < 4 → ([.string x.key.1, .string x.key.2, hv, .int .i64 x.next] : List Value)[i]? = some u → W.cell? ⟨b, o + j * 4 + i, none⟩ = some u := fun W hG i u hi hu => by
      have h5 := hc' (j * 4 + i) u ((g i hi).trans hu)
      rw [show o + (j * 4 + i) = o + j * 4 + i by omega] at h5
      exact hG.cell hb h5
    exact ⟨b, o, hv, rfl, hheld, fun W hG => ⟨cel W hG 0 _ (by omega) rfl, cel W hG 1 _ (by omega) rfl, cel W hG 2 _ (by omega) rfl, cel W hG 3 _ (by omega) rfl⟩⟩
set_option maxRecDepth 100000 in
set_option maxHeartbeats 1000000 in
/-- SameImage. -/
theorem sameImageIn_any (G : Gh) (a b : Img) (ta tb : Value) (w : World) (hG : Holds G w) (ha : StoredIn G ta a.tabs) (hb : StoredIn G tb b.tabs) (hl : ImgSmall a.tabs) (hm : ImgSmall b.tabs) :
    Calls Tryz.prog 16 #[.agg #[.int .i64 a.time, ta], .agg #[.int .i64 b.time, tb]] w fun e w' => e = .returned (.bool (sameImg a b)) ∧ Below w.heap.size w w' := by
  obtain ⟨A, c, rfl, hc, hs⟩ := stored_in ha
  obtain ⟨A', c', rfl, hc', hs'⟩ := stored_in hb
  have HV := Lib.hid hs
  have HV' := Lib.hid hs'
  have hb2 : Below w.heap.size w ((w.alloc (.cells #[.int .i64 a.time, .slice A a.tabs.length c] 24)).alloc (.cells #[.int .i64 b.time, .slice A' b.tabs.length c'] 24)) := ((Below.refl _ _).alloc (Nat.le_refl _) _).alloc (by simp) _
  have hl1 := hl.1
  have HSm := Lib.hid (And.intro hl.2 hm.2)
  have HHeld := Lib.hid (fun x y l m W hW ha hb hl hm => sameHeldIn_any G x y l m W hW ha hb hl hm)
  by_cases et : a.time = b.time
  · have ft : (a.time == b.time) = true := by simpa using et
    have ft2 : (a.time != b.time) = false := by simpa using et
    by_cases hlen : a.tabs.length = b.tabs.length
    · have HT := Lib.hid (And.intro et hlen)
      rw [← hlen] at hc' hb2 ⊢
      generalize hn : a.tabs.length = n at *
      have HB := Lib.hid (And.intro hb2 (show w.heap.size + 1 < ((w.alloc (.cells #[.int .i64 a.time, .slice A n c] 24)).alloc (.cells #[.int .i64 b.time, .slice A' n c'] 24)).heap.size by simp))
      have HG := Lib.hid hG
      clear hs hs' ha hb hl hm hG et hlen hb2
      go_enter Tryz.func16, Tryz.ntmps16
      go_wp2_with fail
      obtain ⟨u, hU⟩ : ∃ u, u = ((w.alloc (.cells #[.int .i64 a.time, .slice A n c] 24)).alloc (.cells #[.int .i64 b.time, .slice A' n c'] 24)) := ⟨_, rfl⟩
      have d1 : u.cell? ⟨w.heap.size + 1, 1, none⟩ = some (.slice A' n c') := by rw [hU]; simp
      rw [← hU] at HB ⊢
      clear hU
      have HD := Lib.hid (And.intro HB.out.1 (And.intro HB.out.2 d1))
      generalize hb1w : w.heap.size = b1 at *
      clear d1 HB
      go_loopw [25] (fun i wr => ∃ k : Nat, k ≤ n ∧ i = .int .i64 k ∧ Below u.heap.size u wr ∧ a.tabs.take k = b.tabs.take k) (fun i _ => n - (RowKit.intOf i).toNat)
      case atStart => exact ⟨0, Nat.zero_le _, by simp, Below.refl _ _, by simp⟩
      case round =>
        obtain ⟨k, hk, rfl, hbr, heq⟩ := hrel
        have hbw := HD.out.1.trans (hbr.mono (by rw [← hb1w]; exact HD.out.1.size))
        by_cases hkn : k = n
        · subst hkn
          have HE : Hid (sameImg a b = true) := by
            unfold Hid
            rw [List.take_of_length_le (by omega), List.take_of_length_le (by have := HT.out.2; omega)] at heq
            rw [sameImg_iff]
            obtain ⟨a1, a2⟩ := a
            obtain ⟨b1, b2⟩ := b
            simp only [Img.mk.injEq]
            exact ⟨HT.out.1, heq⟩
          have HW := Lib.hid hbw
          clear heq hn hbr hbw
          go_wp2
          go_ret
          exact ⟨ret_bool HE.out.symm, by rw [hb1w]; exact HW.out⟩
        · obtain ⟨x, hx⟩ : ∃ x, a.tabs[k]? = some x := ⟨a.tabs[k]'(by omega), List.getElem?_eq_getElem _⟩
          obtain ⟨z, hz⟩ : ∃ z, b.tabs[k]? = some z := ⟨b.tabs[k]'(by have := HT.out.2; omega), List.getElem?_eq_getElem _⟩
          have hklt : k < n := by omega
          have hk1 : (k : Int) < (n : Int) := by omega
          have hk0 : (0 : Int) ≤ (k : Int) := Int.natCast_nonneg _
          obtain ⟨q1, o1, hv1, rfl, hh1, hc1⟩ := HV.out k x hx
          obtain ⟨q2, o2, hv2, rfl, hh2, hc2⟩ := HV'.out k z hz
          obtain ⟨A5, c5, rfl, _, _⟩ := held_in hh1
          obtain ⟨A6, c6, rfl, _, _⟩ := held_in hh2
          have hGw : Holds G wr := HG.out.below (by rw [hb1w]; exact hbw)
          obtain ⟨x1, x2, x3, x4⟩ := hc1 wr hGw
          have hw2 : Below wr.heap.size wr (wr.alloc (.cells #[.string x.key.1, .string x.key.2, .slice A5 x.rows.length c5, .int .i64 x.next] 72)) := (Below.refl _ _).alloc (Nat.le_refl _) _
          have hw3 : Below wr.heap.size wr ((wr.alloc (.cells #[.string x.key.1, .string x.key.2, .slice A5 x.rows.length c5, .int .i64 x.next] 72)).alloc (.cells #[.string z.key.1, .string z.key.2, .slice A6 z.rows.length c6, .int .i64 z.next] 72)) := hw2.alloc (by simp) _
          obtain ⟨z1, z2, z3, z4⟩ := hc2 _ (hGw.below hw2)
          have d1 : (wr.alloc (.cells #[.string x.key.1, .string x.key.2, .slice A5 x.rows.length c5, .int .i64 x.next] 72)).cell? ⟨b1 + 1, 1, none⟩ = some (.slice (some ⟨q2, o2, none⟩) n c') := by
            have hlt := HD.out.2.1
            have h2 := hbr.trans (hw2.mono hbr.size)
            exact (h2.cell (p := ⟨b1 + 1, 1, none⟩) hlt).trans HD.out.2.2
          have HQ := Lib.hid (HHeld.out _ _ x.rows z.rows _ (hGw.below hw3) hh1 hh2 (HSm.out.1 x (List.mem_of_getElem? hx)) (HSm.out.2 z (List.mem_of_getElem? hz)))
          have hsx := take_snoc hx
          have hsz := take_snoc hz
          have hne : sameSt x z = false → sameImg a b = false := fun h => sameImg_false fun e => by
            rw [e, hz] at hx
            cases hx
            rw [sameSt_iff.2 rfl] at h
            cases h
          have HN := Lib.hid (And.intro hne (And.intro (hbr.trans (hw3.mono hbr.size)) (hbw.trans (hw3.mono (by rw [← hb1w]; exact hbw.size)))))
          have HX := Lib.hid (And.intro hsx (And.intro hsz heq))
          clear hsx hsz heq hne hn hx hz hkn hh1 hh2 hc1 hc2 hGw hw2 hw3 hbr hbw
          obtain ⟨xk, xr, xn⟩ := x
          obtain ⟨zk, zr, zn⟩ := z
          dsimp only at *
          cases f1 : (xk.1.toList == zk.1.toList) with
          | false =>
            have HE : Hid (sameImg a b = false) := HN.out.1 (by unfold sameSt; dsimp only; rw [f1]; rfl)
            go_wp2
            go_ret
            exact ⟨ret_bool HE.out.symm, by rw [hb1w]; exact HN.out.2.2⟩
          | true =>
            cases f2 : (xk.2.toList == zk.2.toList) with
            | false =>
              have HE : Hid (sameImg a b = false) := HN.out.1 (by unfold sameSt; dsimp only; rw [f1, f2]; rfl)
              go_wp2
              go_ret
              exact ⟨ret_bool HE.out.symm, by rw [hb1w]; exact HN.out.2.2⟩
            | true =>
              by_cases e3 : xn = zn
              · subst e3
                cases e4 : decide (xr = zr) with
                | true =>
                  have HH : Hid (a.tabs.take (k + 1) = b.tabs.take (k + 1)) := by
                    unfold Hid
                    have hxz : (⟨xk, xr, xn⟩ : StoredM) = ⟨zk, zr, xn⟩ := sameSt_iff.1 (by unfold sameSt; dsimp only; rw [f1, f2, e4]; simp)
                    rw [HX.out.1, HX.out.2.1, HX.out.2.2, hxz]
                  rw [e4] at HQ
                  clear e4
                  go_wp2_with (go_at_call 47; refine HQ.out.mono ?_; rintro e w5 ⟨rfl, n5, rfl⟩)
                  go_roundw
                  case rel => exact ⟨k + 1, by omega, by go_num, HN.out.2.1.trans (Below.of_drewN _ _ _), HH.out⟩
                  case measure => simp [RowKit.intOf]; omega
                | false =>
                  have HE : Hid (sameImg a b = false) := HN.out.1 (by unfold sameSt; dsimp only; rw [f1, f2, e4]; simp)
                  rw [e4] at HQ
                  clear e4
                  go_wp2_with (go_at_call 47; refine HQ.out.mono ?_; rintro e w5 ⟨rfl, n5, rfl⟩)
                  go_ret
                  exact ⟨ret_bool HE.out.symm, by rw [hb1w]; exact HN.out.2.2.trans (Below.of_drewN _ _ _)⟩
              · have f3 : (xn == zn) = false := by simpa using e3
                have f4 : (xn != zn) = true := by simpa using e3
                have HE : Hid (sameImg a b = false) := HN.out.1 (by unfold sameSt; dsimp only; rw [f1, f2]; simp [e3])
                clear e3
                go_wp2
                go_ret
                exact ⟨ret_bool HE.out.symm, by rw [hb1w]; exact HN.out.2.2⟩
    · have HE : Hid (sameImg a b = false) := sameImg_false (fun e => hlen (by rw [e]))
      have hci : ¬ ((a.tabs.length : Int) = (b.tabs.length : Int)) := by omega
      have hcl : ((a.tabs.length : Int) == (b.tabs.length : Int)) = false := by simpa using hci
      have hcl2 : ((a.tabs.length : Int) != (b.tabs.length : Int)) = true := by simpa using hci
      have HB := Lib.hid hb2
      clear hs hs' ha hb hl hm hG et hlen hb2 hci
      go_enter Tryz.func16, Tryz.ntmps16
      go_wp2
      go_ret
      exact ⟨ret_bool HE.out.symm, HB.out⟩
  · have ft : (a.time == b.time) = false := by simpa using et
    have ft2 : (a.time != b.time) = true := by simpa using et
    have HE : Hid (sameImg a b = false) := sameImg_false (fun e => et (by rw [e]))
    have HB := Lib.hid hb2
    clear hs hs' ha hb hl hm hG et hb2
    go_enter Tryz.func16, Tryz.ntmps16
    go_wp2
    go_ret
    exact ⟨ret_bool HE.out.symm, HB.out⟩
end Go.Ju

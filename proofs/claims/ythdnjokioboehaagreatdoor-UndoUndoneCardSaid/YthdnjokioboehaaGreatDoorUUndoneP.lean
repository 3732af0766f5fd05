/- UndoUndone: the walk, the row and the card. -/
import Derived.Test.YthdnjokioboehaaGreatDoorViews
import Derived.Test.YthdnjokioboehaaGreatDoorAll
import Derived.Test.YthdnjokioboehaaGreatDoorApartLaw
import Derived.Test.YthdnjokioboehaaGreatDoorAwake
import Derived.Test.YthdnjokioboehaaGreatDoorOpenS
import Derived.Test.YthdnjokioboehaaGreatDoorTie
import Derived.Test.YthdnjokioboehaaGreatDoorCards
namespace Go.Ju
open Go.RowKit
open Go.Proofs
open Go.ChangeMaps

set_option maxRecDepth 100000 in
set_option maxHeartbeats 2000000 in
theorem undoUndone_any {Ga : Gh} {v1 v2 : Value} {l more : List ActM} {txn : Int} (w : World) (hn : Nul w) (hGa : Holds Ga w) (h1 : ActsAt Ga v1 l) (h2 : ActsAt Ga v2 more) (_ : i64 txn) :
    Calls Tryz.prog 8 #[v1, v2, .int .i64 txn] w fun e w' => e = .returned (.bool true) ∧ Below w.heap.size w w' := by
  have HFew1 := Lib.hid (fun (u : World) (hu : Below w.heap.size w u) => few_any Ga v1 l u (hGa.below hu) h1)
  have HFew2 := Lib.hid (fun (u : World) (hu : Below w.heap.size w u) => few_any Ga v2 more u (hGa.below hu) h2)
  have HAw := Lib.hid (fun (u : World) (hu : Below w.heap.size w u) => awake_any u (hn.below hu))
  obtain ⟨A1, c1, hv1, hc1, hm1, hs1⟩ := act_at h1
  obtain ⟨A2, c2, hv2, hc2, hm2, hs2⟩ := act_at h2
  subst hv1 hv2
  have B0 := Lib.hid (Below.refl w.heap.size w)
  cases hf1 : fewB l with
  | false =>
    rw [hf1] at HFew1
    clear h1 h2 hGa hn hs1 hs2
    go_enter Tryz.func8, Tryz.ntmps8
    go_wp2_with (first
      | (go_at_call 18; refine (HFew1.out _ B0.out).mono ?_; rintro e u1 ⟨rfl, hb1⟩; replace hb1 := Lib.hid hb1)
      | (go_at_call 13; refine (HAw.out _ hb1.out).mono ?_; rintro e u2 ⟨rfl, hb2⟩; replace hb2 := Lib.hid (hb1.out.trans (hb2.mono hb1.out.size))))
    go_ret
    exact ⟨rfl, hb2.out⟩
  | true =>
    rw [hf1] at HFew1
    cases hf2 : fewB more with
    | false =>
      rw [hf2] at HFew2
      clear h1 h2 hGa hn hs1 hs2
      have s0 := Lib.hid trivial
      go_enter Tryz.func8, Tryz.ntmps8
      go_wp2_with (first
        | (go_at_call 18; clear s0; refine (HFew1.out _ B0.out).mono ?_; rintro e u1 ⟨rfl, hb1⟩; replace hb1 := Lib.hid hb1; have s1 := Lib.hid trivial)
        | (go_at_call 18; clear s1; refine (HFew2.out _ hb1.out).mono ?_; rintro e u2 ⟨rfl, hb2⟩; replace hb2 := Lib.hid (hb1.out.trans (hb2.mono hb1.out.size)))
        | (go_at_call 13; refine (HAw.out _ hb2.out).mono ?_; rintro e u3 ⟨rfl, hb3⟩; replace hb3 := Lib.hid (hb2.out.trans (hb3.mono hb2.out.size))))
      go_ret
      exact ⟨rfl, hb3.out⟩
    | true =>
      rw [hf2] at HFew2
      have HOut : (txn < 1 ∨ 1099511627776 < txn) → Calls Tryz.prog 8 #[.slice A1 l.length c1, .slice A2 more.length c2, .int .i64 txn] w fun e w' => e = .returned (.bool true) ∧ Below w.heap.size w w' := fun hx => by
        have s0 := Lib.hid trivial
        clear h1 h2 hGa hn hs1 hs2 hf1 hf2
        rcases hx with hx | hx
        · go_enter Tryz.func8, Tryz.ntmps8
          go_wp2_with (first
            | (go_at_call 18; clear s0; refine (HFew1.out _ B0.out).mono ?_; rintro e u1 ⟨rfl, hb1⟩; replace hb1 := Lib.hid hb1; have s1 := Lib.hid trivial)
            | (go_at_call 18; clear s1; refine (HFew2.out _ hb1.out).mono ?_; rintro e u2 ⟨rfl, hb2⟩; replace hb2 := Lib.hid (hb1.out.trans (hb2.mono hb1.out.size)))
            | (go_at_call 13; refine (HAw.out _ hb2.out).mono ?_; rintro e u3 ⟨rfl, hb3⟩; replace hb3 := Lib.hid (hb2.out.trans (hb3.mono hb2.out.size))))
          go_ret
          exact ⟨rfl, hb3.out⟩
        · have hx1 : ¬ (txn < 1) := by omega
          go_enter Tryz.func8, Tryz.ntmps8
          go_wp2_with (first
            | (go_at_call 18; clear s0; refine (HFew1.out _ B0.out).mono ?_; rintro e u1 ⟨rfl, hb1⟩; replace hb1 := Lib.hid hb1; have s1 := Lib.hid trivial)
            | (go_at_call 18; clear s1; refine (HFew2.out _ hb1.out).mono ?_; rintro e u2 ⟨rfl, hb2⟩; replace hb2 := Lib.hid (hb1.out.trans (hb2.mono hb1.out.size)))
            | (go_at_call 13; refine (HAw.out _ hb2.out).mono ?_; rintro e u3 ⟨rfl, hb3⟩; replace hb3 := Lib.hid (hb2.out.trans (hb3.mono hb2.out.size))))
          go_ret
          exact ⟨rfl, hb3.out⟩
      by_cases hx1 : txn < 1
      · exact HOut (.inl hx1)
      by_cases hx2 : 1099511627776 < txn
      · exact HOut (.inr hx2)
      clear HOut
      have hT0 := (Inv.runs l Inv.empty).core.time
      have hL0 := ((Inv.runs l Inv.empty).mono (m := 600) (by have := few_len hf1; omega)).core.logs txn
      have hnum : numB txn = true := by unfold numB; rw [decide_eq_true (by omega), decide_eq_true (by omega)]; rfl
      have HMade := Lib.hid (fun (u : World) (hu : Below w.heap.size w u) => made_any (w0 := w) hu (Holds.nil u) hn hGa h1 hf1)
      generalize hM : runs St.empty l = M at *
      have HTime := Lib.hid (fun (p n : Nat) (M : St) (G : Gh) (u : World) (hS : Stage w p n M G u) => hS.time)
      have HMark := Lib.hid (fun (p n : Nat) (M : St) (G : Gh) (u : World) (hS : Stage w p n M G u) => hS.mark txn)
      have HBack := Lib.hid (fun (p n : Nat) (M : St) (G : Gh) (u : World) (m : Int) (hS : Stage w p n M G u) (hnn : n ≤ 1000000) (hm : okI m) => hS.back hnn txn m hm)
      have HKind := Lib.hid kind_any
      have HDo := Lib.hid (fun (p n : Nat) (M : St) (G : Gh) (u : World) (a : ActM) (A : Option Addr) (c : Nat) (hS : Stage w p n M G u) (hnn : n ≤ 1000000) (hi : i64 a.id) (hin : i64 a.n) (hl : a.row.length ≤ 30) (hr : RowAt Ga (.slice A a.row.length c) a.row) => hS.do hnn hn a A a.row.length c (rowFor_old hGa hS.below hr hl) (i64_ok hi) (i64_ok hin))
      have HR2 := Lib.hid (fun (j : Nat) (a : ActM) (hj : more[j]? = some a) => few_row hf2 (List.mem_of_getElem? hj))
      have hl1 := few_len hf1
      have hl2 := few_len hf2
      have HGa := Lib.hid hGa
      have HV2 := Lib.hid hs2
      have HA1 := Lib.hid h1
      have HA2 := Lib.hid h2
      have s0 := Lib.hid trivial
      have hmk : M.mark txn = (((M.lg txn).length : Int), 0) := by unfold St.mark; rw [hnum]; rfl
      unfold encI at *
      clear h1 h2 hGa hn hs1 hs2 hf1 hf2 hM
      generalize hn1 : l.length = n1 at *
      generalize hn2 : more.length = n2 at *
      generalize hT : M.time = T at *
      generalize hLL : more ++ l = LL at *
      generalize hML : (M.lg txn).length = ml at *
      have hLn : LL.length = n2 + n1 := by rw [← hLL, List.length_append, hn1, hn2]
      obtain ⟨i0, hi0, hz0, hz1, hz2⟩ := info_parts Tryz.infoAct
      have HINF := Lib.hid (And.intro hi0 (And.intro hz0 (And.intro hz1 hz2)))
      clear hi0 hz0 hz1 hz2
      have HView := Lib.hid (fun (GF : Gh) (A : Option Addr) (c : Nat) (p n : Nat) (M : St) (G' : Gh) (u : World) (y : Int) (hS : Stage w p n M G' u) (hnn : n ≤ 1000000) (ht : M.time = T) (hA : ActsAt GF (.slice A LL.length c) LL) (hGF : ∀ W G2, Stage w p n M G2 W → Sub G' G2 → Holds GF W) => by
        have := view_any hS hnn hGF hA y T hT0.1 (by rw [ht]; omega) (by rw [ht]; omega)
        rw [ht] at this
        exact this)
      have HLen := Lib.hid (fun (M : St) (y : Int) => viewA_len M y T (T + 1 - T).toNat LL)
      have hCn : (T + 1 - T).toNat = 1 := by omega
      rw [hCn] at HView HLen
      rw [hLn] at HView
      unfold ptr at *
      go_enter Tryz.func8, Tryz.ntmps8
      go_wp2_with (first
        | (go_at_call 18; clear s0; refine (HFew1.out _ B0.out).mono ?_; rintro e u1 ⟨rfl, hb1⟩; replace hb1 := Lib.hid hb1; have s1 := Lib.hid trivial)
        | (go_at_call 18; clear s1; refine (HFew2.out _ hb1.out).mono ?_; rintro e u2 ⟨rfl, hb2⟩; replace hb2 := Lib.hid (hb1.out.trans (hb2.mono hb1.out.size)))
        | (go_at_call 26; refine (HMade.out _ hb2.out).mono ?_; rintro e u3 ⟨p, rfl, hS⟩; replace hS := Lib.hid hS)
        | (go_at_call 31; refine (HMark.out _ _ _ _ _ hS.out).mono ?_; rintro e u4 ⟨rfl, rfl⟩; rw [hmk])
        | (go_at_call 17; refine (HTime.out _ _ _ _ _ hS.out).mono ?_; rintro e u4 ⟨rfl, rfl⟩; rw [hT]; have q1 := Lib.hid trivial)
        | (at_builtin; clear q1; obtain ⟨xs, ys, k1, k2, k3, k4, k5, k6, k7⟩ := (AllSt.start (Ga := Ga) hS.out hS.out.below.size).ready HGa.out hn2 HA2.out; replace k7 := Lib.hid k7; go_loud (refine wpList_append_ev rfl _ _ 35 rfl k1 43 i0 _ 7 88 Tryz.underlying35 HINF.out.1 HINF.out.2.1 HINF.out.2.2.1 HINF.out.2.2.2 rfl (by decide) _ 0 xs rfl k2 A2 n2 c2 ys rfl k3 k4 k5 k6 (by unfold maxLen; omega) (by omega) ?_; intro v' G' w5 happ; obtain ⟨GO1, hA1⟩ := k7.out _ _ _ happ; obtain ⟨A8, c8, hv8, _⟩ := hA1.acts HGa.out (by simp; omega); simp only [List.nil_append, hn2] at hv8; subst hv8; replace hA1 := Lib.hid hA1; clear happ k1 k2 k3 k4 k5 k6 k7; have q2 := Lib.hid trivial))
        | (at_builtin; clear q2; obtain ⟨xs, ys, k1, k2, k3, k4, k5, k6, k7⟩ := hA1.out.ready HGa.out hn1 HA1.out; simp only [List.nil_append, hn2] at k2 k7; replace k7 := Lib.hid k7; go_loud (refine wpList_append_ev rfl _ _ 35 rfl k1 43 i0 _ 7 88 Tryz.underlying35 HINF.out.1 HINF.out.2.1 HINF.out.2.2.1 HINF.out.2.2.2 rfl (by decide) (.slice A8 n2 c8) n2 xs rfl k2 A1 n1 c1 ys rfl k3 k4 k5 k6 (by unfold maxLen; omega) (by omega) ?_; intro v' G' w6 happ; obtain ⟨GO2, hA2⟩ := k7.out _ _ _ happ; rw [hLL] at hA2; obtain ⟨A9, c9, hv9, hAct⟩ := hA2.acts HGa.out (by omega); rw [hLn] at hv9; subst hv9; rw [hLn] at hAct; replace hA2 := Lib.hid hA2; replace hAct := Lib.hid hAct; clear happ k1 k2 k3 k4 k5 k6 k7 hA1 hS; have HGF := Lib.hid (fun (W : World) (G2 : Gh) (hW : Holds G2 W) (hB : Below w.heap.size w W) (hs : Sub GO2 G2) => (holds_or (holds_sub hW hs) (HGa.out.below hB)).1); have HVw := Lib.hid (fun (n : Nat) (M : St) (G' : Gh) (u : World) (y : Int) (hS : Stage w p n M G' u) (hnn : n ≤ 1000000) (ht : M.time = T) (hs : Sub GO2 G') => HView.out _ _ _ p n M G' u y hS hnn ht hAct.out (fun W G2 hS2 hs2 => HGF.out W G2 hS2.holds hS2.below (hs.trans hs2)))))
        | (go_at_call 27; refine (HVw.out _ _ _ _ txn hA2.out.st (by omega) hT (sub_right hA2.out.ap)).mono ?_; rintro e u5 ⟨v5, G5, rfl, hS5, hs5, hr5⟩; obtain ⟨A5, c5, hv5, -, -⟩ := reps_at hr5; subst hv5; replace hs5 := Lib.hid ((sub_right hA2.out.ap).trans hs5); replace hS5 := Lib.hid hS5; replace hr5 := Lib.hid hr5))
      have HViews := Lib.hid (fun (G : Gh) (A : Option Addr) (l c : Nat) (A' : Option Addr) (l' c' : Nat) (L : List Reply) (u : World) hG h h' hl => views_any G (.slice A l c) (.slice A' l' c') L u hG h h' hl)
      have HLaw := Lib.hid (undone_law hS5.out.inv hnum more)
      rw [hML] at HLaw
      have HAs := Lib.hid (fun (j : Nat) (a : ActM) (hj : more[j]? = some a) => show (more.map (asMine txn))[j]? = some (asMine txn a) by rw [List.getElem?_map, hj]; rfl)
      have hL2 : (more.map (asMine txn)).length = n2 := by rw [List.length_map, hn2]
      generalize hm2 : more.map (asMine txn) = L2 at *
      clear HMade HA1 HA2 hm2 hA2
      go_loopw [58] (fun i wr => ∃ (k : Nat) (G' : Gh), k ≤ n2 ∧ i = .int .i64 k ∧ Stage w p (600 + 2 * k) (runs M (L2.take k)) G' wr ∧ Sub G5 G') (fun i _ => n2 - (RowKit.intOf i).toNat)
      case atStart => exact ⟨0, G5, Nat.zero_le _, by simp, by simpa [runs] using hS5.out, Sub.refl _⟩
      case round =>
        obtain ⟨k, G', hk, rfl, hS1, hs1⟩ := hrel
        by_cases hkn : k = n2
        · subst hkn
          have HS3 : Hid (Stage w p 1200 (runs M L2) G' wr) := by
            unfold Hid
            have := hS1
            rw [List.take_of_length_le (by omega)] at this
            exact this.mono (by omega)
          have HSub := Lib.hid hs1
          generalize hM2 : runs M L2 = M2 at *
          obtain ⟨g1, g2, g3, g4⟩ := HLaw.out
          have hbk := HBack.out p 1200 M2 G' wr (ml : Int) HS3.out (by omega) (okI_of (by omega) (by omega))
          rw [g1] at hbk
          generalize hM3 : (M2.backA txn (ml : Int)).1 = M3 at *
          rw [hmk] at g2
          rw [hT] at g3
          have HBk := Lib.hid hbk
          have HV3 : Hid (viewA M3 txn T 1 LL = viewA M txn T 1 LL) := viewA_congr fun _ k _ => g4 k _
          have HG2 := Lib.hid g2
          have HG3 := Lib.hid g3
          have r0 := Lib.hid trivial
          clear hS1 hs1 hM2 hS5 HDo HV2 HR2 HAs hL2 hbk g1 g2 g3 g4 hM3 HLaw
          go_wp2_with (first
            | (go_at_call 32; refine HBk.out.mono ?_; rintro e u6 ⟨rfl, hS6⟩; replace hS6 := Lib.hid hS6)
            | (go_at_call 31; refine (HMark.out _ _ _ _ _ hS6.out).mono ?_; rintro e u4 ⟨rfl, rfl⟩; rw [HG2.out])
            | (go_at_call 17; refine (HTime.out _ _ _ _ _ hS6.out).mono ?_; rintro e u4 ⟨rfl, rfl⟩; rw [HG3.out])
            | (go_at_call 27; refine (HVw.out _ _ _ _ txn hS6.out (by omega) HG3.out (hs5.out.trans HSub.out)).mono ?_; rintro e u7 ⟨v7, G7, rfl, hS7, hs7, hr7⟩; rw [HV3.out] at hr7; obtain ⟨A7, c7, hv7, -, -⟩ := reps_at hr7; subst hv7; replace hs7 := Lib.hid (HSub.out.trans hs7); replace hS7 := Lib.hid hS7; replace hr7 := Lib.hid hr7)
            | (go_at_call 29; refine (HViews.out G7 _ _ _ _ _ _ _ _ hS7.out.holds (hr5.out.sub hs7.out) hr7.out (by have := HLen.out M txn; omega)).mono ?_; rintro e u8 ⟨rfl, hb8⟩; have hb11 := Lib.hid (hS7.out.step hb8).below)
            | (go_at_call 13; refine (HAw.out _ hb11.out).mono ?_; rintro e u3 ⟨rfl, hb3⟩; replace hb3 := Lib.hid (hb11.out.trans (hb3.mono hb11.out.size))))
          go_ret
          exact ⟨rfl, hb3.out⟩
        · obtain ⟨x, hx⟩ : ∃ x, more[k]? = some x := ⟨more[k]'(by omega), List.getElem?_eq_getElem _⟩
          have hklt : k < n2 := by omega
          have hk1 : (k : Int) < (n2 : Int) := by omega
          have hk0 : (0 : Int) ≤ (k : Int) := Int.natCast_nonneg _
          obtain ⟨b, o, rv, cs, rfl, hact, -, hrow, hcel⟩ := HV2.out k x hx
          obtain ⟨q0, q1, q2, q3, q4, q5, q6⟩ := hcel _ (HGa.out.below hS1.below)
          have hrow' := hrow
          obtain ⟨A0, c0, rfl, hc0, -⟩ := hrow'
          have hSa := hS1.alloc (actObj { x with txn := txn } (.slice A0 x.row.length c0))
          have hsb := Sub.put_new hS1.holds (actObj { x with txn := txn } (.slice A0 x.row.length c0))
          have HS := Lib.hid hSa
          have HSub := Lib.hid (hs1.trans hsb)
          have HSubF := Lib.hid (fun (a : ActM) (rv : Value) => hs1.trans (Sub.put_new hS1.holds (actObj a rv)))
          have HX := Lib.hid (And.intro hact.id (And.intro hact.n (And.intro (HR2.out k x hx) hrow)))
          have HT := Lib.hid (runs_snoc M (HAs.out k x hx))
          have HC := Lib.hid (fun (W : World) (hW : Below (wr.alloc (actObj { x with txn := txn } (.slice A0 x.row.length c0))).heap.size (wr.alloc (actObj { x with txn := txn } (.slice A0 x.row.length c0))) W) => cells7 (G := G') (s := wr.heap.size) (a := { x with txn := txn }) (rv := .slice A0 x.row.length c0) (hSa.holds.below hW))
          have HFz := Lib.hid (fun (W : World) (hW : Below (wr.alloc (actObj { x with txn := txn } (.slice A0 x.row.length c0))).heap.size (wr.alloc (actObj { x with txn := txn } (.slice A0 x.row.length c0))) W) => (hSa.holds.below hW).frozen (i := 0) (Gh.put_same _ _ _))
          have hkd := HKind.out { x with txn := txn } A0 x.row.length c0
          have hkr := kindB_range x.op
          have hxa : asMine txn x = if 3 ≤ kindB x.op then { x with txn := txn, op := kindB x.op % 3 } else { x with txn := txn } := rfl
          have HLe := Lib.hid hS1.below.size
          dsimp only at hkd
          clear hx hact hrow hcel hS1 hSa hkn hs1 hsb
          generalize hKO : kindB x.op = ko at *
          by_cases hk3 : 3 ≤ ko
          · rw [if_pos hk3] at hxa
            rw [hxa] at HT
            have HB := Lib.hid (fun (W : World) (hW : Stage w p (600 + 2 * k) (runs M (L2.take k)) (G'.put wr.heap.size (.cells #[.int .i64 x.op, .string x.key.1, .string x.key.2, .int .i64 txn, .int .i64 x.id, .int .i64 x.n, .slice A0 x.row.length c0] 43)) W) => hW.reset (i := 0) (v := .int .i64 (ko % 3)) HLe.out (cs' := #[.int .i64 (ko % 3), .string x.key.1, .string x.key.2, .int .i64 txn, .int .i64 x.id, .int .i64 x.n, .slice A0 x.row.length c0]) rfl)
            have HSub1 := Lib.hid (HSubF.out { x with txn := txn, op := ko % 3 } (.slice A0 x.row.length c0))
            have HK := Lib.hid hkd
            clear hkd
            unfold actVal actObj at *
            go_wp2_with (first
              | (go_at_call 28; refine (HK.out _).mono ?_; rintro e u' ⟨rfl, hb'⟩; obtain ⟨a0, a1, a2, a3, a4, a5, a6⟩ := HC.out _ hb'; have f0 := HFz.out _ hb'; have hSb := Lib.hid (HB.out _ (HS.out.step hb')); replace hb' := Lib.hid hb')
              | (go_at_call 22; go_loud (refine (HDo.out p _ _ _ _ { x with txn := txn, op := ko % 3 } A0 c0 hSb.out (by omega) HX.out.1 HX.out.2.1 HX.out.2.2.1 HX.out.2.2.2).mono ?_; rintro e u'' ⟨rv', hv', G'', rfl, hS2, hs2, -⟩; replace hS2 := Lib.hid hS2; replace hs2 := Lib.hid hs2)))
            go_roundw
            case rel => exact ⟨k + 1, _, by omega, by go_num, by rw [HT.out]; exact hS2.out.mono (by omega), HSub1.out.trans hs2.out⟩
            case measure => simp [RowKit.intOf]; omega
          · rw [if_neg hk3] at hxa
            rw [hxa] at HT
            have HK := Lib.hid hkd
            clear hkd
            unfold actVal actObj at *
            go_wp2_with (first
              | (go_at_call 28; refine (HK.out _).mono ?_; rintro e u' ⟨rfl, hb'⟩; obtain ⟨a0, a1, a2, a3, a4, a5, a6⟩ := HC.out _ hb'; have hSb := Lib.hid (HS.out.step hb'); replace hb' := Lib.hid hb')
              | (go_at_call 22; go_loud (refine (HDo.out p _ _ _ _ { x with txn := txn } A0 c0 hSb.out (by omega) HX.out.1 HX.out.2.1 HX.out.2.2.1 HX.out.2.2.2).mono ?_; rintro e u'' ⟨rv', hv', G'', rfl, hS2, hs2, -⟩; replace hS2 := Lib.hid hS2; replace hs2 := Lib.hid hs2)))
            go_roundw
            case rel => exact ⟨k + 1, _, by omega, by go_num, by rw [HT.out]; exact hS2.out.mono (by omega), HSub.out.trans hs2.out⟩
            case measure => simp [RowKit.intOf]; omega
end Go.Ju
namespace Go.Proofs.YthdnjokioboehaaGreatDoor
open Go.ChangeShapes Go.WideShapes Go.ChangeAt Go.RowKit

theorem own : ownKnob Tryz.prog.godebug = none := by kernel_rfl
theorem laidOut : laidOutB Tryz.prog = true := by kernel_rfl
/-- The door's own heap meets the condition. -/
theorem door_met (os : Os) (args : Array Value) : laidMetH Tryz.prog [("justiciar/value.Null", Rows.laid_justiciar_value_Null)] ((World.doorLaid Tryz.prog 400 os).forCall (fun _ _ => 0) ⟨#[], args, []⟩).memory :=
  laidMetH_of_parts3 (fuel := 8) (laidMet_of_run' 8 (by kernel_rfl) (by kernel_rfl)) (by kernel_rfl) (by kernel_rfl)

set_option maxRecDepth 100000 in
theorem undoUndone_lifted (os : Os) (started : os.Started) (H : Type) (enc : TypeId × Value → H) :
    ReturnsInHanded {} Tryz.checked os 8 .any (fun w args => (Rows.undoUndoneSpec.pre enc Tryz.prog Tryz.f8 [] false w args ∧ laidMetH Tryz.prog [("justiciar/value.Null", Rows.laid_justiciar_value_Null)] w) ∧ sizedMet enc Tryz.prog Tryz.f8 (OpenSpec.ofChange Rows.undoUndoneSpec) false w args)
      (Rows.undoUndoneSpec.post enc Tryz.prog Tryz.f8 false true false false) := by
  refine returnsInHanded_of_change_and (C := Tryz.checked) (X := fun w _ => laidMetH Tryz.prog [("justiciar/value.Null", Rows.laid_justiciar_value_Null)] w) (fun _ _ _ hh h => h.of_heap hh) own started (by kernel_rfl) Tryz.func8
    (ChangeSpec.witness_shaped (enc := enc) (C := Tryz.checked) (os := os) (X := fun w _ => laidMetH Tryz.prog [("justiciar/value.Null", Rows.laid_justiciar_value_Null)] w) false (World.doorLaid Tryz.prog 400 os) #[.slice none 0 0, .slice none 0 0, .int .i64 0] 8 rfl (World.shaped_of_RefB (by kernel_rfl) (by kernel_rfl)) (by kernel_rfl) (by kernel_rfl) (by kernel_rfl) (door_met os _)) ?_
  intro W base args ds gs before hval0 hW _ hsz0 hL _
  have hsz : (DataW.weightsEach Tryz.prog (Tryz.f8.params.toList ++ DataSpec.varTypes Tryz.prog Rows.undoUndoneSpec.plain) (ds ++ gs)).all (· ≤ reachBytes) = true := hsz0
  have hval : ∀ (j : Nat) t v, Tryz.f8.params[j]? = some t → args[j]? = some v → Value.okWide Tryz.prog W .any base t v := hval0
  have hW' := hW
  obtain ⟨p, q, hA0, hV, rfl, hfz, hnd⟩ := hW
  have hA : DataW.TrodAll enc Tryz.prog W 0 (fun _ => true) true Tryz.f8.params.toList args.toList ds p := hA0
  rw [Tryz.params8] at hA hval hsz
  obtain ⟨v0, v1, v2, d0, d1, d2, p0, p1, p2, rfl, rfl, rfl, h0, h1, h2⟩ := trodAll_three hA
  obtain ⟨rfl, rfl⟩ := trodVars_none hV
  have hlt : ∀ x ∈ (p0 ++ p1 ++ p2) ++ [], x.block < W.heap.size := fun x hx => by simpa using hW'.lt x hx
  rw [List.all_eq_true] at hsz
  have hw0 : ∀ q ∈ d0.weights Tryz.prog 35, q ≤ reachBytes := fun q hq => of_decide_eq_true (hsz q (DataW.weights_mem_each (j := 0) rfl rfl q hq))
  have hw1 : ∀ q ∈ d1.weights Tryz.prog 35, q ≤ reachBytes := fun q hq => of_decide_eq_true (hsz q (DataW.weights_mem_each (j := 1) rfl rfl q hq))
  obtain ⟨l0, hl0⟩ := Ju.open_acts (hval 0 35 v0 rfl rfl) h0 hw0
  obtain ⟨l1, hl1⟩ := Ju.open_acts (hval 1 35 v1 rfl rfl) h1 hw1
  obtain ⟨n2, hv2, hd2, hp2, wn2⟩ := open_int Tryz.underlying3 (hval 2 3 v2 rfl rfl) h2
  subst hv2
  have hnul : Ju.Nul W := Ju.nul_cells hL
  refine (Ju.undoUndone_any W hnul (Ju.oldG_holds W) hl0 hl1 (Ju.wf_okI wn2)).mono fun e W' ⟨he, hb⟩ => ?_
  subst he
  refine ⟨_, rfl, _, _, _, [], _, [], hW', trodAll_mk1 (shut_bool Tryz.underlying4 true), trodAll_mk3 (Below.trod laidOut (by kernel_rfl) (of_decide_eq_true (by kernel_rfl)) h0 hb (fun x hx => hlt x (by simp [hx]))) (Below.trod laidOut (by kernel_rfl) (of_decide_eq_true (by kernel_rfl)) h1 hb (fun x hx => hlt x (by simp [hx]))) (Below.trod laidOut (by kernel_rfl) (of_decide_eq_true (by kernel_rfl)) h2 hb (fun x hx => hlt x (by simp [hx]))), rfl, hb.frame _, fun h => by cases h⟩

theorem undoUndone_row : Rows.UndoUndoneSaid :=
  OpenClaim.holds_of_wide 8 Tryz.f8 rfl rfl rfl rfl rfl rfl rfl ⟨rfl, rfl, rfl, rfl, rfl⟩ rfl rfl rfl rfl rfl (by kernel_rfl) Tryz.func8 (by kernel_rfl)
    (of_decide_eq_true (by kernel_rfl)) (by unfold Func.isWrapper; first | (rw [if_pos (by decide +kernel)]; kernel_rfl) | (rw [if_neg (by decide +kernel)]; exact ⟨rfl, rfl⟩))
    (fun os started H enc _ => undoUndone_lifted os started H enc)
theorem undoUndone_holds : Rows.UndoUndoneCardSaid :=
  Claim7.holds_tied_plain_at .later [] [.data] true (true, "01d81894e8f79c17e99131f106419fb79536ab10904589b1f3322bca63321cb7") false
    undoUndone_row (fun _ h => by cases h) (by kernel_rfl) (fun _ h => by cases h) undoUndone_row_tie rfl ⟨rfl, rfl⟩ (by kernel_rfl) rfl
    (fun f fn hf hfn => by
      obtain rfl : f = 8 := Option.some.inj ((show Tryz.prog.funcNamed "justiciar/justiciarlaw16.UndoUndone" = some 8 by kernel_rfl).symm.trans hf) |>.symm
      obtain rfl : fn = Tryz.f8 := (Option.some.inj (Tryz.func8.symm.trans hfn)).symm
      exact ⟨by kernel_rfl, fun j t ht => by
        rw [Tryz.params8] at ht
        have hm : t ∈ [35, 3] := by simpa using Array.mem_of_getElem? ht
        have hall : ([35, 3].all fun u => !Tryz.prog.wantsStandIn u) = true := by kernel_rfl
        exact (show Tryz.prog.wantsStandIn t = false by simpa using List.all_eq_true.1 hall t hm)⟩)
    (by kernel_rfl)
#print axioms undoUndone_holds
end Go.Proofs.YthdnjokioboehaaGreatDoor

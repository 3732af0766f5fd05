/- UndoWhole: the walk, the row and the card. -/
import Derived.Test.YthdnjokioboehaaGreatDoorViews
import Derived.Test.YthdnjokioboehaaGreatDoorWholeLaw
import Derived.Test.YthdnjokioboehaaGreatDoorAwake
import Derived.Test.YthdnjokioboehaaGreatDoorOpenS
import Derived.Test.YthdnjokioboehaaGreatDoorTie
import Derived.Test.YthdnjokioboehaaGreatDoorCards
namespace Go.Ju
open Go.RowKit
open Go.Proofs
open Go.ChangeMaps

theorem viewA_one (M : St) (y T : Int) (l : List ActM) : viewA M y T 1 l = viewRow M y T (l.take 6) := by
  rw [viewA_succ]
  simp [viewA]
theorem viewA_two (M : St) (y T : Int) (l : List ActM) : viewA M y T 2 l = viewRow M y T (l.take 6) ++ viewRow M y (T + 1) (l.take 6) := by
  rw [viewA_succ, viewA_one]
  rfl
theorem viewRow_len (M : St) (y T : Int) (l : List ActM) : (viewRow M y T l).length = l.length := by unfold viewRow; rw [List.length_map]
theorem All2.reply_len {G : Gh} {l : List Reply} {css : List (List Value)} (h : All2 (ReplyIs G) l css) : ∀ x ∈ css, x.length = 5 := by
  induction h with
  | nil => intro x hx; simp at hx
  | cons h0 _ ih =>
    intro x hx
    rcases List.mem_cons.1 hx with rfl | hx
    · obtain ⟨_, _, e, _⟩ := h0
      rw [e]; rfl
    · exact ih x hx
/-- The second part of a row of replies. -/
theorem RepsAt.drop {G : Gh} {A : Option Addr} {n c k : Nat} {l : List Reply} (h : RepsAt G (.slice A n c) l) (hk : k < l.length) : ∃ b o, A = some ⟨b, o, none⟩ ∧ RepsAt G (.slice (some ⟨b, o + k * 5, none⟩) (n - k) (c - k)) (l.drop k) := by
  obtain ⟨css, A', c', h1, hv, h2, hs⟩ := h
  injection hv with e1 e2 e3
  subst e1 e2 e3
  have hl := h1.length
  have h5 := h1.reply_len
  rcases hs with hs | ⟨b, o, cs, t, fr, rfl, hb, hc⟩
  · exfalso
    obtain ⟨x, hx⟩ : ∃ x, css[k]? = some x := ⟨css[k]'(by omega), List.getElem?_eq_getElem _⟩
    have h6 := flatten_get h5 hx (j := 0) (by omega)
    rw [hs] at h6
    have h7 := h5 x (List.mem_of_getElem? hx)
    have h8 : x = [] := by simpa using h6.symm
    rw [h8] at h7
    cases h7
  · refine ⟨b, o, rfl, css.drop k, _, _, h1.drop k, by rw [List.length_drop], by rw [List.length_drop]; omega, ?_⟩
    have hsp : Span G (some ⟨b, o, none⟩) css.flatten := .inr ⟨b, o, cs, t, fr, rfl, hb, hc⟩
    have := hsp.drop (k * 5)
    rw [← flatten_drop k h5] at this
    exact this

theorem RepsAt.tail {G : Gh} {A : Option Addr} {n c k : Nat} {l1 l2 : List Reply} (h : RepsAt G (.slice A n c) (l1 ++ l2)) (hk : l1.length = k) :
    RepsAt G (.slice (Option.map (fun x => x.add (k * 5)) A) (n - k) (c - k)) l2 ∧ (c - k = 0 → RepsAt G (.slice A (n - k) 0) l2) := by
  subst hk
  have hn : n = l1.length + l2.length ∧ n ≤ c := by
    obtain ⟨css, A', c', h1, hv, h2, hs⟩ := h
    injection hv with e1 e2 e3
    rw [List.length_append] at e2
    subst e3
    exact ⟨e2, by rw [List.length_append] at h2; omega⟩
  have hnil : l2 = [] → ∀ X m, RepsAt G (.slice X (n - l1.length) m) l2 := fun e X m => by
    subst e
    rw [hn.1]
    simp only [List.length_nil, Nat.add_zero, Nat.sub_self]
    exact ⟨[], X, m, .nil, rfl, Nat.zero_le _, .inl rfl⟩
  refine ⟨?_, fun e => hnil (List.eq_nil_of_length_eq_zero (by omega)) _ _⟩
  by_cases e : l2 = []
  · exact hnil e _ _
  · have hl : 0 < l2.length := List.length_pos_iff.2 e
    obtain ⟨b, o, rfl, h1⟩ := h.drop (k := l1.length) (by rw [List.length_append]; omega)
    rw [List.drop_left] at h1
    rw [Option.map_some, add_mk]
    exact h1
set_option maxRecDepth 100000 in
set_option maxHeartbeats 2000000 in
theorem undoWhole_any {Ga : Gh} {v1 : Value} {l : List ActM} {txn : Int} (w : World) (hn : Nul w) (hGa : Holds Ga w) (h1 : ActsAt Ga v1 l) (_ : i64 txn) :
    Calls Tryz.prog 9 #[v1, .int .i64 txn] w fun e w' => e = .returned (.bool true) ∧ Below w.heap.size w w' := by
  have HFew1 := Lib.hid (fun (u : World) (hu : Below w.heap.size w u) => few_any Ga v1 l u (hGa.below hu) h1)
  have HAw := Lib.hid (fun (u : World) (hu : Below w.heap.size w u) => awake_any u (hn.below hu))
  obtain ⟨A1, c1, hv1, hc1, hm1, hs1⟩ := act_at h1
  subst hv1
  have B0 := Lib.hid (Below.refl w.heap.size w)
  cases hf1 : fewB l with
  | false =>
    rw [hf1] at HFew1
    clear h1 hGa hn hs1
    go_enter Tryz.func9, Tryz.ntmps9
    go_wp2_with (first
      | (go_at_call 18; refine (HFew1.out _ B0.out).mono ?_; rintro e u1 ⟨rfl, hb1⟩; replace hb1 := Lib.hid hb1)
      | (go_at_call 13; refine (HAw.out _ hb1.out).mono ?_; rintro e u2 ⟨rfl, hb2⟩; replace hb2 := Lib.hid (hb1.out.trans (hb2.mono hb1.out.size))))
    go_ret
    exact ⟨rfl, hb2.out⟩
  | true =>
    rw [hf1] at HFew1
    have HOut : (txn < 1 ∨ 1099511627776 < txn) → Calls Tryz.prog 9 #[.slice A1 l.length c1, .int .i64 txn] w fun e w' => e = .returned (.bool true) ∧ Below w.heap.size w w' := fun hx => by
      clear h1 hGa hn hs1 hf1
      rcases hx with hx | hx
      · go_enter Tryz.func9, Tryz.ntmps9
        go_wp2_with (first
          | (go_at_call 18; refine (HFew1.out _ B0.out).mono ?_; rintro e u1 ⟨rfl, hb1⟩; replace hb1 := Lib.hid hb1)
          | (go_at_call 13; refine (HAw.out _ hb1.out).mono ?_; rintro e u2 ⟨rfl, hb2⟩; replace hb2 := Lib.hid (hb1.out.trans (hb2.mono hb1.out.size))))
        go_ret
        exact ⟨rfl, hb2.out⟩
      · have hx1 : ¬ (txn < 1) := by omega
        go_enter Tryz.func9, Tryz.ntmps9
        go_wp2_with (first
          | (go_at_call 18; refine (HFew1.out _ B0.out).mono ?_; rintro e u1 ⟨rfl, hb1⟩; replace hb1 := Lib.hid hb1)
          | (go_at_call 13; refine (HAw.out _ hb1.out).mono ?_; rintro e u2 ⟨rfl, hb2⟩; replace hb2 := Lib.hid (hb1.out.trans (hb2.mono hb1.out.size))))
        go_ret
        exact ⟨rfl, hb2.out⟩
    by_cases hx1 : txn < 1
    · exact HOut (.inl hx1)
    by_cases hx2 : 1099511627776 < txn
    · exact HOut (.inr hx2)
    clear HOut
    have hI0 := Inv.runs l Inv.empty
    have hT0 := hI0.core.time
    have hl1 := few_len hf1
    have hTl : (runs St.empty l).time ≤ 300 := by
      have := runs_time l (M := St.empty)
      have h0 : St.empty.time = 0 := rfl
      omega
    have hnum : numB txn = true := by unfold numB; rw [decide_eq_true (by omega), decide_eq_true (by omega)]; rfl
    have hlaw := whole_law (hI0.aborts txn l) hnum (fun y hy => alone txn l hy) (by rw [aborts_time txn l hI0]; omega)
    rw [aborts_time txn l hI0] at hlaw
    have hT1 := aborts_time txn l hI0
    have HMade := Lib.hid (fun (u : World) (hu : Below w.heap.size w u) => made_any (w0 := w) hu (Holds.nil u) hn hGa h1 hf1)
    have HTime := Lib.hid (fun (p n : Nat) (M : St) (G : Gh) (u : World) (hS : Stage w p n M G u) => hS.time)
    have HAb := Lib.hid (fun (p n : Nat) (M : St) (G : Gh) (u : World) (x : Int) (hS : Stage w p n M G u) (hnn : n ≤ 1000000) => hS.abort hnn x)
    have HCo := Lib.hid (fun (p n : Nat) (M : St) (G : Gh) (u : World) (hS : Stage w p n M G u) (hnn : n ≤ 1000000) => hS.commit hnn txn)
    have HGa := Lib.hid hGa
    have HV1 := Lib.hid hs1
    have HSn := Lib.hid (fun (k : Nat) (a : ActM) (h : l[k]? = some a) => aborts_snoc txn (runs St.empty l) h)
    have HView := Lib.hid (fun (p n : Nat) (M : St) (G' : Gh) (u : World) (y t : Int) (hS : Stage w p n M G' u) (hnn : n ≤ 1000000) (h0 : 0 ≤ t) (h2 : t ≤ M.time + 1) (hc : (M.time + 1 - t).toNat ≤ 1000) => view_any hS hnn (fun W G2 hS' _ => hGa.below hS'.below) h1 y t h0 h2 hc)
    clear h1 hGa hn hs1 hf1 hI0
    unfold encI at *
    generalize hM : runs St.empty l = M at *
    generalize hM1 : aborts txn M l = M1 at *
    generalize hn1 : l.length = n1 at *
    generalize hT : M.time = T at *
    generalize hCm : M1.commitA txn = R at *
    obtain ⟨M2, nT, eT⟩ := R
    dsimp only at hlaw
    obtain ⟨g1, g2, g3, g4, g5⟩ := hlaw
    subst g1 g2
    have HM1 := Lib.hid hM1
    have HCm := Lib.hid hCm
    have HG4 := Lib.hid g4
    have HG5 := Lib.hid g5
    have HG3 := Lib.hid g3
    have HT1 := Lib.hid hT1
    have hl6 : (l.take 6).length = min 6 n1 := by rw [List.length_take, hn1]
    clear g3 g4 g5 hM1 hM hCm hT1
    unfold ptr at *
    go_enter Tryz.func9, Tryz.ntmps9
    go_wp2_with (first
      | (go_at_call 18; refine (HFew1.out _ B0.out).mono ?_; rintro e u1 ⟨rfl, hb1⟩; replace hb1 := Lib.hid hb1)
      | (go_at_call 26; refine (HMade.out _ hb1.out).mono ?_; rintro e u3 ⟨p, rfl, hS⟩; replace hS := Lib.hid hS))
    go_loopw [32] (fun i wr => ∃ (k : Nat) (G' : Gh), k ≤ n1 ∧ i = .int .i64 k ∧ Stage w p 600 (aborts txn M (l.take k)) G' wr) (fun i _ => n1 - (RowKit.intOf i).toNat)
    case atStart => exact ⟨0, _, Nat.zero_le _, by simp, by simpa [aborts] using hS.out⟩
    case round =>
      obtain ⟨k, G', hk, rfl, hS1⟩ := hrel
      by_cases hkn : k = n1
      · subst hkn
        have HS3 : Hid (Stage w p 600 M1 G' wr) := by
          unfold Hid
          have := hS1
          rw [List.take_of_length_le (by omega), HM1.out] at this
          exact this
        have HViews := Lib.hid (fun (G : Gh) (A : Option Addr) (l c : Nat) (A' : Option Addr) (l' c' : Nat) (L : List Reply) (u : World) hG h h' hl => views_any G (.slice A l c) (.slice A' l' c') L u hG h h' hl)
        have hL6 : (viewRow M1 txn T (l.take 6)).length = min 6 k := by rw [viewRow_len, hl6]
        have hL7 : (viewRow M1 0 T (l.take 6)).length = min 6 k := by rw [viewRow_len, hl6]
        have HL6 := Lib.hid hL6
        have HL7 := Lib.hid hL7
        clear hL6 hL7
        have v1 := fun (u : World) (G' : Gh) (hS : Stage w p 600 M1 G' u) => HView.out p 600 M1 G' u txn T hS (by omega) hT0.1 (by rw [HT1.out]; omega) (by rw [HT1.out]; omega)
        have v2 := fun (u : World) (G' : Gh) (hS : Stage w p 600 M1 G' u) => HView.out p 600 M1 G' u 0 T hS (by omega) hT0.1 (by rw [HT1.out]; omega) (by rw [HT1.out]; omega)
        rw [HT1.out, show (T + 1 - T).toNat = 1 by omega, viewA_one] at v1 v2
        have HV1' := Lib.hid v1
        have HV2' := Lib.hid v2
        have hco := HCo.out p 600 M1 G' wr HS3.out (by omega)
        clear hS1 hS HMade HAb HSn HV1 HM1 v1 v2 hco
        have r0 := Lib.hid trivial
        rcases HG3.out with hM2 | hM2
        · have v3 := fun (u : World) (G' : Gh) (hS : Stage w p 600 M2 G' u) => HView.out p 600 M2 G' u 0 T hS (by omega) hT0.1 (by rw [hM2]; omega) (by rw [hM2]; omega)
          rw [hM2, show (T + 1 - T).toNat = 1 by omega, viewA_one] at v3
          have hg : viewRow M2 0 T (l.take 6) = viewRow M1 txn T (l.take 6) := by
            unfold viewRow
            apply List.map_congr_left
            intro a _
            unfold atRep
            have := HG4.out a.key
            rw [hM2] at this
            rw [this]
          rw [hg] at v3
          have HV3 := Lib.hid v3
          have hcm := HCm.out
          rw [hM2] at hcm
          clear v3 hg HG3
          go_wp2_with (first
            | (go_at_call 17; clear r0; refine (HTime.out _ _ _ _ _ HS3.out).mono ?_; rintro e u4 ⟨rfl, rfl⟩; rw [HT1.out]; have r1 := Lib.hid trivial)
            | (go_at_call 27; clear r1; refine (HV1'.out _ _ HS3.out).mono ?_; rintro e u5 ⟨v5, G5, rfl, hS5, hs5, hr5⟩; obtain ⟨A5, c5, hv5, -, -⟩ := reps_at hr5; subst hv5; replace hS5 := Lib.hid hS5; replace hr5 := Lib.hid hr5; have r2 := Lib.hid trivial)
            | (go_at_call 27; clear r2; refine (HV2'.out _ _ hS5.out).mono ?_; rintro e u6 ⟨v6, G6, rfl, hS6, hs6, hr6⟩; obtain ⟨A6, c6, hv6, -, -⟩ := reps_at hr6; subst hv6; replace hS6 := Lib.hid hS6; replace hr5 := Lib.hid (hr5.out.sub hs6); clear hS5 hr6 hs6)
            | (go_at_call 34; refine (HCo.out _ _ _ _ _ hS6.out (by omega)).mono ?_; rw [hcm]; rintro e u7 ⟨rfl, hS7⟩; replace hS7 := Lib.hid hS7)
            | (go_at_call 17; refine (HTime.out _ _ _ _ _ hS7.out).mono ?_; rintro e u4 ⟨rfl, rfl⟩; rw [hM2]; have r3 := Lib.hid trivial)
            | (go_at_call 27; clear r3; refine (HV3.out _ _ hS7.out).mono ?_; rintro e u8 ⟨v8, G8, rfl, hS8, hs8, hr8⟩; obtain ⟨A8, c8, hv8, -, -⟩ := reps_at hr8; subst hv8; replace hS8 := Lib.hid hS8; replace hr8 := Lib.hid hr8; replace hr5 := Lib.hid (hr5.out.sub hs8))
            | (go_at_call 29; refine (HViews.out _ _ _ _ _ _ _ _ _ hS8.out.holds hr5.out hr8.out (by have := HL6.out; omega)).mono ?_; rintro e u9 ⟨rfl, hb9⟩; have hb11 := Lib.hid (hS8.out.step hb9).below)
            | (go_at_call 13; refine (HAw.out _ hb11.out).mono ?_; rintro e u3 ⟨rfl, hb3⟩; replace hb3 := Lib.hid (hb11.out.trans (hb3.mono hb11.out.size))))
          go_ret
          exact ⟨rfl, hb3.out⟩
        · have v3 := fun (u : World) (G' : Gh) (hS : Stage w p 600 M2 G' u) => HView.out p 600 M2 G' u 0 T hS (by omega) hT0.1 (by rw [hM2]; omega) (by rw [hM2]; omega)
          rw [hM2, show (T + 1 + 1 - T).toNat = 2 by omega, viewA_two] at v3
          have hg : viewRow M2 0 (T + 1) (l.take 6) = viewRow M1 txn T (l.take 6) := by
            unfold viewRow
            apply List.map_congr_left
            intro a _
            unfold atRep
            have := HG4.out a.key
            rw [hM2] at this
            rw [this]
          rw [hg] at v3
          have HV3 := Lib.hid v3
          have hcm := HCm.out
          rw [hM2] at hcm
          obtain ⟨hh, hhe⟩ : ∃ hh, min 6 k = hh := ⟨_, rfl⟩
          have hL8 : (viewRow M2 0 T (l.take 6)).length = hh := by rw [viewRow_len, hl6, hhe]
          have hL6' : (viewRow M1 txn T (l.take 6)).length = hh := by rw [HL6.out, hhe]
          have hL7' : (viewRow M1 0 T (l.take 6)).length = hh := by rw [HL7.out, hhe]
          obtain ⟨h2, h2e⟩ : ∃ h2, h2 = 2 * hh := ⟨_, rfl⟩
          have hL9 : (viewRow M2 0 T (l.take 6) ++ viewRow M1 txn T (l.take 6)).length = h2 := by rw [List.length_append, hL6', hL8]; omega
          have HL := Lib.hid (And.intro hL6' (And.intro hL7' (And.intro hL8 hL9)))
          have hq : (h2 : Int) / 2 = (hh : Int) := by omega
          have hh6 : hh ≤ 6 := by omega
          have hhs : (hh : Int) + (hh : Int) = (h2 : Int) := by omega
          have H2e := Lib.hid h2e
          have HHe := Lib.hid hhe
          clear v3 hg HG3 hL6' hL7' hL8 hL9 h2e hhe
          go_wp2_with (first
            | (go_at_call 17; clear r0; refine (HTime.out _ _ _ _ _ HS3.out).mono ?_; rintro e u4 ⟨rfl, rfl⟩; rw [HT1.out]; have r1 := Lib.hid trivial)
            | (go_at_call 27; clear r1; refine (HV1'.out _ _ HS3.out).mono ?_; rintro e u5 ⟨v5, G5, rfl, hS5, hs5, hr5⟩; obtain ⟨A5, c5, hv5, -, -⟩ := reps_at hr5; rw [HL.out.1] at hv5; subst hv5; replace hS5 := Lib.hid hS5; replace hr5 := Lib.hid hr5; have r2 := Lib.hid trivial)
            | (go_at_call 27; clear r2; refine (HV2'.out _ _ hS5.out).mono ?_; rintro e u6 ⟨v6, G6, rfl, hS6, hs6, hr6⟩; obtain ⟨A6, c6, hv6, -, -⟩ := reps_at hr6; rw [HL.out.2.1] at hv6; subst hv6; replace hS6 := Lib.hid hS6; replace hr6 := Lib.hid hr6; replace hr5 := Lib.hid (hr5.out.sub hs6); clear hS5 hs6)
            | (go_at_call 34; refine (HCo.out _ _ _ _ _ hS6.out (by omega)).mono ?_; rw [hcm]; rintro e u7 ⟨rfl, hS7⟩; replace hS7 := Lib.hid hS7)
            | (go_at_call 17; refine (HTime.out _ _ _ _ _ hS7.out).mono ?_; rintro e u4 ⟨rfl, rfl⟩; rw [hM2]; have r3 := Lib.hid trivial)
            | (go_at_call 27; clear r3; refine (HV3.out _ _ hS7.out).mono ?_; rintro e u8 ⟨v8, G8, rfl, hS8, hs8, hr8⟩; obtain ⟨A8, c8, hv8, hc8, -⟩ := reps_at hr8; rw [HL.out.2.2.2] at hv8 hc8; subst hv8; replace hS8 := Lib.hid hS8; replace hr8 := Lib.hid hr8; replace hr5 := Lib.hid (hr5.out.sub hs8); replace hr6 := Lib.hid (hr6.out.sub hs8)))
          all_goals
            obtain ⟨t1, t2⟩ := hr8.out.tail HL.out.2.2.1
            have h2h : h2 - hh = hh := by have := H2e.out; omega
            rw [h2h] at t1 t2 ⊢
            have HT1' := Lib.hid t1
            have HT2' := Lib.hid t2
            obtain ⟨A7, c7, hv7, hc7, hR8⟩ := reps_at hr8.out
            injection hv7 with z1 z2 z3
            subst z1 z3
            obtain ⟨A4, c4, hv4, hc4, hR6⟩ := reps_at hr6.out
            injection hv4 with z1 z2' z3
            subst z1 z3
            have HR8 := Lib.hid hR8
            have HR6 := Lib.hid hR6
            have HI1 := Lib.hid hS6.out.inv
            have HI2 := Lib.hid hS8.out.inv
            clear t1 t2 z2 z2' hc7 hc4 hR8 hR6
            have q1 := hr5.out
            have q3 := hS8.out.holds
            have q4 : (viewRow M1 txn T (List.take 6 l)).length ≤ 1000000 := by have := HL6.out; omega
            first
              | (have z0 : c8 = hh := by omega
                 have HH := HViews.out G8 A5 hh c5 A8 hh 0 (viewRow M1 txn T (List.take 6 l)) u8 q3 q1 (HT2'.out (by omega)) q4
                 refine HH.mono ?_)
              | (generalize Option.map (fun x => x.add (hh * 5)) A8 = X at *
                 have HH := HViews.out G8 A5 hh c5 X hh (c8 - hh) (viewRow M1 txn T (List.take 6 l)) u8 q3 q1 HT1'.out q4
                 refine HH.mono ?_)
            rintro e u9 ⟨rfl, hb9⟩
            have hS9 := Lib.hid (hS8.out.step hb9)
            clear q1 q3 q4 hb9
            go_wp2
            have HG5' := Lib.hid HG5.out
            have HAtS := Lib.hid (fun (M : St) (hM : Inv 600 M) (k : Key) (t : Int) => hM.atSmall (by omega) k t 0)
            have HSame := Lib.hid (fun (G : Gh) (u : World) (a b : Reply) (ra ha rb hb : Value) (hG : Holds G u) (h1 : RepAt G ra ha a) (h2 : RepAt G rb hb b) => same_any G a b ra ha rb hb u hG h1 h2)
            have hhn := hl6
            clear HViews HTime HCo HView HV1' HV2' HV3 hcm HT1' HT2'
            go_loopw [123] (fun i wr => ∃ (k2 : Nat), k2 ≤ hh ∧ i = .int .i64 k2 ∧ Stage w p 600 M2 G8 wr) (fun i _ => hh - (RowKit.intOf i).toNat)
            case atStart => exact ⟨0, Nat.zero_le _, by simp, hS9.out⟩
            case round =>
              obtain ⟨k2, hk2, rfl, hS4⟩ := hrel
              by_cases hkn : k2 = hh
              · subst hkn
                have HE := Lib.hid hS4.below
                clear hS4
                go_wp2_with (go_at_call 13; refine (HAw.out _ HE.out).mono ?_; rintro e u3 ⟨rfl, hb3⟩; replace hb3 := Lib.hid (HE.out.trans (hb3.mono HE.out.size)))
                go_ret
                exact ⟨rfl, hb3.out⟩
              · have hklt : k2 < hh := by omega
                have hk1 : (k2 : Int) < (hh : Int) := by omega
                have hk0 : (0 : Int) ≤ (k2 : Int) := Int.natCast_nonneg _
                have hk2' : (k2 : Int) < (h2 : Int) := by have := H2e.out; omega
                have hk3' : k2 < h2 := by have := H2e.out; omega
                obtain ⟨x, hx⟩ : ∃ x, (l.take 6)[k2]? = some x := ⟨(l.take 6)[k2]'(by have := HHe.out; omega), List.getElem?_eq_getElem _⟩
                have hr1 : (viewRow M1 0 T (l.take 6))[k2]? = some (atRep M1 0 T x) := by unfold viewRow; rw [List.getElem?_map, hx]; rfl
                have hr2 : (viewRow M2 0 T (l.take 6) ++ viewRow M1 txn T (l.take 6))[k2]? = some (atRep M2 0 T x) := by
                  rw [List.getElem?_append_left (by rw [HL.out.2.2.1]; omega)]
                  unfold viewRow; rw [List.getElem?_map, hx]; rfl
                obtain ⟨b2, o2, rv2, hv2, rfl, hp2, hc2'⟩ := HR6.out k2 _ hr1
                obtain ⟨b1, o1, rv1, hv1, rfl, hp1, hc1'⟩ := HR8.out k2 _ hr2
                have z1 := hc1' _ hS4.holds
                have z2 := hc2' _ hS4.holds
                obtain ⟨r0, r1, r2, r3, r4⟩ := z1
                obtain ⟨s0, s1, s2, s3, s4⟩ := z2
                have hlaw := HG5'.out x.key
                have HP := Lib.hid (And.intro hp1 hp2)
                have HSt := Lib.hid hS4
                clear hx hr1 hr2 hp1 hp2 hc1' hc2' hS4 HG4 HG5 HR6 HR8
                unfold atRep at *
                by_cases h26 : (M2.atA x.key T 0).2 = 26
                · rw [h26] at r2
                  clear hlaw
                  go_wp2
                  refine wp_region_still_tail 15 (by kernel_rfl) (by kernel_rfl) ?_
                  change wpStill _ _ wr.drew (fun a' => wpList _ _ _ _ a' wr.drew) _ _
                  simp only [List.take_succ_cons, List.take_zero, List.drop_succ_cons, List.drop_zero]
                  iterate 15 (with_reducible refine wpStill_step (fun K hK => ?_); go_simp; with_reducible refine hK _ ?_; clear hK K)
                  with_reducible refine wpStill_nil ?_
                  go_wp2
                  go_roundw
                  case rel => exact ⟨k2 + 1, by omega, by go_num, HSt.out.drewN 1⟩
                  case measure => simp [RowKit.intOf]; omega
                · have heq : M2.atA x.key T 0 = M1.atA x.key T 0 := by
                    rcases hlaw with h | h
                    · exact absurd h h26
                    · exact h
                  have hne1 : ((M2.atA x.key T 0).2 == 26) = false := by simpa using h26
                  have hne2 : ((M2.atA x.key T 0).2 != 26) = true := by simpa using h26
                  have hsr : sameRep ⟨0, 0, (M2.atA x.key T 0).2, [], (M2.atA x.key T 0).1⟩ ⟨0, 0, (M1.atA x.key T 0).2, [], (M1.atA x.key T 0).1⟩ = true := by rw [sameRep_iff, heq]
                  have HSr := Lib.hid (HSame.out G8 (wr.drewN 1) _ _ rv1 hv1 rv2 hv2 (HSt.out.drewN 1).holds HP.out.1 HP.out.2)
                  rw [hsr] at HSr
                  clear hlaw heq hsr
                  go_wp2
                  refine wp_region_still_tail 15 (by kernel_rfl) (by kernel_rfl) ?_
                  change wpStill _ _ wr.drew (fun a' => wpList _ _ _ _ a' wr.drew) _ _
                  simp only [List.take_succ_cons, List.take_zero, List.drop_succ_cons, List.drop_zero]
                  iterate 15 (with_reducible refine wpStill_step (fun K hK => ?_); go_simp; with_reducible refine hK _ ?_; clear hK K)
                  with_reducible refine wpStill_nil ?_
                  go_wp2_with (go_at_call 21; go_loud (refine HSr.out.mono ?_; rintro e w2 ⟨rfl, hb2⟩; have hb3 := Lib.hid ((HSt.out.drewN 1).step hb2)))
                  go_roundw
                  case rel => exact ⟨k2 + 1, by omega, by go_num, hb3.out⟩
                  case measure => simp [RowKit.intOf]; omega
      · obtain ⟨x, hx⟩ : ∃ x, l[k]? = some x := ⟨l[k]'(by omega), List.getElem?_eq_getElem _⟩
        have hklt : k < n1 := by omega
        have hk1 : (k : Int) < (n1 : Int) := by omega
        have hk0 : (0 : Int) ≤ (k : Int) := Int.natCast_nonneg _
        obtain ⟨b, o, rv, cs, rfl, hact, -, hrow, hcel⟩ := HV1.out k x hx
        obtain ⟨q0, q1, q2, q3, q4, q5, q6⟩ := hcel _ (HGa.out.below hS1.below)
        obtain ⟨A0, c0, rfl, hc0, -⟩ := hrow
        have HS := Lib.hid (hS1.alloc (actObj x (.slice A0 x.row.length c0)))
        have HT := Lib.hid (HSn.out k x hx)
        clear hx hact hcel hS1 hkn hS
        by_cases hab : x.txn ≠ txn ∧ 1 ≤ x.txn
        · have HT2 : Hid (aborts txn M (l.take (k + 1)) = ((aborts txn M (l.take k)).abortA x.txn).1) := by
            have := HT.out
            rw [if_pos hab] at this
            exact this
          obtain ⟨hab1, hab2⟩ := hab
          have hab3 : (x.txn != txn) = true := by simpa using hab1
          unfold actObj at *
          go_wp2_with (go_at_call 33; refine (HAb.out p _ _ _ _ x.txn HS.out (by omega)).mono ?_; rintro e u' ⟨rfl, hS2⟩; replace hS2 := Lib.hid hS2)
          go_roundw
          case rel => exact ⟨k + 1, _, by omega, by go_num, by rw [HT2.out]; exact hS2.out⟩
          case measure => simp [RowKit.intOf]; omega
        · have HT2 : Hid (aborts txn M (l.take (k + 1)) = aborts txn M (l.take k)) := by
            have := HT.out
            rw [if_neg hab] at this
            exact this
          unfold actObj at *
          by_cases hab1 : x.txn = txn
          · have hab3 : (x.txn != txn) = false := by simpa using hab1
            rw [hab1] at HS
            clear hab
            go_wp2_with fail
            go_roundw
            case rel => exact ⟨k + 1, _, by omega, by go_num, by rw [HT2.out]; exact HS.out⟩
            case measure => simp [RowKit.intOf]; omega
          · have hab2 : ¬ (1 ≤ x.txn) := fun h => hab ⟨hab1, h⟩
            have hab3 : (x.txn != txn) = true := by simpa using hab1
            clear hab
            go_wp2_with fail
            go_roundw
            case rel => exact ⟨k + 1, _, by omega, by go_num, by rw [HT2.out]; exact HS.out⟩
            case measure => simp [RowKit.intOf]; omega
end Go.Ju
namespace Go.Proofs.YthdnjokioboehaaGreatDoor
open Go.ChangeShapes Go.WideShapes Go.ChangeAt Go.RowKit

theorem own : ownKnob Tryz.prog.godebug = none := by kernel_rfl
theorem laidOut : laidOutB Tryz.prog = true := by kernel_rfl
/-- The door's own heap meets the condition. -/
theorem door_met (os : Os) (args : Array Value) : laidMetH Tryz.prog [("justiciar/value.Null", Rows.laid_justiciar_value_Null)] ((World.doorLaid Tryz.prog 400 os).forCall (fun _ _ => 0) ⟨#[], args, []⟩).memory :=
  laidMetH_of_parts3 (fuel := 8) (laidMet_of_run' 8 (by kernel_rfl) (by kernel_rfl)) (by kernel_rfl) (by kernel_rfl)

set_option maxRecDepth 100000 in
theorem undoWhole_lifted (os : Os) (started : os.Started) (H : Type) (enc : TypeId × Value → H) :
    ReturnsInHanded {} Tryz.checked os 9 .any (fun w args => (Rows.undoWholeSpec.pre enc Tryz.prog Tryz.f9 [] false w args ∧ laidMetH Tryz.prog [("justiciar/value.Null", Rows.laid_justiciar_value_Null)] w) ∧ sizedMet enc Tryz.prog Tryz.f9 (OpenSpec.ofChange Rows.undoWholeSpec) false w args)
      (Rows.undoWholeSpec.post enc Tryz.prog Tryz.f9 false true false false) := by
  refine returnsInHanded_of_change_and (C := Tryz.checked) (X := fun w _ => laidMetH Tryz.prog [("justiciar/value.Null", Rows.laid_justiciar_value_Null)] w) (fun _ _ _ hh h => h.of_heap hh) own started (by kernel_rfl) Tryz.func9
    (ChangeSpec.witness_shaped (enc := enc) (C := Tryz.checked) (os := os) (X := fun w _ => laidMetH Tryz.prog [("justiciar/value.Null", Rows.laid_justiciar_value_Null)] w) false (World.doorLaid Tryz.prog 400 os) #[.slice none 0 0, .int .i64 0] 8 rfl (World.shaped_of_RefB (by kernel_rfl) (by kernel_rfl)) (by kernel_rfl) (by kernel_rfl) (by kernel_rfl) (door_met os _)) ?_
  intro W base args ds gs before hval0 hW _ hsz0 hL _
  have hsz : (DataW.weightsEach Tryz.prog (Tryz.f9.params.toList ++ DataSpec.varTypes Tryz.prog Rows.undoWholeSpec.plain) (ds ++ gs)).all (· ≤ reachBytes) = true := hsz0
  have hval : ∀ (j : Nat) t v, Tryz.f9.params[j]? = some t → args[j]? = some v → Value.okWide Tryz.prog W .any base t v := hval0
  have hW' := hW
  obtain ⟨p, q, hA0, hV, rfl, hfz, hnd⟩ := hW
  have hA : DataW.TrodAll enc Tryz.prog W 0 (fun _ => true) true Tryz.f9.params.toList args.toList ds p := hA0
  rw [Tryz.params9] at hA hval hsz
  obtain ⟨v0, v1, d0, d1, p0, p1, rfl, rfl, rfl, h0, h1⟩ := trodAll_two hA
  obtain ⟨rfl, rfl⟩ := trodVars_none hV
  have hlt : ∀ x ∈ (p0 ++ p1) ++ [], x.block < W.heap.size := fun x hx => by simpa using hW'.lt x hx
  rw [List.all_eq_true] at hsz
  have hw0 : ∀ q ∈ d0.weights Tryz.prog 35, q ≤ reachBytes := fun q hq => of_decide_eq_true (hsz q (DataW.weights_mem_each (j := 0) rfl rfl q hq))
  obtain ⟨l0, hl0⟩ := Ju.open_acts (hval 0 35 v0 rfl rfl) h0 hw0
  obtain ⟨n1, hv1, hd1, hp1, wn1⟩ := open_int Tryz.underlying3 (hval 1 3 v1 rfl rfl) h1
  subst hv1
  have hnul : Ju.Nul W := Ju.nul_cells hL
  refine (Ju.undoWhole_any W hnul (Ju.oldG_holds W) hl0 (Ju.wf_okI wn1)).mono fun e W' ⟨he, hb⟩ => ?_
  subst he
  refine ⟨_, rfl, _, _, _, [], _, [], hW', trodAll_mk1 (shut_bool Tryz.underlying4 true), trodAll_mk2 (Below.trod laidOut (by kernel_rfl) (of_decide_eq_true (by kernel_rfl)) h0 hb (fun x hx => hlt x (by simp [hx]))) (Below.trod laidOut (by kernel_rfl) (of_decide_eq_true (by kernel_rfl)) h1 hb (fun x hx => hlt x (by simp [hx]))), rfl, hb.frame _, fun h => by cases h⟩

theorem undoWhole_row : Rows.UndoWholeSaid :=
  OpenClaim.holds_of_wide 9 Tryz.f9 rfl rfl rfl rfl rfl rfl rfl ⟨rfl, rfl, rfl, rfl, rfl⟩ rfl rfl rfl rfl rfl (by kernel_rfl) Tryz.func9 (by kernel_rfl)
    (of_decide_eq_true (by kernel_rfl)) (by unfold Func.isWrapper; first | (rw [if_pos (by decide +kernel)]; kernel_rfl) | (rw [if_neg (by decide +kernel)]; exact ⟨rfl, rfl⟩))
    (fun os started H enc _ => undoWhole_lifted os started H enc)
theorem undoWhole_holds : Rows.UndoWholeCardSaid :=
  Claim7.holds_tied_plain_at .later [] [.data] true (true, "01d81894e8f79c17e99131f106419fb79536ab10904589b1f3322bca63321cb7") false
    undoWhole_row (fun _ h => by cases h) (by kernel_rfl) (fun _ h => by cases h) undoWhole_row_tie rfl ⟨rfl, rfl⟩ (by kernel_rfl) rfl
    (fun f fn hf hfn => by
      obtain rfl : f = 9 := Option.some.inj ((show Tryz.prog.funcNamed "justiciar/justiciarlaw16.UndoWhole" = some 9 by kernel_rfl).symm.trans hf) |>.symm
      obtain rfl : fn = Tryz.f9 := (Option.some.inj (Tryz.func9.symm.trans hfn)).symm
      exact ⟨by kernel_rfl, fun j t ht => by
        rw [Tryz.params9] at ht
        have hm : t ∈ [35, 3] := by simpa using Array.mem_of_getElem? ht
        have hall : ([35, 3].all fun u => !Tryz.prog.wantsStandIn u) = true := by kernel_rfl
        exact (show Tryz.prog.wantsStandIn t = false by simpa using List.all_eq_true.1 hall t hm)⟩)
    (by kernel_rfl)
#print axioms undoWhole_holds
end Go.Proofs.YthdnjokioboehaaGreatDoor

/- UndoPast: the walk, the row and the card. -/
import Derived.Test.YthdnjokioboehaaGreatDoorView
import Derived.Test.YthdnjokioboehaaGreatDoorPastLaw
import Derived.Test.YthdnjokioboehaaGreatDoorAwake
import Derived.Test.YthdnjokioboehaaGreatDoorOpenS
import Derived.Test.YthdnjokioboehaaGreatDoorTie
import Derived.Test.YthdnjokioboehaaGreatDoorCards
namespace Go.Ju
open Go.RowKit
open Go.Proofs
open Go.ChangeMaps

theorem cells7 {W : World} {s : Nat} {a : ActM} {rv : Value} {G : Gh} (h : Holds (G.put s (actObj a rv)) W) : W.cell? ⟨s, 0, none⟩ = some (.int .i64 a.op) ∧ W.cell? ⟨s, 1, none⟩ = some (.string a.key.1) ∧ W.cell? ⟨s, 2, none⟩ = some (.string a.key.2) ∧ W.cell? ⟨s, 3, none⟩ = some (.int .i64 a.txn) ∧ W.cell? ⟨s, 4, none⟩ = some (.int .i64 a.id) ∧ W.cell? ⟨s, 5, none⟩ = some (.int .i64 a.n) ∧ W.cell? ⟨s, 6, none⟩ = some rv :=
  ⟨h.cell (Gh.put_same _ _ _) rfl, h.cell (Gh.put_same _ _ _) rfl, h.cell (Gh.put_same _ _ _) rfl, h.cell (Gh.put_same _ _ _) rfl, h.cell (Gh.put_same _ _ _) rfl, h.cell (Gh.put_same _ _ _) rfl, h.cell (Gh.put_same _ _ _) rfl⟩
/-- A reply's cells in a row of replies. -/
theorem reps_at {G : Gh} {v : Value} {l : List Reply} (h : RepsAt G v l) : ∃ A c, v = .slice A l.length c ∧ l.length ≤ c ∧ ∀ (j : Nat) (r : Reply), l[j]? = some r → ∃ b o rv hv, A = some ⟨b, o, none⟩ ∧ RepAt G rv hv r ∧
    ∀ W, Holds G W → W.cell? ⟨b, o + j * 5, none⟩ = some (.int .i64 r.n) ∧ W.cell? ⟨b, o + j * 5 + 1, none⟩ = some (.int .i64 r.m) ∧ W.cell? ⟨b, o + j * 5 + 2, none⟩ = some (.int .i64 r.e) ∧ W.cell? ⟨b, o + j * 5 + 3, none⟩ = some rv ∧ W.cell? ⟨b, o + j * 5 + 4, none⟩ = some hv := by
  obtain ⟨css, A, c, h1, rfl, h2, hs⟩ := h
  refine ⟨A, c, rfl, h2, fun j r hj => ?_⟩
  obtain ⟨cs, hcs, rv, hv, hcv, hrep⟩ := h1.get hj
  have hall : ∀ x ∈ css, x.length = 5 := by
    clear hs hj hcs h2
    induction h1 with
    | nil => intro x hx; simp at hx
    | cons h0 _ ih =>
      intro x hx
      rcases List.mem_cons.1 hx with rfl | hx
      · obtain ⟨_, _, e, _⟩ := h0
        rw [e]; rfl
      · exact ih x hx
  have g : ∀ i, i < 5 → css.flatten[j * 5 + i]? = cs[i]? := fun i hi => flatten_get hall hcs hi
  rcases hs with hs | ⟨b, o, cs', t, fr, rfl, hb, hc⟩
  · have := g 0 (by omega)
    rw [hs, hcv] at this
    simp at this
  · refine ⟨b, o, rv, hv, rfl, hrep, fun W hW => ?_⟩
    have cel : ∀ i u, i < 5 → cs[i]? = some u → W.cell? ⟨b, o + j * 5 + i, none⟩ = some u := fun i u hi hu => by
      have h5 := hc (j * 5 + i) u ((g i hi).trans hu)
      rw [show o + (j * 5 + i) = o + j * 5 + i by omega] at h5
      simp [World.cell?, hW b _ hb, h5]
    exact ⟨cel 0 _ (by omega) (by rw [hcv]; rfl), cel 1 _ (by omega) (by rw [hcv]; rfl), cel 2 _ (by omega) (by rw [hcv]; rfl), cel 3 _ (by omega) (by rw [hcv]; rfl), cel 4 _ (by omega) (by rw [hcv]; rfl)⟩

set_option maxRecDepth 100000 in
set_option maxHeartbeats 2000000 in
theorem undoPast_any {Ga : Gh} {v1 v2 : Value} {l more : List ActM} (w : World) (hn : Nul w) (hGa : Holds Ga w) (h1 : ActsAt Ga v1 l) (h2 : ActsAt Ga v2 more) :
    Calls Tryz.prog 7 #[v1, v2] w fun e w' => e = .returned (.bool true) ∧ Below w.heap.size w w' := by
  have HFew1 := Lib.hid (fun (u : World) (hu : Below w.heap.size w u) => few_any Ga v1 l u (hGa.below hu) h1)
  have HFew2 := Lib.hid (fun (u : World) (hu : Below w.heap.size w u) => few_any Ga v2 more u (hGa.below hu) h2)
  have HAw := Lib.hid (fun (u : World) (hu : Below w.heap.size w u) => awake_any u (hn.below hu))
  obtain ⟨A1, c1, hv1, hc1, hm1, hs1⟩ := act_at h1
  obtain ⟨A2, c2, hv2, hc2, hm2, hs2⟩ := act_at h2
  subst hv1 hv2
  have B0 := Lib.hid (Below.refl w.heap.size w)
  cases hf1 : fewB l with
  | false =>
    rw [hf1] at HFew1
    clear h1 h2 hGa hn hs1 hs2
    go_enter Tryz.func7, Tryz.ntmps7
    go_wp2_with (first
      | (go_at_call 18; refine (HFew1.out _ B0.out).mono ?_; rintro e u1 ⟨rfl, hb1⟩; replace hb1 := Lib.hid hb1)
      | (go_at_call 13; refine (HAw.out _ hb1.out).mono ?_; rintro e u2 ⟨rfl, hb2⟩; replace hb2 := Lib.hid (hb1.out.trans (hb2.mono hb1.out.size))))
    go_ret
    exact ⟨rfl, hb2.out⟩
  | true =>
    rw [hf1] at HFew1
    cases hf2 : fewB more with
    | false =>
      rw [hf2] at HFew2
      clear h1 h2 hGa hn hs1 hs2
      have s0 := Lib.hid trivial
      go_enter Tryz.func7, Tryz.ntmps7
      go_wp2_with (first
        | (go_at_call 18; clear s0; refine (HFew1.out _ B0.out).mono ?_; rintro e u1 ⟨rfl, hb1⟩; replace hb1 := Lib.hid hb1; have s1 := Lib.hid trivial)
        | (go_at_call 18; clear s1; refine (HFew2.out _ hb1.out).mono ?_; rintro e u2 ⟨rfl, hb2⟩; replace hb2 := Lib.hid (hb1.out.trans (hb2.mono hb1.out.size)))
        | (go_at_call 13; refine (HAw.out _ hb2.out).mono ?_; rintro e u3 ⟨rfl, hb3⟩; replace hb3 := Lib.hid (hb2.out.trans (hb3.mono hb2.out.size))))
      go_ret
      exact ⟨rfl, hb3.out⟩
    | true =>
      rw [hf2] at HFew2
      have HMade := Lib.hid (fun (u : World) (hu : Below w.heap.size w u) => made_any (w0 := w) hu (Holds.nil u) hn hGa h1 hf1)
      generalize hM : runs St.empty l = M at *
      have HTime := Lib.hid (fun (p n : Nat) (M : St) (G : Gh) (u : World) (hS : Stage w p n M G u) => hS.time)
      have HView := Lib.hid (fun (p : Nat) (u : World) (hS : Stage w p 600 M Gh.nil u) => view_any hS (by omega) (fun W G' hS' _ => hGa.below hS'.below) h1 0 M.time hS.inv.core.time.1 (by omega) (by omega))
      have hvw : viewA M 0 M.time (M.time + 1 - M.time).toNat l = viewRow M 0 M.time (l.take 6) := by
        rw [show (M.time + 1 - M.time).toNat = 1 by omega, viewA_succ]
        simp [viewA]
      rw [hvw] at HView
      have HKind := Lib.hid kind_any
      have HDo := Lib.hid (fun (p n : Nat) (M : St) (G : Gh) (u : World) (a : ActM) (cs : List Value) (A : Option Addr) (c : Nat) (hS : Stage w p n M G u) (hnn : n ≤ 1000000) (ha : ActIs Ga a cs) (hl : a.row.length ≤ 30) (hr : RowAt Ga (.slice A a.row.length c) a.row) => hS.act hnn hn hGa ha hl hr)
      have HR2 := Lib.hid (fun (j : Nat) (a : ActM) (hj : more[j]? = some a) => few_row hf2 (List.mem_of_getElem? hj))
      have hl1 := few_len hf1
      have hl2 := few_len hf2
      have HGa := Lib.hid hGa
      have HV1 := Lib.hid hs1
      have HV2 := Lib.hid hs2
      have s0 := Lib.hid trivial
      clear h1 h2 hGa hn hs1 hs2 hvw hf1 hf2 hM
      generalize hn1 : l.length = n1 at *
      generalize hn2 : more.length = n2 at *
      generalize hT : M.time = T at *
      unfold ptr at *
      go_enter Tryz.func7, Tryz.ntmps7
      go_wp2_with (first
        | (go_at_call 18; clear s0; refine (HFew1.out _ B0.out).mono ?_; rintro e u1 ⟨rfl, hb1⟩; replace hb1 := Lib.hid hb1; have s1 := Lib.hid trivial)
        | (go_at_call 18; clear s1; refine (HFew2.out _ hb1.out).mono ?_; rintro e u2 ⟨rfl, hb2⟩; replace hb2 := Lib.hid (hb1.out.trans (hb2.mono hb1.out.size)))
        | (go_at_call 26; refine (HMade.out _ hb2.out).mono ?_; rintro e u3 ⟨p, rfl, hS⟩; replace hS := Lib.hid hS)
        | (go_at_call 17; refine (HTime.out _ _ _ _ _ hS.out).mono ?_; rintro e u4 ⟨rfl, rfl⟩; rw [hT])
        | (go_at_call 27; refine (HView.out _ _ hS.out).mono ?_; rintro e u5 ⟨vv, Gv, rfl, hSv, -, hreps⟩; replace hSv := Lib.hid hSv; obtain ⟨A7, c7, hv7, hc7, hr7⟩ := reps_at hreps; subst hv7; have HReps := Lib.hid hr7; clear hr7 hreps))
      go_loopw [33] (fun i wr => ∃ (k : Nat) (G' : Gh), k ≤ n2 ∧ i = .int .i64 k ∧ Stage w p (600 + 2 * k) (runsKeep M (more.take k)) G' wr ∧ Sub Gv G') (fun i _ => n2 - (RowKit.intOf i).toNat)
      case atStart => exact ⟨0, Gv, Nat.zero_le _, by simp, hSv.out, Sub.refl _⟩
      case round =>
        obtain ⟨k, G', hk, rfl, hS1, hs1⟩ := hrel
        by_cases hkn : k = n2
        · subst hkn
          have HS3 : Hid (Stage w p 1200 (runsKeep M more) G' wr) := by
            unfold Hid
            have := hS1
            rw [List.take_of_length_le (by omega)] at this
            exact this.mono (by omega)
          have HSub := Lib.hid hs1
          have HLaw := Lib.hid (fun key => past_law hSv.out.inv more key)
          rw [hT] at HLaw
          generalize hM2 : runsKeep M more = M2 at *
          have HAt := Lib.hid (fun (G : Gh) (u : World) (key : Key) (hS : Stage w p 1200 M2 G u) => hS.at (by omega) key T 0)
          have HSame := Lib.hid (fun (G : Gh) (u : World) (a b : Reply) (ra ha rb hb : Value) (hG : Holds G u) (h1 : RepAt G ra ha a) (h2 : RepAt G rb hb b) => same_any G a b ra ha rb hb u hG h1 h2)
          clear hS1 hs1 hM2 hSv HTime HView HDo HV2 HR2 HMade hS
          go_wp2
          go_loopw [46] (fun i wr => ∃ (k : Nat) (G2 : Gh), k ≤ n1 ∧ k ≤ 6 ∧ i = .int .i64 k ∧ Stage w p 1200 M2 G2 wr ∧ Sub Gv G2) (fun i _ => n1 - (RowKit.intOf i).toNat)
          case atStart => exact ⟨0, G', Nat.zero_le _, by omega, by simp, HS3.out, HSub.out⟩
          case round =>
            obtain ⟨k2, G2, hk2, hk6, rfl, hS4, hs4⟩ := hrel
            by_cases hkn : k2 = n1
            · subst hkn
              have HE := Lib.hid hS4.below
              clear hS4 hs4
              go_wp2_with (go_at_call 13; refine (HAw.out _ HE.out).mono ?_; rintro e u3 ⟨rfl, hb3⟩; replace hb3 := Lib.hid (HE.out.trans (hb3.mono HE.out.size)))
              go_ret
              exact ⟨rfl, hb3.out⟩
            · obtain ⟨x, hx⟩ : ∃ x, l[k2]? = some x := ⟨l[k2]'(by omega), List.getElem?_eq_getElem _⟩
              have hklt : k2 < n1 := by omega
              have hk1 : (k2 : Int) < (n1 : Int) := by omega
              have hk0 : (0 : Int) ≤ (k2 : Int) := Int.natCast_nonneg _
              obtain ⟨b, o, rv, cs, rfl, hact, -, hrow, hcel⟩ := HV1.out k2 x hx
              obtain ⟨q0, q1, q2, q3, q4, q5, q6⟩ := hcel _ (HGa.out.below hS4.below)
              obtain ⟨A9, c9, rfl, hc9, -⟩ := hrow
              have hSa := hS4.alloc (.cells #[.int .i64 x.op, .string x.key.1, .string x.key.2, .int .i64 x.txn, .int .i64 x.id, .int .i64 x.n, .slice A9 x.row.length c9] 43)
              have HSub2 := Lib.hid (hs4.trans (Sub.put_new hS4.holds (.cells #[.int .i64 x.op, .string x.key.1, .string x.key.2, .int .i64 x.txn, .int .i64 x.id, .int .i64 x.n, .slice A9 x.row.length c9] 43)))
              have HS5 := Lib.hid hSa
              have HB5 := Lib.hid hSa.below
              by_cases hk66 : k2 = 6
              · subst hk66
                clear hact hcel hS4 hs4 hSa hx
                go_wp2_with (go_at_call 13; refine (HAw.out _ HB5.out).mono ?_; rintro e u3 ⟨rfl, hb3⟩; replace hb3 := Lib.hid (HB5.out.trans (hb3.mono HB5.out.size)))
                go_ret
                exact ⟨rfl, hb3.out⟩
              · have hk67 : (k2 : Int) < 6 := by omega
                have hk68 : ¬ (6 : Int) ≤ (k2 : Int) := by omega
                have hRx : (viewRow M 0 T (l.take 6))[k2]? = some (atRep M 0 T x) := by
                  unfold viewRow
                  rw [List.getElem?_map, List.getElem?_take_of_lt (by omega), hx]
                  rfl
                have hlt6 : k2 < (viewRow M 0 T (l.take 6)).length := (List.getElem?_eq_some_iff.1 hRx).1
                have hlt7 : (k2 : Int) < ((viewRow M 0 T (l.take 6)).length : Int) := by omega
                obtain ⟨b7, o7, rv7, hv7, rfl, hrep7, hcel7⟩ := HReps.out k2 _ hRx
                have HRep7 := Lib.hid (And.intro hrep7 hcel7)
                have HSm := Lib.hid (hS4.inv.atSmall (by omega) x.key T 0)
                have hlaw := HLaw.out x.key
                clear hact hcel hS4 hs4 hSa hx hrep7 hcel7 hRx
                by_cases h26 : (M2.atA x.key T 0).2 = 26
                · have hat := fun (G : Gh) (u : World) (hS : Stage w p 1200 M2 G u) => HAt.out G u x.key hS
                  unfold AtIs at hat
                  rw [h26] at hat
                  have HAt2 := Lib.hid hat
                  clear hat hlaw h26
                  go_wp2_with (go_at_call 30; refine (HAt2.out _ _ HS5.out).mono ?_; rintro e u' ⟨v, G3, rfl, hS', hs', hh⟩; obtain ⟨A3, c3, hv', -, -⟩ := held_at hh; subst hv'; replace hS' := Lib.hid hS'; replace hs' := Lib.hid (HSub2.out.trans hs'); clear hh)
                  go_roundw
                  case rel => exact ⟨k2 + 1, _, by omega, by omega, by go_num, hS'.out, hs'.out⟩
                  case measure => simp [RowKit.intOf]; omega
                · have heq : M2.atA x.key T 0 = M.atA x.key T 0 := by
                    rcases hlaw with h | h
                    · exact absurd h h26
                    · exact h
                  have hne1 : ((M2.atA x.key T 0).2 == 26) = false := by simpa using h26
                  have hne2 : ((M2.atA x.key T 0).2 != 26) = true := by simpa using h26
                  have hsr : sameRep ⟨0, 0, (M2.atA x.key T 0).2, [], (M2.atA x.key T 0).1⟩ (atRep M 0 T x) = true := by
                    rw [sameRep_iff, heq]
                    rfl
                  have HSr := Lib.hid hsr
                  clear hlaw heq hsr
                  go_wp2_with (first
                    | (go_at_call 30; go_loud (refine (HAt.out _ _ x.key HS5.out).mono ?_; rintro e u' ⟨v, G3, rfl, hS', hs', hh⟩; obtain ⟨A3, c3, hv', -, -⟩ := held_at hh; subst hv'; obtain ⟨z0, z1, z2, z3, z4⟩ := HRep7.out.2 _ (holds_sub hS'.holds (HSub2.out.trans hs')); replace hh := Lib.hid hh; replace hS' := Lib.hid hS'; replace hs' := Lib.hid (HSub2.out.trans hs')))
                    | (go_at_call 21; go_loud (refine (HSame.out G3 _ ⟨0, 0, (M2.atA x.key T 0).2, [], (M2.atA x.key T 0).1⟩ (atRep M 0 T x) (.slice none 0 0) _ rv7 hv7 hS'.out.holds ⟨RowAt.nil _, hh.out, by simp, HSm.out⟩ (HRep7.out.1.sub hs'.out)).mono ?_; rintro e u2 ⟨rfl, hb2⟩; rw [HSr.out]; replace hb2 := Lib.hid hb2)))
                  go_roundw
                  case rel => exact ⟨k2 + 1, _, by omega, by omega, by go_num, hS'.out.step hb2.out, hs'.out⟩
                  case measure => simp [RowKit.intOf]; omega
        · obtain ⟨x, hx⟩ : ∃ x, more[k]? = some x := ⟨more[k]'(by omega), List.getElem?_eq_getElem _⟩
          have hklt : k < n2 := by omega
          have hk1 : (k : Int) < (n2 : Int) := by omega
          have hk0 : (0 : Int) ≤ (k : Int) := Int.natCast_nonneg _
          obtain ⟨b, o, rv, cs, rfl, hact, -, hrow, hcel⟩ := HV2.out k x hx
          obtain ⟨q0, q1, q2, q3, q4, q5, q6⟩ := hcel _ (HGa.out.below hS1.below)
          have hrow' := hrow
          obtain ⟨A9, c9, rfl, hc9, -⟩ := hrow'
          have hSa := hS1.alloc (actObj x (.slice A9 x.row.length c9))
          have HS := Lib.hid hSa
          have HSub := Lib.hid (hs1.trans (Sub.put_new hS1.holds (actObj x (.slice A9 x.row.length c9))))
          have HX := Lib.hid (And.intro hact (And.intro hrow (HR2.out k x hx)))
          have HT := Lib.hid (runsKeep_snoc M hx)
          have HC := Lib.hid (fun (W : World) (hW : Below (wr.alloc (actObj x (.slice A9 x.row.length c9))).heap.size (wr.alloc (actObj x (.slice A9 x.row.length c9))) W) => cells7 (G := G') (s := wr.heap.size) (a := x) (rv := .slice A9 x.row.length c9) (hSa.holds.below hW))
          have hkd := HKind.out x A9 x.row.length c9
          clear hx hact hrow hcel hS1 hSa hkn hs1
          by_cases hk10 : kindB x.op = 10
          · rw [hk10] at hkd
            have HK := Lib.hid hkd
            have HT2 : Hid (runsKeep M (more.take (k + 1)) = runsKeep M (more.take k)) := by
              have := HT.out
              rw [if_pos hk10] at this
              exact this
            clear hkd hk10
            unfold actVal actObj at *
            go_wp2_with (go_at_call 28; refine (HK.out _).mono ?_; rintro e u' ⟨rfl, hb'⟩; replace hb' := Lib.hid hb')
            go_roundw
            case rel => exact ⟨k + 1, _, by omega, by go_num, by rw [HT2.out]; exact (HS.out.step hb'.out).mono (by omega), HSub.out⟩
            case measure => simp [RowKit.intOf]; omega
          · have hk11 : ¬ (kindB x.op = 10) := hk10
            have HK := Lib.hid hkd
            have HT2 : Hid (runsKeep M (more.take (k + 1)) = ((runsKeep M (more.take k)).doA x).1) := by
              have := HT.out
              rw [if_neg hk10] at this
              exact this
            have hb1 : (kindB x.op == 10) = false := by simpa using hk10
            have hb2' : (kindB x.op != 10) = true := by simpa using hk10
            clear hkd
            unfold actVal actObj at *
            go_wp2_with (first
              | (go_at_call 28; refine (HK.out _).mono ?_; rintro e u' ⟨rfl, hb'⟩; obtain ⟨a0, a1, a2, a3, a4, a5, a6⟩ := HC.out _ hb'; replace hb' := Lib.hid hb')
              | (go_at_call 22; refine (HDo.out p _ _ _ _ x _ A9 c9 (HS.out.step hb'.out) (by omega) HX.out.1 HX.out.2.2 HX.out.2.1).mono ?_; rintro e u'' ⟨rv', hv', G'', rfl, hS2, hs2, -⟩; replace hS2 := Lib.hid hS2; replace hs2 := Lib.hid hs2))
            go_roundw
            case rel => exact ⟨k + 1, _, by omega, by go_num, by rw [HT2.out]; exact hS2.out.mono (by omega), HSub.out.trans hs2.out⟩
            case measure => simp [RowKit.intOf]; omega
end Go.Ju
namespace Go.Proofs.YthdnjokioboehaaGreatDoor
open Go.ChangeShapes Go.WideShapes Go.ChangeAt Go.RowKit

theorem own : ownKnob Tryz.prog.godebug = none := by kernel_rfl
theorem laidOut : laidOutB Tryz.prog = true := by kernel_rfl
/-- The door's own heap meets the condition. -/
theorem door_met (os : Os) (args : Array Value) : laidMetH Tryz.prog [("justiciar/value.Null", Rows.laid_justiciar_value_Null)] ((World.doorLaid Tryz.prog 400 os).forCall (fun _ _ => 0) ⟨#[], args, []⟩).memory :=
  laidMetH_of_parts3 (fuel := 8) (laidMet_of_run' 8 (by kernel_rfl) (by kernel_rfl)) (by kernel_rfl) (by kernel_rfl)

set_option maxRecDepth 100000 in
theorem undoPast_lifted (os : Os) (started : os.Started) (H : Type) (enc : TypeId × Value → H) :
    ReturnsInHanded {} Tryz.checked os 7 .any (fun w args => (Rows.undoPastSpec.pre enc Tryz.prog Tryz.f7 [] false w args ∧ laidMetH Tryz.prog [("justiciar/value.Null", Rows.laid_justiciar_value_Null)] w) ∧ sizedMet enc Tryz.prog Tryz.f7 (OpenSpec.ofChange Rows.undoPastSpec) false w args)
      (Rows.undoPastSpec.post enc Tryz.prog Tryz.f7 false true false false) := by
  refine returnsInHanded_of_change_and (C := Tryz.checked) (X := fun w _ => laidMetH Tryz.prog [("justiciar/value.Null", Rows.laid_justiciar_value_Null)] w) (fun _ _ _ hh h => h.of_heap hh) own started (by kernel_rfl) Tryz.func7
    (ChangeSpec.witness_shaped (enc := enc) (C := Tryz.checked) (os := os) (X := fun w _ => laidMetH Tryz.prog [("justiciar/value.Null", Rows.laid_justiciar_value_Null)] w) false (World.doorLaid Tryz.prog 400 os) #[.slice none 0 0, .slice none 0 0] 8 rfl (World.shaped_of_RefB (by kernel_rfl) (by kernel_rfl)) (by kernel_rfl) (by kernel_rfl) (by kernel_rfl) (door_met os _)) ?_
  intro W base args ds gs before hval0 hW _ hsz0 hL _
  have hsz : (DataW.weightsEach Tryz.prog (Tryz.f7.params.toList ++ DataSpec.varTypes Tryz.prog Rows.undoPastSpec.plain) (ds ++ gs)).all (· ≤ reachBytes) = true := hsz0
  have hval : ∀ (j : Nat) t v, Tryz.f7.params[j]? = some t → args[j]? = some v → Value.okWide Tryz.prog W .any base t v := hval0
  have hW' := hW
  obtain ⟨p, q, hA0, hV, rfl, hfz, hnd⟩ := hW
  have hA : DataW.TrodAll enc Tryz.prog W 0 (fun _ => true) true Tryz.f7.params.toList args.toList ds p := hA0
  rw [Tryz.params7] at hA hval hsz
  obtain ⟨v0, v1, d0, d1, p0, p1, rfl, rfl, rfl, h0, h1⟩ := trodAll_two hA
  obtain ⟨rfl, rfl⟩ := trodVars_none hV
  have hlt : ∀ x ∈ (p0 ++ p1) ++ [], x.block < W.heap.size := fun x hx => by simpa using hW'.lt x hx
  rw [List.all_eq_true] at hsz
  have hw0 : ∀ q ∈ d0.weights Tryz.prog 35, q ≤ reachBytes := fun q hq => of_decide_eq_true (hsz q (DataW.weights_mem_each (j := 0) rfl rfl q hq))
  have hw1 : ∀ q ∈ d1.weights Tryz.prog 35, q ≤ reachBytes := fun q hq => of_decide_eq_true (hsz q (DataW.weights_mem_each (j := 1) rfl rfl q hq))
  obtain ⟨l0, hl0⟩ := Ju.open_acts (hval 0 35 v0 rfl rfl) h0 hw0
  obtain ⟨l1, hl1⟩ := Ju.open_acts (hval 1 35 v1 rfl rfl) h1 hw1
  have hnul : Ju.Nul W := Ju.nul_cells hL
  refine (Ju.undoPast_any W hnul (Ju.oldG_holds W) hl0 hl1).mono fun e W' ⟨he, hb⟩ => ?_
  subst he
  refine ⟨_, rfl, _, _, _, [], _, [], hW', trodAll_mk1 (shut_bool Tryz.underlying4 true), trodAll_mk2 (Below.trod laidOut (by kernel_rfl) (of_decide_eq_true (by kernel_rfl)) h0 hb (fun x hx => hlt x (by simp [hx]))) (Below.trod laidOut (by kernel_rfl) (of_decide_eq_true (by kernel_rfl)) h1 hb (fun x hx => hlt x (by simp [hx]))), rfl, hb.frame _, fun h => by cases h⟩

theorem undoPast_row : Rows.UndoPastSaid :=
  OpenClaim.holds_of_wide 7 Tryz.f7 rfl rfl rfl rfl rfl rfl rfl ⟨rfl, rfl, rfl, rfl, rfl⟩ rfl rfl rfl rfl rfl (by kernel_rfl) Tryz.func7 (by kernel_rfl)
    (of_decide_eq_true (by kernel_rfl)) (by unfold Func.isWrapper; first | (rw [if_pos (by decide +kernel)]; kernel_rfl) | (rw [if_neg (by decide +kernel)]; exact ⟨rfl, rfl⟩))
    (fun os started H enc _ => undoPast_lifted os started H enc)
theorem undoPast_holds : Rows.UndoPastCardSaid :=
  Claim7.holds_tied_plain_at .later [] [.data] true (true, "01d81894e8f79c17e99131f106419fb79536ab10904589b1f3322bca63321cb7") false
    undoPast_row (fun _ h => by cases h) (by kernel_rfl) (fun _ h => by cases h) undoPast_row_tie rfl ⟨rfl, rfl⟩ (by kernel_rfl) rfl
    (fun f fn hf hfn => by
      obtain rfl : f = 7 := Option.some.inj ((show Tryz.prog.funcNamed "justiciar/justiciarlaw16.UndoPast" = some 7 by kernel_rfl).symm.trans hf) |>.symm
      obtain rfl : fn = Tryz.f7 := (Option.some.inj (Tryz.func7.symm.trans hfn)).symm
      exact ⟨by kernel_rfl, fun j t ht => by
        rw [Tryz.params7] at ht
        have hm : t ∈ [35] := by simpa using Array.mem_of_getElem? ht
        have hall : ([35].all fun u => !Tryz.prog.wantsStandIn u) = true := by kernel_rfl
        exact (show Tryz.prog.wantsStandIn t = false by simpa using List.all_eq_true.1 hall t hm)⟩)
    (by kernel_rfl)
#print axioms undoPast_holds
end Go.Proofs.YthdnjokioboehaaGreatDoor

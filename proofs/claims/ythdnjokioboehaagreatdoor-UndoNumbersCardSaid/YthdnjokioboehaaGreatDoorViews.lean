/- 'views'. -/
import Derived.Test.YthdnjokioboehaaGreatDoorView
namespace Go.Ju
open Go.RowKit
open Go.Proofs
open Go.ChangeMaps

theorem cells7 {W : World} {s : Nat} {a : ActM} {rv : Value} {G : Gh} (h : Holds (G.put s (actObj a rv)) W) : W.cell? ⟨s, 0, none⟩ = some (.int .i64 a.op) ∧ W.cell? ⟨s, 1, none⟩ = some (.string a.key.1) ∧ W.cell? ⟨s, 2, none⟩ = some (.string a.key.2) ∧ W.cell? ⟨s, 3, none⟩ = some (.int .i64 a.txn) ∧ W.cell? ⟨s, 4, none⟩ = some (.int .i64 a.id) ∧ W.cell? ⟨s, 5, none⟩ = some (.int .i64 a.n) ∧ W.cell? ⟨s, 6, none⟩ = some rv :=
  ⟨h.cell (Gh.put_same _ _ _) rfl, h.cell (Gh.put_same _ _ _) rfl, h.cell (Gh.put_same _ _ _) rfl, h.cell (Gh.put_same _ _ _) rfl, h.cell (Gh.put_same _ _ _) rfl, h.cell (Gh.put_same _ _ _) rfl, h.cell (Gh.put_same _ _ _) rfl⟩
/-- A reply's cells in a row of replies. -/
theorem reps_at {G : Gh} {v : Value} {l : List Reply} (h : RepsAt G v l) : ∃ A c, v = .slice A l.length c ∧ l.length ≤ c ∧ ∀ (j : Nat) (r : Reply), l[j]? = some r → ∃ b o rv hv, A = some ⟨b, o, none⟩ ∧ RepAt G rv hv r ∧
    ∀ W, Holds G W → W.cell? ⟨b, o + j * 5, none⟩ = some (.int .i64 r.n) ∧ W.cell? ⟨b, o + j * 5 + 1, none⟩ = some (.int .i64 r.m) ∧ W.cell? ⟨b, o + j * 5 + 2, none⟩ = some (.int .i64 r.e) ∧ W.cell? ⟨b, o + j * 5 + 3, none⟩ = some rv ∧ W.cell? ⟨b, o + j * 5 + 4, none⟩ = some hv := by
  obtain ⟨css, A, c, h1, rfl, h2, hs⟩ := h
  refine ⟨A, c, rfl, h2, fun j r hj => ?_⟩
  obtain ⟨cs, hcs, rv, hv, hcv, hrep⟩ := h1.get hj
  have hall : ∀ x ∈ css, x.length = 5 := by
    clear hs hj hcs h2
    induction h1 with
    | nil => intro x hx; simp at hx
    | cons h0 _ ih =>
      intro x hx
      rcases List.mem_cons.1 hx with rfl | hx
      · obtain ⟨_, _, e, _⟩ := h0
        rw [e]; rfl
      · exact ih x hx
  have g : ∀ i, i < 5 → css.flatten[j * 5 + i]? = cs[i]? := fun i hi => flatten_get hall hcs hi
  rcases hs with hs | ⟨b, o, cs', t, fr, rfl, hb, hc⟩
  · have := g 0 (by omega)
    rw [hs, hcv] at this
    simp at this
  · refine ⟨b, o, rv, hv, rfl, hrep, fun W hW => ?_⟩
    have cel : ∀ i u, i < 5 → cs[i]? = some u → W.cell? ⟨b, o + j * 5 + i, none⟩ = some u := fun i u hi hu => by
      have h5 := hc (j * 5 + i) u ((g i hi).trans hu)
      rw [show o + (j * 5 + i) = o + j * 5 + i by omega] at h5
      simp [World.cell?, hW b _ hb, h5]
    exact ⟨cel 0 _ (by omega) (by rw [hcv]; rfl), cel 1 _ (by omega) (by rw [hcv]; rfl), cel 2 _ (by omega) (by rw [hcv]; rfl), cel 3 _ (by omega) (by rw [hcv]; rfl), cel 4 _ (by omega) (by rw [hcv]; rfl)⟩


set_option maxRecDepth 100000 in
set_option maxHeartbeats 1000000 in
/-- views of like lists. -/
theorem views_any (G : Gh) (v v' : Value) (l : List Reply) (w : World) (hG : Holds G w) (h : RepsAt G v l) (h' : RepsAt G v' l) (hl : l.length ≤ 1000000) :
    Calls Tryz.prog 29 #[v, v'] w fun e w' => e = .returned (.bool true) ∧ Below w.heap.size w w' := by
  obtain ⟨A, c, hv, hc, hs⟩ := reps_at h
  obtain ⟨A', c', hv', hc', hs'⟩ := reps_at h'
  subst hv hv'
  have HV := Lib.hid hs
  have HV' := Lib.hid hs'
  have HG := Lib.hid hG
  have HSame := Lib.hid (fun (u : World) (a : Reply) (ra ha rb hb : Value) (hG : Holds G u) (h1 : RepAt G ra ha a) (h2 : RepAt G rb hb a) => same_any G a a ra ha rb hb u hG h1 h2)
  have esr : ∀ a, sameRep a a = true := fun a => sameRep_iff.2 rfl
  simp only [esr] at HSame
  clear esr
  clear hs hs' h h' hG
  generalize hn : l.length = n at *
  go_enter Tryz.func29, Tryz.ntmps29
  go_wp2
  go_loopw [13] (fun i wr => ∃ k : Nat, k ≤ n ∧ i = .int .i64 k ∧ Below w.heap.size w wr) (fun i _ => n - (RowKit.intOf i).toNat)
  case atStart => exact ⟨0, Nat.zero_le _, by simp, Below.refl _ _⟩
  case round =>
    obtain ⟨k, hk, rfl, hb⟩ := hrel
    by_cases hkn : k = n
    · subst hkn
      have HB := Lib.hid hb
      clear hb
      go_wp2
      go_ret
      exact ⟨rfl, HB.out⟩
    · obtain ⟨x, hx⟩ : ∃ x, l[k]? = some x := ⟨l[k]'(by omega), List.getElem?_eq_getElem _⟩
      have hklt : k < n := by omega
      have hk1 : (k : Int) < (n : Int) := by omega
      have hk0 : (0 : Int) ≤ (k : Int) := Int.natCast_nonneg _
      obtain ⟨b1, o1, rv1, hv1, rfl, hr1, hc1⟩ := HV.out k x hx
      obtain ⟨b2, o2, rv2, hv2, rfl, hr2, hc2⟩ := HV'.out k x hx
      obtain ⟨q0, q1, q2, q3, q4⟩ := hc1 _ (HG.out.below hb)
      obtain ⟨r0, r1, r2, r3, r4⟩ := hc2 _ (HG.out.below hb)
      have HS := Lib.hid (fun nn => HSame.out _ x rv1 hv1 rv2 hv2 ((HG.out.below hb).drewN nn) hr1 hr2)
      have HB := Lib.hid hb
      clear hb hc1 hc2 hr1 hr2 hx hkn
      go_wp2
      refine wp_region_still_tail 8 (by kernel_rfl) (by kernel_rfl) ?_
      change wpStill _ _ wr.drew (fun a' => wpList _ _ _ _ a' wr.drew) _ _
      simp only [List.take_succ_cons, List.take_zero, List.drop_succ_cons, List.drop_zero]
      iterate 8 still_step
      refine wpStill_nil ?_
      go_wp2_with (go_at_call 21; go_loud (refine (HS.out 1).mono ?_; rintro e w2 ⟨rfl, hb2⟩; have hb3 := Lib.hid ((HB.out.trans (Below.of_drewN _ wr 1)).trans (Below.mono hb2 HB.out.size))))
      go_roundw
      case rel => exact ⟨k + 1, by omega, by go_num, hb3.out⟩
      case measure => simp [RowKit.intOf]; omega
end Go.Ju

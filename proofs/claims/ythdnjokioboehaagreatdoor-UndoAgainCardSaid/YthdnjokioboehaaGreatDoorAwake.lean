/- 'awake'. -/
import Derived.Test.YthdnjokioboehaaGreatDoorStage
namespace Go.Ju
open Go.RowKit
open Go.Proofs
open Go.ChangeMaps

def awK : Key := (⟨#[97]⟩, ⟨#[116]⟩)
def awR (n : Int) : List Val := [⟨1, n, ⟨#[]⟩⟩]
def awV (t n : Int) : Ver := ⟨t, false, awR n⟩
def aw1 : St := ⟨0, [(awK, ⟨[(1, ⟨[], false, some (awV 0 5), 1⟩)], 2⟩)], [], [(1, [⟨awK, 0, 1, none⟩])]⟩
def aw2 : St := ⟨1, [(awK, ⟨[(1, ⟨[awV 1 5], false, none, 1⟩)], 2⟩)], [], []⟩
def aw3 : St := ⟨1, [(awK, ⟨[(1, ⟨[awV 1 5], false, some (awV 0 6), 2⟩)], 2⟩)], [], [(2, [⟨awK, 0, 1, none⟩])]⟩
theorem aw_add : St.empty.addA awK 1 (awR 5) = (aw1, 1, 0) := by kernel_rfl
theorem aw_at0 : aw1.atA awK 0 2 = ([], 0) := by kernel_rfl
theorem aw_commit : aw1.commitA 1 = (aw2, 1, 0) := by kernel_rfl
theorem aw_put : aw2.putA awK 2 1 (awR 6) = (aw3, 0) := by kernel_rfl
theorem aw_at1 : aw3.atA awK 1 0 = ([(1, awR 5)], 0) := by kernel_rfl
theorem aw_at2 : aw3.atA awK 1 2 = ([(1, awR 6)], 0) := by kernel_rfl
theorem aw_put3 : aw3.putA awK 3 1 (awR 7) = (aw3, 27) := by kernel_rfl
theorem aw_last : aw3.lastA awK 1 = (1, 2, 0) := by kernel_rfl
theorem aw_at3 : aw3.atA awK 2 0 = ([], 21) := by kernel_rfl
theorem imageA_of {M : St} {ks : List Key} (time : Int) (h : sortK (M.tabs.map Prod.fst) = ks) : M.imageA time =
    if decide (time < 0) || decide (M.time < time) then (⟨0, []⟩, 21)
    else if ks.all (M.toldF time) then (⟨time, ks.filterMap (M.storedF time)⟩, 0) else (⟨0, []⟩, 26) := by
  subst h; rfl
theorem aw_image : aw3.imageA 1 = (⟨1, [⟨awK, [(1, awR 5)], 2⟩]⟩, 0) := (imageA_of (M := aw3) (ks := [awK]) 1 (show sortK [awK] = [awK] by simp [sortK])).trans (by kernel_rfl)

section
variable {w0 u : World} {p n : Nat} {M : St} {G : Gh}
theorem RowFor.new {w' : World} {rv : Value} {Gr : Gh} {l : List Val} (hh : Holds Gr w') (hr : RowAt Gr rv l) (hs : Sub Gr G) (hl : l.length ≤ 30) : RowFor w0 G w' rv l :=
  ⟨Gr, ⟨hh, hr, fun c hc => by
    obtain ⟨A, c', h1, _, h2⟩ := hr
    rw [hc] at h1
    injection h1 with a1 a2 a3
    subst a1
    rw [Span.none_nil h2 |> fun e => (by have := rowCells_len l; rw [e] at this; simp at this; omega : l.length = 0)], by omega⟩, .inr hs⟩
theorem Stage.one (h : Stage w0 p n M G u) (k : Int) : Calls Tryz.prog 37 #[.int .i64 k] u fun e u' => ∃ rv G', e = .returned rv ∧ Stage w0 p n M G' u' ∧ Sub G G' ∧ RowFor w0 G' u' rv [⟨1, k, ⟨#[]⟩⟩] := by
  refine (one_any k u).mono ?_
  rintro e u' ⟨v, Gr, rfl, hb, hr, hf, hrow⟩
  obtain ⟨h1, h2, h3⟩ := h.more hb hr hf
  exact ⟨v, _, rfl, h1, h2, .new hr hrow h3 (by show 1 ≤ 30; omega)⟩
theorem holds_sub {G G' : Gh} {w : World} (h : Holds G' w) (s : Sub G G') : Holds G w := fun b o hb => h b o (s b o hb)
/-- What is held of one row. -/
theorem held1 {G : Gh} {v : Value} {k m : Int} (h : HeldsAt G G v [(k, [⟨1, m, ⟨#[]⟩⟩])]) : ∃ b c b' o' c', v = .slice (some ⟨b, 0, none⟩) 1 c ∧ 1 ≤ c ∧ 1 ≤ c' ∧ ∀ W, Holds G W → W.cell? ⟨b, 1, none⟩ = some (.slice (some ⟨b', o', none⟩) 1 c') ∧ W.cell? ⟨b', o' + 1, none⟩ = some (.int .i64 m) := by
  obtain ⟨A, c, h1, h2, h3⟩ := held_at h
  obtain ⟨b, rv, rfl, h4, h5⟩ := h3 0 _ rfl
  obtain ⟨A', c', rfl, h6, h7⟩ := h4
  have h8 : ∀ W, Holds G W → ∃ b' o', A' = some ⟨b', o', none⟩ ∧ W.cell? ⟨b', o' + 1, none⟩ = some (.int .i64 m) := fun W hW => by
    obtain ⟨b', o', e, _, _, h9, _⟩ := h7.val hW (k := 0) (v := ⟨1, m, ⟨#[]⟩⟩) rfl
    exact ⟨b', o', e, by simpa using h9⟩
  cases A' with
  | none => exact ⟨b, c, 0, 0, c', h1, h2, h6, fun W hW => by obtain ⟨_, _, e, _⟩ := h8 W hW; cases e⟩
  | some a =>
    obtain ⟨ab, ao, af⟩ := a
    refine ⟨b, c, ab, ao, c', h1, h2, h6, fun W hW => ?_⟩
    obtain ⟨_, _, e, h10⟩ := h8 W hW
    cases e
    have := (h5 W hW).2
    rw [show 0 * 2 + 1 = 1 from rfl] at this
    exact ⟨this, h10⟩
theorem heldsNil {G : Gh} {v : Value} (h : HeldsAt G G v []) : ∃ A c, v = .slice A 0 c := by
  obtain ⟨A, c, h1, _, _⟩ := held_at h
  exact ⟨A, c, h1⟩
theorem stored1 {G : Gh} {v : Value} {x : StoredM} (h : StoredsAt G G v [x]) : ∃ b c, v = .slice (some ⟨b, 0, none⟩) 1 c ∧ 1 ≤ c ∧ ∀ W, Holds G W → W.cell? ⟨b, 3, none⟩ = some (.int .i64 x.next) := by
  obtain ⟨A, c, h1, h2, h3⟩ := stored_at h
  obtain ⟨b, hv, rfl, _, h5⟩ := h3 0 _ rfl
  exact ⟨b, c, h1, h2, fun W hW => (h5 W hW).2.2.2⟩
end

set_option maxRecDepth 100000 in
set_option maxHeartbeats 1000000 in
theorem awake_any (w : World) (hn : Nul w) : Calls Tryz.prog 13 #[] w fun e w' => e = .returned (.bool true) ∧ Below w.heap.size w w' := by
  have HNew := Lib.hid (stage_new (w0 := w) (u := w) (G := Gh.nil) (Below.refl _ _) (Holds.nil w))
  have HOne := Lib.hid (fun (M : St) (n p : Nat) (G : Gh) (u : World) (h : Stage w p n M G u) => h.one)
  have HAdd := Lib.hid (fun (p : Nat) (G : Gh) (u : World) (h : Stage w p 0 St.empty G u) (rv : Value) (hr : RowFor w G u rv (awR 5)) => (by have := h.add (by omega) hn awK 1 hr; rw [aw_add] at this; exact this : Calls Tryz.prog 36 #[ptr p, .string ⟨#[97]⟩, .string ⟨#[116]⟩, .int .i64 1, rv] u (fun e u' => e = .returned (.tuple #[.int .i64 1, .int .i64 0]) ∧ Stage w p 2 aw1 G u')))
  have HAt0 := Lib.hid (fun (p : Nat) (G : Gh) (u : World) (h : Stage w p 2 aw1 G u) => (by have := h.at (by omega) awK 0 2; rw [aw_at0] at this; exact this : Calls Tryz.prog 30 #[ptr p, .string ⟨#[97]⟩, .string ⟨#[116]⟩, .int .i64 0, .int .i64 2] u (AtIs w p 2 aw1 G ([], 0))))
  have HCom := Lib.hid (fun (p : Nat) (G : Gh) (u : World) (h : Stage w p 2 aw1 G u) => (by have := h.commit (by omega) 1; rw [aw_commit] at this; exact this : Calls Tryz.prog 34 #[ptr p, .int .i64 1] u (fun e u' => e = .returned (.tuple #[.int .i64 1, .int .i64 0]) ∧ Stage w p 2 aw2 G u')))
  have HPut := Lib.hid (fun (p : Nat) (G : Gh) (u : World) (h : Stage w p 2 aw2 G u) (rv : Value) (hr : RowFor w G u rv (awR 6)) => (by have := h.put (by omega) hn awK 2 1 (okI_of (by decide) (by decide)) hr; rw [aw_put] at this; exact this : Calls Tryz.prog 38 #[ptr p, .string ⟨#[97]⟩, .string ⟨#[116]⟩, .int .i64 2, .int .i64 1, rv] u (fun e u' => e = .returned (.int .i64 0) ∧ Stage w p 4 aw3 G u')))
  have HAt1 := Lib.hid (fun (p : Nat) (G : Gh) (u : World) (h : Stage w p 4 aw3 G u) => (by have := h.at (by omega) awK 1 0; rw [aw_at1] at this; exact this : Calls Tryz.prog 30 #[ptr p, .string ⟨#[97]⟩, .string ⟨#[116]⟩, .int .i64 1, .int .i64 0] u (AtIs w p 4 aw3 G ([(1, awR 5)], 0))))
  have HAt2 := Lib.hid (fun (p : Nat) (G : Gh) (u : World) (h : Stage w p 4 aw3 G u) => (by have := h.at (by omega) awK 1 2; rw [aw_at2] at this; exact this : Calls Tryz.prog 30 #[ptr p, .string ⟨#[97]⟩, .string ⟨#[116]⟩, .int .i64 1, .int .i64 2] u (AtIs w p 4 aw3 G ([(1, awR 6)], 0))))
  have HPut3 := Lib.hid (fun (p : Nat) (G : Gh) (u : World) (h : Stage w p 4 aw3 G u) (rv : Value) (hr : RowFor w G u rv (awR 7)) => (by have := h.put (by omega) hn awK 3 1 (okI_of (by decide) (by decide)) hr; rw [aw_put3] at this; exact this : Calls Tryz.prog 38 #[ptr p, .string ⟨#[97]⟩, .string ⟨#[116]⟩, .int .i64 3, .int .i64 1, rv] u (fun e u' => e = .returned (.int .i64 27) ∧ Stage w p 6 aw3 G u')))
  have HLast := Lib.hid (fun (p : Nat) (G : Gh) (u : World) (h : Stage w p 6 aw3 G u) => (by have := h.last awK 1 (okI_of (by decide) (by decide)); rw [aw_last] at this; exact this : Calls Tryz.prog 39 #[ptr p, .string ⟨#[97]⟩, .string ⟨#[116]⟩, .int .i64 1] u (fun e u' => e = .returned (.tuple #[.int .i64 1, .int .i64 2, .int .i64 0]) ∧ Stage w p 6 aw3 G u')))
  have HImg := Lib.hid (fun (p : Nat) (G : Gh) (u : World) (h : Stage w p 6 aw3 G u) => (by have := h.image (by omega) 1; rw [aw_image] at this; exact this : Calls Tryz.prog 15 #[ptr p, .int .i64 1] u (ImgIs w p 6 aw3 G (⟨1, [⟨awK, [(1, awR 5)], 2⟩]⟩, 0))))
  have HAt3 := Lib.hid (fun (p : Nat) (G : Gh) (u : World) (h : Stage w p 6 aw3 G u) => (by have := h.at (by omega) awK 2 0; rw [aw_at3] at this; exact this : Calls Tryz.prog 30 #[ptr p, .string ⟨#[97]⟩, .string ⟨#[116]⟩, .int .i64 2, .int .i64 0] u (AtIs w p 6 aw3 G ([], 21))))
  have HTime := Lib.hid (fun (p : Nat) (G : Gh) (u : World) (h : Stage w p 6 aw3 G u) => (by have := h.time; rw [show aw3.time = 1 from rfl] at this; exact this : Calls Tryz.prog 17 #[ptr p] u (fun e u' => e = .returned (.int .i64 1) ∧ u = u')))
  have HB := Lib.hid (fun (p n : Nat) (M : St) (G : Gh) (u : World) (h : Stage w p n M G u) => h.below)
  unfold ptr awK awR at *
  go_enter Tryz.func13, Tryz.ntmps13
  have s0 := Lib.hid trivial
  go_wp2_with (first
    | (go_at_call 19; clear s0; refine HNew.out.mono ?_; rintro e u0 ⟨p, rfl, hS⟩; replace hS := Lib.hid hS; have s1 := Lib.hid trivial)
    | (go_at_call 37; clear s1; refine (HOne.out _ _ _ _ _ hS.out _).mono ?_; rintro e u1 ⟨rv, G', rfl, hS', hs, hr⟩; replace hS := Lib.hid hS'; clear hS'; replace hr := Lib.hid hr; clear hs; have s2 := Lib.hid trivial)
    | (go_at_call 36; clear s2; refine (HAdd.out _ _ _ hS.out _ hr.out).mono ?_; clear hr; rintro e u1 ⟨rfl, hS'⟩; replace hS := Lib.hid hS'; clear hS'; have s3 := Lib.hid trivial)
    | (go_at_call 30; clear s3; refine (HAt0.out _ _ _ hS.out).mono ?_; rintro e u1 ⟨v0, G', rfl, hS', hs, h0⟩; replace hS := Lib.hid hS'; clear hS' hs; obtain ⟨A0, c0, rfl⟩ := heldsNil h0; clear h0; have s4 := Lib.hid trivial)
    | (go_at_call 34; clear s4; refine (HCom.out _ _ _ hS.out).mono ?_; rintro e u1 ⟨rfl, hS'⟩; replace hS := Lib.hid hS'; clear hS'; have s5 := Lib.hid trivial)
    | (go_at_call 37; clear s5; refine (HOne.out _ _ _ _ _ hS.out _).mono ?_; rintro e u1 ⟨rv, G', rfl, hS', hs, hr⟩; replace hS := Lib.hid hS'; clear hS'; replace hr := Lib.hid hr; clear hs; have s6 := Lib.hid trivial)
    | (go_at_call 38; clear s6; refine (HPut.out _ _ _ hS.out _ hr.out).mono ?_; clear hr; rintro e u1 ⟨rfl, hS'⟩; replace hS := Lib.hid hS'; clear hS'; have s7 := Lib.hid trivial)
    | (go_at_call 30; clear s7; refine (HAt1.out _ _ _ hS.out).mono ?_; rintro e u1 ⟨v1, G1, rfl, hS', hs, h1⟩; replace hS := Lib.hid hS'; clear hS' hs; obtain ⟨b1, c1, b1', o1, c1', rfl, hc1, hc1', h1⟩ := held1 h1; replace h1 := Lib.hid h1; have h1s := Lib.hid (Sub.refl G1); have s8 := Lib.hid trivial)
    | (go_at_call 30; clear s8; refine (HAt2.out _ _ _ hS.out).mono ?_; rintro e u1 ⟨v2, G2, rfl, hS', hs, h2⟩; replace hS := Lib.hid hS'; clear hS'; obtain ⟨b2, c2, b2', o2, c2', rfl, hc2, hc2', h2⟩ := held1 h2; replace h2 := Lib.hid h2; replace h1s := Lib.hid (h1s.out.trans hs); have h2s := Lib.hid (Sub.refl G2); clear hs; have s9 := Lib.hid trivial)
    | (go_at_call 37; clear s9; refine (HOne.out _ _ _ _ _ hS.out _).mono ?_; rintro e u1 ⟨rv, G', rfl, hS', hs, hr⟩; replace hS := Lib.hid hS'; clear hS'; replace hr := Lib.hid hr; replace h1s := Lib.hid (h1s.out.trans hs); replace h2s := Lib.hid (h2s.out.trans hs); clear hs; have s10 := Lib.hid trivial)
    | (go_at_call 38; clear s10; refine (HPut3.out _ _ _ hS.out _ hr.out).mono ?_; clear hr; rintro e u1 ⟨rfl, hS'⟩; replace hS := Lib.hid hS'; clear hS'; have s11 := Lib.hid trivial)
    | (go_at_call 39; clear s11; refine (HLast.out _ _ _ hS.out).mono ?_; rintro e u1 ⟨rfl, hS'⟩; replace hS := Lib.hid hS'; clear hS'; have s12 := Lib.hid trivial)
    | (go_at_call 15; clear s12; refine (HImg.out _ _ _ hS.out).mono ?_; rintro e ui ⟨v3, G3, rfl, hS', hs, h3⟩; replace hS := Lib.hid hS'; clear hS'; obtain ⟨b3, c3, rfl, hc3, h3⟩ := stored1 h3; replace h3 := Lib.hid h3; replace h1s := Lib.hid (h1s.out.trans hs); replace h2s := Lib.hid (h2s.out.trans hs); clear hs; have s13 := Lib.hid trivial)
    | (go_at_call 30; clear s13; refine (HAt3.out _ _ _ (hS.out.alloc _)).mono ?_; rintro e u1 ⟨v3, G3', rfl, hS', hs, h4⟩; have hg3 := (Sub.put_new hS.out.holds _).trans hs; have hq0 := hs _ _ (Gh.put_same _ _ _); replace hS := Lib.hid hS'; obtain ⟨q1, q2⟩ := h1.out u1 (holds_sub hS'.holds (h1s.out.trans hg3)); obtain ⟨q3, q4⟩ := h2.out u1 (holds_sub hS'.holds (h2s.out.trans hg3)); have q5 := h3.out u1 (holds_sub hS'.holds hg3); have q6 := hS'.holds.cell (i := 1) hq0 rfl; obtain ⟨A5, c5, rfl⟩ := heldsNil h4; clear hS' hs h4 hg3 hq0 h1 h2 h3 h1s h2s; have s14 := Lib.hid trivial)
    | (go_at_call 17; clear s14; refine (HTime.out _ _ _ hS.out).mono ?_; rintro e u1 ⟨rfl, rfl⟩; have s15 := Lib.hid trivial))
  go_ret
  exact ⟨rfl, HB.out _ _ _ _ _ hS.out⟩
end Go.Ju

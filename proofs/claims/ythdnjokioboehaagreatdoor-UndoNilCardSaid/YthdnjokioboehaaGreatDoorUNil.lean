/- UndoNil: the walk. -/
import Derived.Test.YthdnjokioboehaaGreatDoorDo
import Derived.Test.YthdnjokioboehaaGreatDoorAwake
namespace Go.Ju
open Go.RowKit
open Go.Proofs
open Go.ChangeMaps

theorem nilRepAt (G : Gh) : RepAt G (.slice none 0 0) (.slice none 0 0) nilRep := ⟨RowAt.nil _, HeldsAt.nil _ _, by show 0 ≤ _; omega, HeldSmall.nil⟩
theorem below_lt {w w1 : World} {o : Obj} (h : Below (w.alloc o).heap.size (w.alloc o) w1) : w.heap.size < w1.heap.size := by
  have := h.size
  rw [World.size_alloc] at this
  exact this
theorem below_next {w w1 w2 : World} {o : Obj} (h1 : Below w.heap.size w w1) (h2 : Below (w1.alloc o).heap.size (w1.alloc o) w2) : Below w.heap.size w w2 :=
  (h1.alloc h1.size o).trans (h2.mono (by have := h1.size; rw [World.size_alloc]; omega))
theorem cells7 {W : World} {s : Nat} {a : ActM} {rv : Value} {G : Gh} (h : Holds (G.put s (actObj a rv)) W) : W.cell? ⟨s, 0, none⟩ = some (.int .i64 a.op) ∧ W.cell? ⟨s, 1, none⟩ = some (.string a.key.1) ∧ W.cell? ⟨s, 2, none⟩ = some (.string a.key.2) ∧ W.cell? ⟨s, 3, none⟩ = some (.int .i64 a.txn) ∧ W.cell? ⟨s, 4, none⟩ = some (.int .i64 a.id) ∧ W.cell? ⟨s, 5, none⟩ = some (.int .i64 a.n) ∧ W.cell? ⟨s, 6, none⟩ = some rv :=
  ⟨h.cell (Gh.put_same _ _ _) rfl, h.cell (Gh.put_same _ _ _) rfl, h.cell (Gh.put_same _ _ _) rfl, h.cell (Gh.put_same _ _ _) rfl, h.cell (Gh.put_same _ _ _) rfl, h.cell (Gh.put_same _ _ _) rfl, h.cell (Gh.put_same _ _ _) rfl⟩
theorem imgSmallNil : ImgSmall [] := ⟨by simp, by simp⟩
set_option maxRecDepth 100000 in
set_option maxHeartbeats 1000000 in
theorem undoNil_any (a : ActM) (A : Option Addr) (l c : Nat) (n : Int) (w : World) (hn : Nul w) :
    Calls Tryz.prog 5 #[actVal a (.slice A l c), .int .i64 n] w fun e w' => e = .returned (.bool true) ∧ Below w.heap.size w w' := by
  have HImg := Lib.hid (image_nil n)
  have HDo := Lib.hid (fun u => do_nil u a A l c)
  have HSame := Lib.hid (fun u => same_any Gh.nil nilRep nilRep (.slice none 0 0) (.slice none 0 0) (.slice none 0 0) (.slice none 0 0) u (Holds.nil u) (nilRepAt _) (nilRepAt _))
  have HSI := Lib.hid (fun u => sameImage_any Gh.nil ⟨0, []⟩ ⟨0, []⟩ (.slice none 0 0) (.slice none 0 0) u (Holds.nil u) (StoredsAt.nil _ _) (StoredsAt.nil _ _) imgSmallNil imgSmallNil)
  have HTime := Lib.hid time_nil
  have HAw := Lib.hid awake_any
  have e1 : sameRep nilRep nilRep = true := sameRep_iff.2 rfl
  have e2 : sameImg ⟨0, []⟩ ⟨0, []⟩ = true := rfl
  rw [e1] at HSame
  rw [e2] at HSI
  have hb0 : Below w.heap.size w (w.alloc (actObj a (.slice A l c))) := (Below.refl _ _).alloc (Nat.le_refl _) _
  have HN := Lib.hid (fun (W : World) (h : Below w.heap.size w W) => hn.below h)
  have HB0 := Lib.hid hb0
  have HH := Lib.hid ((Holds.nil w).alloc (actObj a (.slice A l c)))
  clear e1 e2 hb0 hn
  unfold actVal actObj repVal nilRep at *
  go_enter Tryz.func5, Tryz.ntmps5
  go_wp2_with (first
    | (go_at_call 15; go_loud (refine (HImg.out _).mono ?_; rintro e w1 ⟨rfl, hb1⟩; have hl1 := below_lt hb1; have hG1 := HH.out.below hb1; obtain ⟨a0, a1, a2, a3, a4, a5, a6⟩ := cells7 (a := a) (rv := .slice A l c) hG1; replace hb1 := Lib.hid (HB0.out.trans (hb1.mono HB0.out.size)); replace hG1 := Lib.hid hG1))
    | (go_at_call 22; refine (HDo.out _).mono ?_; rintro e w2 ⟨rfl, hb2⟩; have hG2 := (hG1.out.alloc (.cells #[.int .i64 0, .slice none 0 0] 24)).below hb2; replace hb2 := Lib.hid (below_next hb1.out hb2); replace hG2 := Lib.hid hG2; clear a0 a1 a2 a3 a4 a5 a6 hb1)
    | (go_at_call 21; refine (HSame.out _).mono ?_; rintro e w3 ⟨rfl, hb3⟩; have hG3 := (hG2.out.below ((Below.refl _ _).alloc (Nat.le_refl _) _)).below hb3; have i0 := hG3.cell (i := 0) (Gh.put_same _ _ _) rfl; have i1 := hG3.cell (i := 1) (Gh.put_same _ _ _) rfl; replace hb3 := Lib.hid (below_next hb2.out hb3); clear hb2 hG2 hG3)
    | (go_at_call 16; refine (HSI.out _).mono ?_; rintro e w4 ⟨rfl, hb4⟩; replace hb4 := Lib.hid (hb3.out.trans (hb4.mono hb3.out.size)); clear hb3 i0 i1)
    | (go_at_call 17; refine (HTime.out _).mono ?_; rintro e w5 ⟨rfl, rfl⟩)
    | (go_at_call 13; refine (HAw.out _ (HN.out _ hb4.out)).mono ?_; rintro e w6 ⟨rfl, hb6⟩; replace hb6 := Lib.hid (hb4.out.trans (hb6.mono hb4.out.size))))
  go_ret
  exact ⟨rfl, hb6.out⟩
end Go.Ju

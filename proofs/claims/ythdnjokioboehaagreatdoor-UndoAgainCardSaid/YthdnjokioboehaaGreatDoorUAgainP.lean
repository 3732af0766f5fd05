/- UndoAgain: the walk, the row and the card. -/
import Derived.Test.YthdnjokioboehaaGreatDoorLoadLaw
import Derived.Test.YthdnjokioboehaaGreatDoorAwake
import Derived.Test.YthdnjokioboehaaGreatDoorTie
import Derived.Test.YthdnjokioboehaaGreatDoorCards
namespace Go.Ju
open Go.RowKit
open Go.Proofs
open Go.ChangeMaps

theorem LoadSt.stage {w0 u : World} {p n : Nat} {M : St} {G : Gh} (h : LoadSt w0 p M G u) (hi : Inv n M) : Stage w0 p n M G u := by
  obtain ⟨y, g, h1, h2, h3, h5⟩ := h
  exact ⟨y, g, h1, h2, h3, hi, h5⟩
set_option maxRecDepth 100000 in
set_option maxHeartbeats 2000000 in
theorem undoAgain_any {Ga : Gh} {v : Value} {i : Img} (w : World) (hn : Nul w) (hGa : Holds Ga w) (h : ImgIn Ga v i) :
    Calls Tryz.prog 3 #[v] w fun e w' => e = .returned (.bool true) ∧ Below w.heap.size w w' := by
  have HFew := Lib.hid (fun (u : World) (hu : Below w.heap.size w u) => fewI_any Ga v i u (hGa.below hu) h)
  have HAw := Lib.hid (fun (u : World) (hu : Below w.heap.size w u) => awake_any u (hn.below hu))
  have HLoad := Lib.hid (fun (u : World) (hu : Below w.heap.size w u) => load_any Ga v i u (hGa.below hu) h (hn.below hu))
  obtain ⟨tv, rfl, hin, hfit⟩ := h
  obtain ⟨A, c, hv, hc, -⟩ := stored_in hin
  subst hv
  have hbx := Lib.hid ((Below.refl w.heap.size w).alloc (Nat.le_refl _) (.cells #[.int .i64 i.time, .slice A i.tabs.length c] 24))
  have HBx := Lib.hid (fun (W : World) (hW : Below (w.alloc (.cells #[.int .i64 i.time, .slice A i.tabs.length c] 24)).heap.size (w.alloc (.cells #[.int .i64 i.time, .slice A i.tabs.length c] 24)) W) => And.intro ((((Holds.nil w).alloc (.cells #[.int .i64 i.time, .slice A i.tabs.length c] 24)).below hW).cell (i := 0) (Gh.put_same _ _ _) rfl) ((((Holds.nil w).alloc (.cells #[.int .i64 i.time, .slice A i.tabs.length c] 24)).below hW).cell (i := 1) (Gh.put_same _ _ _) rfl))
  have HGa := Lib.hid hGa
  have HIn := Lib.hid hin
  clear hn hGa hin hfit
  generalize hnn : i.tabs.length = n at *
  go_enter Tryz.func3, Tryz.ntmps3
  go_wp2_with fail
  refine (HFew.out _ hbx.out).mono ?_
  rintro e w1 ⟨b, rfl, hfew, hb1⟩
  obtain ⟨q0, q1⟩ := HBx.out _ hb1
  have HB1 := Lib.hid (And.intro hb1 (hbx.out.trans (hb1.mono hbx.out.size)))
  clear hb1
  cases b with
  | false =>
    go_wp2_with (go_at_call 13; refine (HAw.out _ HB1.out.2).mono ?_; rintro e w2 ⟨rfl, hb2⟩; replace hb2 := Lib.hid (HB1.out.2.trans (hb2.mono HB1.out.2.size)))
    go_ret
    exact ⟨rfl, hb2.out⟩
  | true =>
    have HFw := Lib.hid (hfew rfl)
    clear hfew
    go_wp2_with fail
    refine (HLoad.out _ HB1.out.2).mono ?_
    rintro e w2 (⟨hi, rfl, hb2⟩ | ⟨hi, p, rfl, hS⟩)
    · replace hb2 := Lib.hid (HB1.out.2.trans (hb2.mono HB1.out.2.size))
      go_wp2_with (go_at_call 13; refine (HAw.out _ hb2.out).mono ?_; rintro e w3 ⟨rfl, hb3⟩; replace hb3 := Lib.hid (hb2.out.trans (hb3.mono hb2.out.size)))
      go_ret
      exact ⟨rfl, hb3.out⟩
    · have hSt := hS.stage (Inv.load hi (by rw [hnn]; exact HFw.out))
      have hb2 := HB1.out.1.trans (hS.below.mono HB1.out.1.size)
      obtain ⟨r0, r1⟩ := HBx.out _ hb2
      have himg := hSt.image (by omega) i.time
      rw [load_image hi] at himg
      have HImg := Lib.hid himg
      have HSm := Lib.hid (image_small hi (by rw [hnn]; exact HFw.out))
      have HB2 := Lib.hid (And.intro hb2 (HB1.out.2.trans (hS.below.mono HB1.out.2.size)))
      have HTime := Lib.hid (fun (W : World) (G : Gh) (h : Stage w1 p 2000 (loadM i) G W) => h.time)
      clear hS hSt hb2 himg q0 q1
      unfold ptr at *
      go_wp2_with (go_at_call 15; refine HImg.out.mono ?_; rintro e w3 ⟨tx, Gx, rfl, hS3, -, hin3⟩; obtain ⟨Ax, cx, hvx, -, -⟩ := stored_at hin3; dsimp only at hvx; rw [hnn] at hvx; subst hvx; obtain ⟨r0, r1⟩ := HBx.out _ (HB1.out.1.trans (hS3.below.mono HB1.out.1.size)); replace hS3 := Lib.hid hS3; replace hin3 := Lib.hid hin3)
      have HK0 : Hid (Below (w.alloc (.cells #[.int .i64 i.time, .slice A n c] 24)).heap.size (w.alloc (.cells #[.int .i64 i.time, .slice A n c] 24)) (w3.alloc (.cells #[.int .i64 i.time, .slice Ax n cx] 24)) ∧ Stage w1 p 2000 (loadM i) (Gx.put w3.heap.size (.cells #[.int .i64 i.time, .slice Ax n cx] 24)) (w3.alloc (.cells #[.int .i64 i.time, .slice Ax n cx] 24))) :=
        ⟨HB1.out.1.trans ((hS3.out.alloc (.cells #[.int .i64 i.time, .slice Ax n cx] 24)).below.mono HB1.out.1.size), hS3.out.alloc _⟩
      have HSub3 := Lib.hid (Sub.put_new hS3.out.holds (.cells #[.int .i64 i.time, .slice Ax n cx] 24))
      refine World.abs (fun u => Below (w.alloc (.cells #[.int .i64 i.time, .slice A n c] 24)).heap.size (w.alloc (.cells #[.int .i64 i.time, .slice A n c] 24)) u ∧ Stage w1 p 2000 (loadM i) (Gx.put w3.heap.size (.cells #[.int .i64 i.time, .slice Ax n cx] 24)) u) HK0.out ?_
      rintro u ⟨hu1, hu2⟩
      have hXc : ∀ W G', Stage w1 p 2000 (loadM i) (Gx.put w3.heap.size (.cells #[.int .i64 i.time, .slice Ax n cx] 24)) W → G' = Gx.put w3.heap.size (.cells #[.int .i64 i.time, .slice Ax n cx] 24) → W.cell? ⟨w3.heap.size, 0, none⟩ = some (.int .i64 i.time) ∧ W.cell? ⟨w3.heap.size, 1, none⟩ = some (.slice Ax n cx) := fun W G' hW _ => ⟨hW.holds.cell (Gh.put_same _ _ _) rfl, hW.holds.cell (Gh.put_same _ _ _) rfl⟩
      have HXc := Lib.hid hXc
      have HSI : Hid (∀ W, Stage w1 p 2000 (loadM i) (Gx.put w3.heap.size (.cells #[.int .i64 i.time, .slice Ax n cx] 24)) W → Calls Tryz.prog 16 #[.agg #[.int .i64 i.time, .slice Ax n cx], .agg #[.int .i64 i.time, .slice A n c]] W fun e w' => e = .returned (.bool true) ∧ Below W.heap.size W w') := fun W hW => by
        have hGa1 : Holds Ga W := HGa.out.below (HB1.out.2.trans (hW.below.mono HB1.out.2.size))
        obtain ⟨k1, k2, k3⟩ := holds_or hW.holds hGa1
        have := sameImageIn_any _ i i _ _ W k1 ((hin3.out.read).sub (HSub3.out.trans k2)) (HIn.out.sub k3) HSm.out HSm.out
        rw [sameImg_iff.2 rfl] at this
        exact this
      have HA : Hid (∀ W, Stage w1 p 2000 (loadM i) (Gx.put w3.heap.size (.cells #[.int .i64 i.time, .slice Ax n cx] 24)) W → Calls Tryz.prog 13 #[] W fun e w' => e = .returned (.bool true) ∧ Below W.heap.size W w') := fun W hW => HAw.out _ (HB1.out.2.trans (hW.below.mono HB1.out.2.size))
      have HEnd := Lib.hid (fun (W : World) (hW : Stage w1 p 2000 (loadM i) (Gx.put w3.heap.size (.cells #[.int .i64 i.time, .slice Ax n cx] 24)) W) => HB1.out.2.trans (hW.below.mono HB1.out.2.size))
      obtain ⟨c0, c1⟩ := HBx.out _ hu1
      obtain ⟨c2, c3⟩ := hXc _ _ hu2 rfl
      have HTm := Lib.hid (fun (W : World) (hW : Stage w1 p 2000 (loadM i) (Gx.put w3.heap.size (.cells #[.int .i64 i.time, .slice Ax n cx] 24)) W) => HTime.out W _ hW)
      have HU := Lib.hid (And.intro hu1 hu2)
      generalize hGX : Gx.put w3.heap.size (.cells #[.int .i64 i.time, .slice Ax n cx] 24) = GX at *
      generalize hsx : w3.heap.size = sx at *
      clear hXc hu1 hu2 r0 r1 hGX hsx HK0 HSub3 hS3 hin3 HImg HTime
      go_wp2_with fail
      go_region_held3 (fun u' => u'.cell? ⟨w.heap.size, 0, none⟩ = some (.int .i64 i.time) ∧ u'.cell? ⟨w.heap.size, 1, none⟩ = some (.slice A n c) ∧ u'.cell? ⟨sx, 0, none⟩ = some (.int .i64 i.time) ∧ u'.cell? ⟨sx, 1, none⟩ = some (.slice Ax n cx))
        (go_keep)
        (first
          | (go_at_call 16; refine (HSI.out _ (HU.out.2.drewN 1)).mono ?_; rintro e u1 ⟨rfl, hb1⟩; have HU1 := Lib.hid (And.intro ((HU.out.1.trans (Below.of_drewN _ u 1)).trans (hb1.mono HU.out.1.size)) ((HU.out.2.drewN 1).step hb1)); obtain ⟨e0, e1⟩ := HBx.out _ HU1.out.1; obtain ⟨e2, e3⟩ := HXc.out _ _ HU1.out.2 rfl)
          | (go_at_call 17; refine (HTm.out _ HU1.out.2).mono ?_; rintro e u2 ⟨rfl, rfl⟩)
          | (go_at_call 13; refine (HA.out _ HU1.out.2).mono ?_; rintro e u3 ⟨rfl, hb3⟩; have HU3 := Lib.hid (And.intro (HU1.out.1.trans (hb3.mono HU1.out.1.size)) (HU1.out.2.step hb3)); obtain ⟨e4, e5⟩ := HBx.out _ HU3.out.1; obtain ⟨e6, e7⟩ := HXc.out _ _ HU3.out.2 rfl))
      all_goals
        go_wp2
        go_ret
        exact ⟨rfl, HEnd.out _ HU3.out.2⟩
end Go.Ju
namespace Go.Proofs.YthdnjokioboehaaGreatDoor
open Go.ChangeShapes Go.WideShapes Go.ChangeAt Go.RowKit

theorem own : ownKnob Tryz.prog.godebug = none := by kernel_rfl
theorem laidOut : laidOutB Tryz.prog = true := by kernel_rfl
/-- The door's own heap meets the condition. -/
theorem door_met (os : Os) (args : Array Value) : laidMetH Tryz.prog [("justiciar/value.Null", Rows.laid_justiciar_value_Null)] ((World.doorLaid Tryz.prog 400 os).forCall (fun _ _ => 0) ⟨#[], args, []⟩).memory :=
  laidMetH_of_parts3 (fuel := 8) (laidMet_of_run' 8 (by kernel_rfl) (by kernel_rfl)) (by kernel_rfl) (by kernel_rfl)

set_option maxRecDepth 100000 in
theorem undoAgain_lifted (os : Os) (started : os.Started) (H : Type) (enc : TypeId × Value → H) :
    ReturnsInHanded {} Tryz.checked os 3 .any (fun w args => (Rows.undoAgainSpec.pre enc Tryz.prog Tryz.f3 [] false w args ∧ laidMetH Tryz.prog [("justiciar/value.Null", Rows.laid_justiciar_value_Null)] w) ∧ sizedMet enc Tryz.prog Tryz.f3 (OpenSpec.ofChange Rows.undoAgainSpec) false w args)
      (Rows.undoAgainSpec.post enc Tryz.prog Tryz.f3 false true false false) := by
  refine returnsInHanded_of_change_and (C := Tryz.checked) (X := fun w _ => laidMetH Tryz.prog [("justiciar/value.Null", Rows.laid_justiciar_value_Null)] w) (fun _ _ _ hh h => h.of_heap hh) own started (by kernel_rfl) Tryz.func3
    (ChangeSpec.witness_shaped (enc := enc) (C := Tryz.checked) (os := os) (X := fun w _ => laidMetH Tryz.prog [("justiciar/value.Null", Rows.laid_justiciar_value_Null)] w) false (World.doorLaid Tryz.prog 400 os) #[.agg #[.int .i64 0, .slice none 0 0]] 8 rfl (World.shaped_of_RefB (by kernel_rfl) (by kernel_rfl)) (by kernel_rfl) (by kernel_rfl) (by kernel_rfl) (door_met os _)) ?_
  intro W base args ds gs before hval0 hW _ hsz0 hL _
  have hsz : (DataW.weightsEach Tryz.prog (Tryz.f3.params.toList ++ DataSpec.varTypes Tryz.prog Rows.undoAgainSpec.plain) (ds ++ gs)).all (· ≤ reachBytes) = true := hsz0
  have hval : ∀ (j : Nat) t v, Tryz.f3.params[j]? = some t → args[j]? = some v → Value.okWide Tryz.prog W .any base t v := hval0
  have hW' := hW
  obtain ⟨p, q, hA0, hV, rfl, hfz, hnd⟩ := hW
  have hA : DataW.TrodAll enc Tryz.prog W 0 (fun _ => true) true Tryz.f3.params.toList args.toList ds p := hA0
  rw [Tryz.params3] at hA hval hsz
  obtain ⟨v0, d0, rfl, rfl, h0⟩ := trodAll_one hA
  obtain ⟨rfl, rfl⟩ := trodVars_none hV
  have hlt : ∀ x ∈ p ++ [], x.block < W.heap.size := fun x hx => by simpa using hW'.lt x hx
  rw [List.all_eq_true] at hsz
  have hw0 : ∀ q ∈ d0.weights Tryz.prog 24, q ≤ reachBytes := fun q hq => of_decide_eq_true (hsz q (DataW.weights_mem_each (j := 0) rfl rfl q hq))
  obtain ⟨l0, hl0⟩ := Ju.open_image (hval 0 24 v0 rfl rfl) h0 hw0
  have hnul : Ju.Nul W := Ju.nul_cells hL
  refine (Ju.undoAgain_any W hnul (Ju.oldG_holds W) hl0).mono fun e W' ⟨he, hb⟩ => ?_
  subst he
  refine ⟨_, rfl, _, _, _, [], _, [], hW', trodAll_mk1 (shut_bool Tryz.underlying4 true), trodAll_mk1 (Below.trod laidOut (by kernel_rfl) (of_decide_eq_true (by kernel_rfl)) h0 hb (fun x hx => hlt x (by simp [hx]))), rfl, hb.frame _, fun h => by cases h⟩

theorem undoAgain_row : Rows.UndoAgainSaid :=
  OpenClaim.holds_of_wide 3 Tryz.f3 rfl rfl rfl rfl rfl rfl rfl ⟨rfl, rfl, rfl, rfl, rfl⟩ rfl rfl rfl rfl rfl (by kernel_rfl) Tryz.func3 (by kernel_rfl)
    (of_decide_eq_true (by kernel_rfl)) (by unfold Func.isWrapper; first | (rw [if_pos (by decide +kernel)]; kernel_rfl) | (rw [if_neg (by decide +kernel)]; exact ⟨rfl, rfl⟩))
    (fun os started H enc _ => undoAgain_lifted os started H enc)
theorem undoAgain_holds : Rows.UndoAgainCardSaid :=
  Claim7.holds_tied_plain_at .later [] [.data] true (true, "01d81894e8f79c17e99131f106419fb79536ab10904589b1f3322bca63321cb7") false
    undoAgain_row (fun _ h => by cases h) (by kernel_rfl) (fun _ h => by cases h) undoAgain_row_tie rfl ⟨rfl, rfl⟩ (by kernel_rfl) rfl
    (fun f fn hf hfn => by
      obtain rfl : f = 3 := Option.some.inj ((show Tryz.prog.funcNamed "justiciar/justiciarlaw16.UndoAgain" = some 3 by kernel_rfl).symm.trans hf) |>.symm
      obtain rfl : fn = Tryz.f3 := (Option.some.inj (Tryz.func3.symm.trans hfn)).symm
      exact ⟨by kernel_rfl, fun j t ht => by
        rw [Tryz.params3] at ht
        have hm : t ∈ [24] := by simpa using Array.mem_of_getElem? ht
        have hall : ([24].all fun u => !Tryz.prog.wantsStandIn u) = true := by kernel_rfl
        exact (show Tryz.prog.wantsStandIn t = false by simpa using List.all_eq_true.1 hall t hm)⟩)
    (by kernel_rfl)
#print axioms undoAgain_holds
end Go.Proofs.YthdnjokioboehaaGreatDoor

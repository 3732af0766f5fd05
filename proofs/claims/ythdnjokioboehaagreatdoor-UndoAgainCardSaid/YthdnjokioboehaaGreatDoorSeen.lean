/- 'seen', 'At'. -/
import Derived.Test.YthdnjokioboehaaGreatDoorSorted
import Derived.LoopN
namespace Go.Ju
open Go.RowKit
open Go.Proofs
open Go.ChangeMaps

/-- Three pieces that a call makes: a list that is walked, a list that grows, what its elements point to. -/
inductive P3 where
  | s | o | r
  deriving DecidableEq
def noP3 : P3 → Gh := fun _ => Gh.nil
theorem noP3.fam (w : World) : Fam w.heap.size noP3 w := ⟨fun _ => Holds.nil w, fun _ _ _ _ => .inl rfl, fun _ _ h => absurd rfl h, Nat.le_refl _⟩

def HeldIs (G : Gh) (h : Int × List Val) (cs : List Value) : Prop := ∃ rv, cs = [.int .i64 h.1, rv] ∧ RowAt G rv h.2
def HeldsAt (GO GR : Gh) (v : Value) (l : List (Int × List Val)) : Prop := ∃ css, All2 (HeldIs GR) l css ∧ Own GO 74 2 v l.length css.flatten
theorem HeldsAt.nil (GO GR : Gh) : HeldsAt GO GR (.slice none 0 0) [] := ⟨[], .nil, Own.nil _ _ _⟩
theorem HeldIs.sub {G G' : Gh} {h : Int × List Val} {cs : List Value} (k : HeldIs G h cs) (hs : Sub G G') : HeldIs G' h cs := by
  obtain ⟨rv, h1, h2⟩ := k
  exact ⟨rv, h1, h2.sub hs⟩
/-- What a reader sees of a row. -/
def heldF (time txn : Int) (p : Int × RowS) : Option (Int × List Val) := match (p.2.at time txn).1 with
  | none => none
  | some v => if v.gone then none else some (p.1, v.row)
def Tab.seenA (t : Tab) (time txn : Int) : List (Int × List Val) × Int := match t.seen time txn with
  | some l => (l, 0)
  | none => ([], 26)
theorem Tab.seen_eq (t : Tab) (time txn : Int) : t.seen time txn = if t.rows.all (fun p => (p.2.at time txn).2) then some (t.rows.filterMap (heldF time txn)) else none := rfl
theorem take_snoc {α : Type} {l : List α} {k : Nat} {x : α} (h : l[k]? = some x) : l.take (k + 1) = l.take k ++ [x] := by
  rw [List.take_add_one, h]; rfl
theorem sorted_ids {rows : List (Int × RowS)} {ss : List Int} (h : ss.Perm (rows.map Prod.fst)) (hs : (rows.map Prod.fst).Pairwise (· < ·)) : (ss.mergeSort fun x y => decide (x ≤ y)) = rows.map Prod.fst := by
  have h1 : (ss.mergeSort fun x y => decide (x ≤ y)).Perm (rows.map Prod.fst) := (List.mergeSort_perm ss _).trans h
  have h2 : (ss.mergeSort fun x y => decide (x ≤ y)).Pairwise (fun a b => decide (a ≤ b) = true) := List.pairwise_mergeSort (fun a b c h1 h2 => by simp at *; omega) (fun a b => by simp; omega) ss
  exact h1.eq_of_pairwise (le := (· ≤ ·)) (fun a b _ _ h1 h2 => by omega) (h2.imp (fun h => by simpa using h)) (hs.imp (fun h => by omega))
theorem Tryz.infoHeld : (Tryz.prog.info? 74).map (fun i => (i.zero, i.size, i.bytes)) = some (some (.agg #[.int .i64 0, .slice none 0 0]), 2, 32) := by kernel_rfl
/-- The bounds on rows' lengths. -/
def RowsFit (t : Tab) : Prop := ∀ i r v, (i, r) ∈ t.rows → v ∈ r.old ∨ r.opn = some v → v.row.length * 32 ≤ 140737488355328
theorem at_row {r : RowS} {time txn : Int} {v : Ver} (h : (r.at time txn).1 = some v) : v ∈ r.old ∨ r.opn = some v := by
  unfold RowS.at at h
  split at h
  · exact .inr h
  · split at h
    · rename_i x hx
      cases h
      unfold RowS.seenOld at hx
      exact .inl (List.mem_reverse.1 (List.mem_of_find?_eq_some hx))
    · cases h

set_option maxRecDepth 100000 in
set_option maxHeartbeats 1000000 in
theorem seen_any (G I : Gh) (gr : Int → Gh) (w : World) (b m : Nat) (t : Tab) (rb : Int → Nat) (time txn : Int) (hG : Holds G w) (hI : Holds I w) (hgr : ∀ i, Holds (gr i) w) (h : TabObj G b m t rb)
    (hr : ∀ i r, (i, r) ∈ t.rows → RowObj (gr i) I (rb i) r) (hl : ∀ i r, (i, r) ∈ t.rows → r.old.length ≤ 1000) (hn : t.rows.length ≤ 1000000) (hs : (t.rows.map Prod.fst).Pairwise (· < ·)) (hfit : RowsFit t) :
    Calls Tryz.prog 46 #[ptr b, .int .i64 time, .int .i64 txn] w fun e w' => ∃ v g, e = .returned (.tuple #[v, .int .i64 (t.seenA time txn).2]) ∧ FEv w.heap.size noP3 w g w' ∧ HeldsAt (g .o) (g .r) v (t.seenA time txn).1 := by
  obtain ⟨hb, es, clk, hm, hmap⟩ := h
  have c0 : w.cell? ⟨b, 0, none⟩ = some (.map (some m)) := hG.cell hb rfl
  have hhb := hG m _ hm
  have HKeys := Lib.hid (keysI_any (some m) w)
  have hseq : SeqGives Fence.wide (4 - 1 - 1 - 1) Tryz.prog 113 #[.pointer (some ⟨w.heap.size, 0, none⟩)] encI (fun ss => ss.Perm (t.rows.map Prod.fst)) t.rows.length (w.alloc (.cells #[.map (some m)] 92)) := by
    have := keysI_gives (4 - 1 - 1 - 1) (by decide) w.heap.size m es clk (t.rows.map fun p => (p.1, ptr (rb p.1))) (w.alloc (.cells #[.map (some m)] 92)) (by simp) (by simp) ((Below.heap_alloc _ _ m (hG.lt hm)).trans hhb) hmap
    rw [List.map_map, List.length_map] at this
    exact this
  have HSort := Lib.hid (sortedI_any 113 _ (enters_of Tryz.func113 (by kernel_rfl) rfl) _ _ hn _ hseq)
  have HRow : Hid (∀ W, Below w.heap.size w W → ∀ i r, (i, r) ∈ t.rows → ∃ v, AtGives I W (r.at time txn) v ∧ Quiet 87 #[ptr (rb i), .int .i64 time, .int .i64 txn] W v) := fun W hW i r hir => atV_any _ _ W _ r time txn ((hgr i).below hW) (hI.below hW) (hr i r hir) (hl i r hir)
  have HLook : Hid (∀ W, Below w.heap.size w W → W.cell? ⟨b, 0, none⟩ = some (.map (some m)) ∧ ∀ i r, (i, r) ∈ t.rows → (Instr.lookup 92 (.map (some m)) (encI i) false).run Tryz.prog W = .ok (ptr (rb i)) W) := fun W hW => by
    refine ⟨(hG.below hW).cell hb rfl, fun i r hir => ?_⟩
    exact run_lookup_there klI Tryz.underlying92 trivial ((hG.below hW) m _ hm) hmap (hmap.oks _ (List.mem_map_of_mem (f := fun p : Int × RowS => (p.1, ptr (rb p.1))) hir)) (List.mem_map_of_mem (f := fun p : Int × RowS => (p.1, ptr (rb p.1))) hir)
  have HI := Lib.hid (And.intro hI (And.intro hfit hs))
  have HE := Lib.hid (FEv.refl (noP3.fam w))
  clear hr hl hhb hseq hI hgr hfit hb hmap hm hG
  unfold ptr
  go_enter Tryz.func46, Tryz.ntmps46
  go_wp2_with fail
  refine HKeys.out.mono ?_
  rintro e w1 ⟨rfl, rfl⟩
  go_wp2_with fail
  refine HSort.out.mono ?_
  rintro e w2 ⟨sv, ss, GS, rfl, hS, hown, hGS, hfr, hb2, hlen⟩
  rw [sorted_ids hS HI.out.2.2] at hown
  have hsl : ss.length = t.rows.length := by have := hS.length_eq; simpa using this
  rw [hsl] at hown
  obtain ⟨A, c, rfl, hc, hspan⟩ := hown.form
  have hev : FEv w.heap.size noP3 w (upd noP3 .s ((noP3 .s).or GS)) w2 := (HE.out.of_below ((Below.refl _ _).alloc (Nat.le_refl _) (.cells #[.map (some m)] 92))).of_below_new hb2 hGS hfr .s
  have HGS : Hid (∀ g, g .s = GS → ∀ W, FEv w.heap.size noP3 w g W → ∀ (k : Nat) (p : Int × RowS), t.rows[k]? = some p → ∃ q, A = some ⟨q, 0, none⟩ ∧ W.cell? ⟨q, k, none⟩ = some (.int .i64 p.1)) := fun g hg W hW k p hk => by
    have hx : (List.map encI (List.map Prod.fst t.rows))[k]? = some (.int .i64 p.1) := by rw [List.getElem?_map, List.getElem?_map, hk]; rfl
    obtain ⟨q, o, hA, hcell⟩ := hspan.cell (by have := hW.fam.holds .s; rw [hg] at this; exact this) hx
    have ho : o = 0 := by
      rcases hown.2 with ⟨h1, _⟩ | ⟨g', cap, cur, hv, _⟩
      · rw [hA] at h1; cases h1
      · injection hv with h1
        rw [hA] at h1
        cases h1
        rfl
    subst ho
    exact ⟨q, hA, by rw [Nat.zero_add] at hcell; exact hcell⟩
  have hg0 : upd noP3 .s ((noP3 .s).or GS) .s = GS := by rw [upd_same]; rfl
  have hst : ∃ g, g .s = GS ∧ FEv w.heap.size noP3 w g w2 ∧ HeldsAt (g .o) (g .r) (.slice none 0 0) ((t.rows.take 0).filterMap (heldF time txn)) := ⟨_, hg0, hev, HeldsAt.nil _ _⟩
  have HST := Lib.hid hst
  clear hst hg0 hev hspan hown hc hS hlen hsl hfr hGS hb2 HKeys HSort
  generalize hnn : t.rows.length = n at *
  go_wp2_with fail
  obtain ⟨i0, hi0, hz0, hz1, hz2⟩ := info_parts Tryz.infoHeld
  have HINF := Lib.hid (And.intro hi0 (And.intro hz0 (And.intro hz1 hz2)))
  clear hi0 hz0 hz1 hz2
  go_loopw [8, 20] (fun out i wr => ∃ (k : Nat) (g : P3 → Gh), k ≤ n ∧ i = .int .i64 k ∧ g .s = GS ∧ FEv w.heap.size noP3 w g wr ∧ HeldsAt (g .o) (g .r) out ((t.rows.take k).filterMap (heldF time txn)) ∧ ∀ p ∈ t.rows.take k, (p.2.at time txn).2 = true) (fun _ i _ => n - (RowKit.intOf i).toNat)
  case atStart =>
    obtain ⟨g, h1, h2, h3⟩ := HST.out
    exact ⟨0, g, Nat.zero_le _, by simp, h1, h2, h3, by simp⟩
  case round =>
    obtain ⟨k, g, hk, rfl, hgs, hev, hheld, hall⟩ := hrel
    by_cases hkn : k = n
    · subst hkn
      have HM : Hid (t.seenA time txn = ((t.rows.take k).filterMap (heldF time txn), 0)) := by
        unfold Hid Tab.seenA
        rw [Tab.seen_eq]
        rw [List.take_of_length_le (by omega)] at hall ⊢
        rw [if_pos (List.all_eq_true.2 hall)]
      have HZ := Lib.hid (And.intro hev hheld)
      clear hev hheld hall hgs hnn
      go_wp2
      go_ret2
      exact ⟨_, g, by rw [HM.out]; rfl, HZ.out.1, by rw [HM.out]; exact HZ.out.2⟩
    · obtain ⟨p, hp⟩ : ∃ p, t.rows[k]? = some p := ⟨t.rows[k]'(by omega), List.getElem?_eq_getElem _⟩
      have hklt : k < n := by omega
      have hk1 : (k : Int) < (n : Int) := by omega
      have hk0 : (0 : Int) ≤ (k : Int) := Int.natCast_nonneg _
      obtain ⟨q, rfl, hcell⟩ := HGS.out g hgs wr hev k p hp
      have hbw : Below w.heap.size w wr := hev.below (noP3.fam w)
      have hmem := List.mem_of_getElem? hp
      have hsn := take_snoc hp
      obtain ⟨pi, pr⟩ := p
      dsimp only at *
      obtain ⟨cm, hlk⟩ := HLook.out wr hbw
      have hlk1 := hlk pi pr hmem
      obtain ⟨v0, ⟨pv, rfl, hpv⟩, hq⟩ := HRow.out wr hbw pi pr hmem
      have HQ := Lib.hid hq
      clear hlk hq hkn
      cases hok : (pr.at time txn).2 with
      | false =>
        have HM : Hid (t.seenA time txn = ([], 26)) := by
          unfold Hid Tab.seenA
          rw [Tab.seen_eq, if_neg]
          intro hx
          have := List.all_eq_true.1 hx _ hmem
          rw [hok] at this
          cases this
        rw [hok] at HQ
        have HZ := Lib.hid hev
        clear hev hheld hall hgs hnn hpv hsn hmem hp
        unfold ptr encI at *
        go_wp2_with (go_at_call 87; refine HQ.out.at.mono ?_; rintro e w3 ⟨rfl, mm, rfl⟩)
        go_ret2
        exact ⟨_, g, by rw [HM.out]; rfl, HZ.out.drewN _, by rw [HM.out]; exact HeldsAt.nil _ _⟩
      | true =>
        rw [hok] at HQ
        have hall' : ∀ p ∈ t.rows.take (k + 1), (p.2.at time txn).2 = true := fun p hp' => by
          rw [hsn] at hp'
          rcases List.mem_append.1 hp' with h1 | h1
          · exact hall p h1
          · simp only [List.mem_cons, List.not_mem_nil, or_false] at h1
            subst h1
            exact hok
        have HTh := Lib.hid (fun mm => there_any _ (wr.drewN mm) _ _ (hpv.drewN mm))
        have hsame : heldF time txn (pi, pr) = none → (t.rows.take (k + 1)).filterMap (heldF time txn) = (t.rows.take k).filterMap (heldF time txn) := fun h => by rw [hsn, List.filterMap_append]; simp [h]
        have hmore : ∀ x, heldF time txn (pi, pr) = some x → (t.rows.take (k + 1)).filterMap (heldF time txn) = (t.rows.take k).filterMap (heldF time txn) ++ [x] := fun x h => by rw [hsn, List.filterMap_append]; simp [h]
        cases hv : (pr.at time txn).1 with
        | none =>
          have HF : Hid ((t.rows.take (k + 1)).filterMap (heldF time txn) = (t.rows.take k).filterMap (heldF time txn)) := hsame (by simp [heldF, hv])
          rw [hv] at HTh
          have HZ := Lib.hid (And.intro hgs (And.intro hev (And.intro hheld hall')))
          clear hev hheld hall hgs hnn hpv hsn hmem hp hall' hsame hmore
          unfold ptr encI there at *
          go_wp2_with (first | (go_at_call 87; refine HQ.out.at.mono ?_; rintro e w3 ⟨rfl, mm, rfl⟩) | (go_at_call 88; refine (HTh.out _).mono ?_; rintro e w4 ⟨rfl, rfl⟩))
          go_roundw
          case rel => exact ⟨k + 1, g, by omega, by go_num, HZ.out.1, HZ.out.2.1.drewN _, by rw [HF.out]; exact HZ.out.2.2.1, HZ.out.2.2.2⟩
          case measure => simp [RowKit.intOf]; omega
        | some v =>
          have hlv := HI.out.2.1 pi pr v hmem (at_row hv)
          rw [hv] at HTh hpv
          cases hg : v.gone with
          | true =>
            have HF : Hid ((t.rows.take (k + 1)).filterMap (heldF time txn) = (t.rows.take k).filterMap (heldF time txn)) := hsame (by simp [heldF, hv, hg])
            simp only [there, hg] at HTh
            have HZ := Lib.hid (And.intro hgs (And.intro hev (And.intro hheld hall')))
            clear hev hheld hall hgs hnn hpv hsn hmem hp hall' hsame hmore hlv
            unfold ptr encI at *
            go_wp2_with (first | (go_at_call 87; refine HQ.out.at.mono ?_; rintro e w3 ⟨rfl, mm, rfl⟩) | (go_at_call 88; refine (HTh.out _).mono ?_; rintro e w4 ⟨rfl, rfl⟩))
            go_roundw
            case rel => exact ⟨k + 1, g, by omega, by go_num, HZ.out.1, HZ.out.2.1.drewN _, by rw [HF.out]; exact HZ.out.2.2.1, HZ.out.2.2.2⟩
            case measure => simp [RowKit.intOf]; omega
          | false =>
            have HF : Hid ((t.rows.take (k + 1)).filterMap (heldF time txn) = (t.rows.take k).filterMap (heldF time txn) ++ [(pi, v.row)]) := hmore _ (by simp [heldF, hv, hg])
            simp only [there, hg] at HTh
            obtain ⟨vb, vo, rv, rfl, hvb, _, _, hvc, hrow⟩ := hpv
            have HCl := Lib.hid (fun mm => (hrow.arg ((HI.out.1.below hbw).drewN mm) hlv).clone)
            have hlenk : ((t.rows.take k).filterMap (heldF time txn)).length ≤ k := by
              refine Nat.le_trans (List.length_filterMap_le _ _) ?_
              rw [List.length_take]; omega
            have HZ := Lib.hid (And.intro hgs (And.intro hev (And.intro hheld (And.intro hall' hlenk))))
            clear hev hheld hall hgs hnn hsn hmem hp hall' hsame hmore hlv hrow hlenk
            unfold ptr encI at *
            go_wp2_with (first | (go_at_call 87; refine HQ.out.at.mono ?_; rintro e w3 ⟨rfl, mm, rfl⟩) | (go_at_call 88; refine (HTh.out _).mono ?_; rintro e w4 ⟨rfl, rfl⟩))
            refine (HCl.out _).mono ?_
            rintro e w4 ⟨rv4, Gr, rfl, hb4, hh4, hf4, hrow4⟩
            obtain ⟨hgs, hev, ⟨css, hcss, hown⟩, hall', hlenk⟩ := HZ.out
            have hev4 := (hev.drewN mm).of_below_new hb4 hh4 hf4 .r
            have hsub : Sub (g .r) ((g .r).or Gr) := fun b' o' hb' => Gh.or_left _ _ hb'
            have hsub2 : Sub Gr ((g .r).or Gr) := fun b' o' hb' => Gh.or_right (fun c => by
              cases h1 : g .r c with
              | none => exact .inl rfl
              | some o1 =>
                right
                cases h2 : Gr c with
                | none => rfl
                | some o2 =>
                  have h3 := hf4 c (by rw [h2]; simp)
                  have h4 := (hev.fam.holds .r).lt h1
                  rw [World.heap_drewN] at h3
                  omega) hb'
            have hcss' : All2 (HeldIs ((g .r).or Gr)) ((t.rows.take k).filterMap (heldF time txn) ++ [(pi, v.row)]) (css ++ [[.int .i64 pi, rv4]]) := (hcss.imp fun _ _ h => h.sub hsub).append (.cons ⟨rv4, rfl, hrow4.sub hsub2⟩ .nil)
            have hev5 := hev4.alloc .o (.cells #[.int .i64 pi, rv4] 74)
            have hgo : upd g .r ((g .r).or Gr) .o = g .o := upd_other _ _ (by simp)
            rw [hgo] at hev5
            have hGo := hev5.fam.holds .o
            rw [upd_same] at hGo
            have hOwn : Own ((g .o).put w4.heap.size (.cells #[.int .i64 pi, rv4] 74)) 74 2 u8 _ css.flatten := hown.keep fun b' o' _ hb' => Gh.put_some _ hb' (by
              have h3 := (hev4.fam.holds .o)
              rw [hgo] at h3
              exact h3.ne_size hb')
            have hSp : Span ((g .o).put w4.heap.size (.cells #[.int .i64 pi, rv4] 74)) (some ⟨w4.heap.size, 0, none⟩) [.int .i64 pi, rv4] := .inr ⟨_, _, _, _, _, rfl, Gh.put_same _ _ _, fun j u hj => by simpa using hj⟩
            obtain ⟨A4, c4, rfl, _, _⟩ := hrow4
            have HY := Lib.hid (And.intro hev5 (And.intro hcss' (And.intro hgs hall')))
            clear hev4 hev5 hcss' hcss hown hsub hsub2 hgs hall' hb4 hh4 hf4 hgo hev
            go_wp2_with (at_builtin; refine wpList_append_ev rfl _ _ 45 rfl hGo 74 i0 _ 2 32 Tryz.underlying45 HINF.out.1 HINF.out.2.1 HINF.out.2.2.1 HINF.out.2.2.2 rfl (by decide) u8 _ css.flatten rfl hOwn (some ⟨w4.heap.size, 0, none⟩) 1 1 _ rfl rfl hSp (by simp) (by simp [Value.oneCell']) (by unfold maxLen; omega) (by omega) ?_; intro v' G' w5 happ)
            obtain ⟨hev5, hcss', hgs, hall'⟩ := HY.out
            have hfe := hev5.then (c := .o) (by rw [upd_same]; exact happ.1)
            refine ⟨⟨k + 1, _, by omega, by go_num, ?_, hfe, ?_, hall'⟩, by simp [RowKit.intOf]; omega⟩
            · rw [upd_other _ _ (by simp), upd_other _ _ (by simp), upd_other _ _ (by simp)]
              exact hgs
            · rw [HF.out]
              refine ⟨css ++ [[.int .i64 pi, .slice A4 v.row.length c4]], ?_, ?_⟩
              · rw [upd_other _ _ (by simp), upd_other _ _ (by simp), upd_same]
                exact hcss'
              · rw [upd_same, List.length_append, List.flatten_append]
                simpa using happ.2.1

/-! ### At -/
def St.atA (M : St) (k : Key) (time txn : Int) : List (Int × List Val) × Int := if M.look k time txn ≠ 0 then ([], M.look k time txn) else match aget M.tabs k with
  | none => ([], 0)
  | some t => t.seenA time txn
theorem at_nil (k : Key) (time txn : Int) (w : World) : Calls Tryz.prog 30 #[.pointer none, .string k.1, .string k.2, .int .i64 time, .int .i64 txn] w fun e w' => e = .returned (.tuple #[.slice none 0 0, .int .i64 1]) ∧ w = w' := by
  have HL := Lib.hid (look_nil k.1 k.2 time txn w)
  go_enter Tryz.func30, Tryz.ntmps30
  go_wp2_with (go_at_call 64; refine HL.out.mono ?_; rintro e w1 ⟨rfl, rfl⟩)
  go_ret2
  exact ⟨rfl, rfl⟩
/-- The order of rows, and the bounds that a reader wants. -/
structure Reads (M : St) : Prop where
  sorted : ∀ k t, (k, t) ∈ M.tabs → (t.rows.map Prod.fst).Pairwise (· < ·)
  fit : ∀ k t, (k, t) ∈ M.tabs → RowsFit t
set_option maxRecDepth 100000 in
theorem at_any {B N : Nat} {g : Comp → Gh} {w : World} {y : Lay} {M : St} (hF : Fam B g w) (h : Rep y M g) (hfit : Fit N M) (hN : N ≤ 1000000) (hrd : Reads M) (k : Key) (time txn : Int) :
    Calls Tryz.prog 30 #[ptr y.p, .string k.1, .string k.2, .int .i64 time, .int .i64 txn] w fun e w' => ∃ v GO GR, e = .returned (.tuple #[v, .int .i64 (M.atA k time txn).2]) ∧ Below w.heap.size w w' ∧ Holds GO w' ∧ Holds GR w' ∧ From w.heap.size GO ∧ From w.heap.size GR ∧ HeldsAt GO GR v (M.atA k time txn).1 := by
  have HLook := Lib.hid (look_any hF h k time txn)
  have HF := Lib.hid (fun W (hW : Below w.heap.size w W) => ((FEv.refl hF).of_below hW).fam)
  by_cases hlk : M.look k time txn = 0
  · rw [hlk] at HLook
    cases ha : aget M.tabs k with
    | none =>
      have HM : Hid (M.atA k time txn = ([], 0)) := by unfold Hid; simp [St.atA, hlk, ha]
      have HL := Lib.hid (fun W (hW : Below w.heap.size w W) => And.intro (h.cells (HF.out W hW)).2.1 (h.lookT k ((HF.out W hW).holds .tM)))
      rw [ha] at HL
      clear hF h hfit ha hlk hrd
      unfold ptr encK at *
      go_enter Tryz.func30, Tryz.ntmps30
      go_wp2_with fail
      refine HLook.out.mono ?_
      rintro e w1 ⟨rfl, hb1⟩
      obtain ⟨c1, l1⟩ := HL.out w1 hb1
      go_wp2
      go_ret2
      exact ⟨_, Gh.nil, Gh.nil, by rw [HM.out]; rfl, hb1, Holds.nil _, Holds.nil _, fun _ h => absurd rfl h, fun _ h => absurd rfl h, by rw [HM.out]; exact HeldsAt.nil _ _⟩
    | some t =>
      have HM : Hid (M.atA k time txn = t.seenA time txn) := by unfold Hid; simp [St.atA, hlk, ha]
      have HL := Lib.hid (fun W (hW : Below w.heap.size w W) => h.looks (HF.out W hW) ha)
      have HS := Lib.hid (fun W (hW : Below w.heap.size w W) => seen_any (g (.tab k)) (g .imm) (fun i => g (.row k i)) W (y.tb k) (y.rM k) t (y.rb k) time txn ((HF.out W hW).holds _) ((HF.out W hW).holds _) (fun i => (HF.out W hW).holds _) (h.tab k t (aget_mem ha)) (fun i r hr => h.row k t (aget_mem ha) i r hr) (fun i r hr => by have := hfit.old k t (aget_mem ha) i r hr; omega) (by have := hfit.rows k t (aget_mem ha); omega) (hrd.sorted k t (aget_mem ha)) (hrd.fit k t (aget_mem ha)))
      clear hF h hfit ha hlk hrd
      unfold ptr at *
      go_enter Tryz.func30, Tryz.ntmps30
      go_wp2_with fail
      refine HLook.out.mono ?_
      rintro e w1 ⟨rfl, hb1⟩
      obtain ⟨c1, l1, c2⟩ := HL.out w1 hb1
      go_wp2_with fail
      refine (HS.out w1 hb1).mono ?_
      rintro e w2 ⟨v, gP, rfl, hfe, hh⟩
      have hbP := hfe.below (noP3.fam w1)
      have HZ := Lib.hid (And.intro (hb1.trans (hbP.mono hb1.size)) (And.intro hfe hh))
      have hle := hb1.size
      clear hfe hh hbP
      go_wp2
      go_ret2
      exact ⟨v, gP .o, gP .r, by rw [HM.out]; rfl, HZ.out.1, HZ.out.2.1.fam.holds .o, HZ.out.2.1.fam.holds .r, fun b hb => Nat.le_trans hle (HZ.out.2.1.fam.base .o b hb), fun b hb => Nat.le_trans hle (HZ.out.2.1.fam.base .r b hb), by rw [HM.out]; exact HZ.out.2.2⟩
  · have HM : Hid (M.atA k time txn = ([], M.look k time txn)) := by unfold Hid; simp [St.atA, hlk]
    have hne : (M.look k time txn == 0) = false := by simpa using hlk
    generalize M.look k time txn = lk at *
    clear hF h hfit hlk hrd
    unfold ptr at *
    go_enter Tryz.func30, Tryz.ntmps30
    go_wp2_with (go_at_call 64; refine HLook.out.mono ?_; rintro e w1 ⟨rfl, hb1⟩)
    go_ret2
    exact ⟨_, Gh.nil, Gh.nil, by rw [HM.out]; rfl, hb1, Holds.nil _, Holds.nil _, fun _ h => absurd rfl h, fun _ h => absurd rfl h, by rw [HM.out]; exact HeldsAt.nil _ _⟩
end Go.Ju

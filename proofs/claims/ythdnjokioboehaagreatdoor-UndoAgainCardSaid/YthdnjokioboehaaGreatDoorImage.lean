/- 'Image'. -/
import Derived.Test.YthdnjokioboehaaGreatDoorSeen
import Derived.LoopN
namespace Go.Ju
open Go.RowKit
open Go.Proofs
open Go.ChangeMaps

inductive P4 where
  | s | o | r | v
  deriving DecidableEq
def noP4 : P4 → Gh := fun _ => Gh.nil
theorem noP4.fam (w : World) : Fam w.heap.size noP4 w := ⟨fun _ => Holds.nil w, fun _ _ _ _ => .inl rfl, fun _ _ h => absurd rfl h, Nat.le_refl _⟩
structure StoredM where
  key : Key
  rows : List (Int × List Val)
  next : Int
structure Img where
  time : Int
  tabs : List StoredM
def StoredIs (G : Gh) (x : StoredM) (cs : List Value) : Prop := ∃ hv, cs = [.string x.key.1, .string x.key.2, hv, .int .i64 x.next] ∧ HeldsAt G G hv x.rows
def StoredsAt (GO GR : Gh) (v : Value) (l : List StoredM) : Prop := ∃ css, All2 (StoredIs GR) l css ∧ Own GO 72 4 v l.length css.flatten
theorem StoredsAt.nil (GO GR : Gh) : StoredsAt GO GR (.slice none 0 0) [] := ⟨[], .nil, Own.nil _ _ _⟩
theorem Own.sub {G G' : Gh} {e size n : Nat} {v : Value} {xs : List Value} (h : Own G e size v n xs) (hs : Sub G G') : Own G' e size v n xs := h.keep fun b o _ hb => hs b o hb
theorem HeldsAt.sub {G G' : Gh} {v : Value} {l : List (Int × List Val)} (h : HeldsAt G G v l) (hs : Sub G G') : HeldsAt G' G' v l := by
  obtain ⟨css, h1, h2⟩ := h
  exact ⟨css, h1.imp (fun _ _ k => k.sub hs), h2.sub hs⟩
theorem HeldsAt.sub2 {GO GR G : Gh} {v : Value} {l : List (Int × List Val)} (h : HeldsAt GO GR v l) (h1 : Sub GO G) (h2 : Sub GR G) : HeldsAt G G v l := by
  obtain ⟨css, h3, h4⟩ := h
  exact ⟨css, h3.imp (fun _ _ k => k.sub h2), h4.sub h1⟩
theorem StoredIs.sub {G G' : Gh} {x : StoredM} {cs : List Value} (h : StoredIs G x cs) (hs : Sub G G') : StoredIs G' x cs := by
  obtain ⟨hv, h1, h2⟩ := h
  exact ⟨hv, h1, h2.sub hs⟩
def St.storedF (M : St) (time : Int) (k : Key) : Option StoredM := (aget M.tabs k).map fun t => ⟨k, (t.seenA time 0).1, t.next⟩
def St.toldF (M : St) (time : Int) (k : Key) : Bool := match aget M.tabs k with | none => true | some t => (t.seen time 0).isSome
def St.imageA (M : St) (time : Int) : Img × Int :=
  if decide (time < 0) || decide (M.time < time) then (⟨0, []⟩, 21)
  else if (sortK (M.tabs.map Prod.fst)).all (M.toldF time) then (⟨time, (sortK (M.tabs.map Prod.fst)).filterMap (M.storedF time)⟩, 0) else (⟨0, []⟩, 26)
theorem sortK_perm {l l' : List Key} (h : l.Perm l') : sortK l = sortK l' := by
  have tr : ∀ a b c : Key, (!ltK b a) = true → (!ltK c b) = true → (!ltK c a) = true := fun a b c h1 h2 => by
    simp only [Bool.not_eq_true'] at *
    exact swoK.ntrans c b a h2 h1
  have to : ∀ a b : Key, ((!ltK b a) || (!ltK a b)) = true := fun a b => by
    cases h1 : ltK b a with
    | false => simp
    | true => simp [ltK_asymm h1]
  have h1 : (sortK l).Perm (sortK l') := ((List.mergeSort_perm l _).trans h).trans (List.mergeSort_perm l' _).symm
  have h2 : (sortK l).Pairwise (fun a b => (!ltK b a) = true) := List.pairwise_mergeSort tr to l
  have h3 : (sortK l').Pairwise (fun a b => (!ltK b a) = true) := List.pairwise_mergeSort tr to l'
  exact h1.eq_of_pairwise (le := fun a b => (!ltK b a) = true) (fun a b _ _ h1 h2 => totK a b (by change ltK a b = false; simpa using h2) (by change ltK b a = false; simpa using h1)) h2 h3
theorem sortK_len (l : List Key) : (sortK l).length = l.length := List.length_mergeSort _
theorem sortK_mem {l : List Key} {k : Key} : k ∈ sortK l ↔ k ∈ l := List.mem_mergeSort
theorem Tryz.infoStored : (Tryz.prog.info? 72).map (fun i => (i.zero, i.size, i.bytes)) = some (some (.agg #[.string ⟨#[]⟩, .string ⟨#[]⟩, .slice none 0 0, .int .i64 0]), 4, 64) := by kernel_rfl

/-- What a call of Image comes to. -/
def ImageDoes (w : World) (r : Img × Int) (e : Ending) (w' : World) : Prop := ∃ tv GO GR, e = .returned (.tuple #[.agg #[.int .i64 r.1.time, tv], .int .i64 r.2]) ∧ Below w.heap.size w w' ∧ Holds GO w' ∧ Holds GR w' ∧ From w.heap.size GO ∧ From w.heap.size GR ∧ StoredsAt GO GR tv r.1.tabs
theorem ImageDoes.fail {w w' : World} {r : Img × Int} {c : Int} (hr : r = (⟨0, []⟩, c)) (hb : Below w.heap.size w w') : ImageDoes w r (.returned (.tuple #[.agg #[.int .i64 0, .slice none 0 0], .int .i64 c])) w' :=
  ⟨.slice none 0 0, Gh.nil, Gh.nil, by rw [hr], hb, Holds.nil _, Holds.nil _, fun _ h => absurd rfl h, fun _ h => absurd rfl h, by rw [hr]; exact StoredsAt.nil _ _⟩
theorem image_nil (time : Int) (w : World) : Calls Tryz.prog 15 #[.pointer none, .int .i64 time] w fun e w' => e = .returned (.tuple #[.agg #[.int .i64 0, .slice none 0 0], .int .i64 1]) ∧ Below w.heap.size w w' := by
  go_enter Tryz.func15, Tryz.ntmps15
  go_wp2
  exact bodyPost_ret (v := .tuple #[.agg #[.int .i64 0, .slice none 0 0], .int .i64 1]) (by simp [results, Tryz.results15, go_sem]) rfl ⟨rfl, (Below.refl _ _).alloc (Nat.le_refl _) _⟩

set_option maxRecDepth 100000 in
set_option maxHeartbeats 8000000 in
theorem image_any {B N : Nat} {g : Comp → Gh} {w : World} {y : Lay} {M : St} (hF : Fam B g w) (h : Rep y M g) (hfit : Fit N M) (hN : N ≤ 1000000) (hrd : Reads M) (time : Int) :
    Calls Tryz.prog 15 #[ptr y.p, .int .i64 time] w (ImageDoes w (M.imageA time)) := by
  have HF := Lib.hid (fun W (hW : Below w.heap.size w W) => ((FEv.refl hF).of_below hW).fam)
  have hb1 : Below w.heap.size w (w.alloc (.cells #[.int .i64 0, .slice none 0 0] 24)) := (Below.refl _ _).alloc (Nat.le_refl _) _
  have hb2 : Below w.heap.size w ((w.alloc (.cells #[.int .i64 0, .slice none 0 0] 24)).alloc (.cells #[.int .i64 time, .slice none 0 0] 24)) := hb1.alloc hb1.size _
  obtain ⟨c0, -, -, -⟩ := h.cells (HF.out _ hb1)
  obtain ⟨-, c1, -, -⟩ := h.cells (HF.out _ hb2)
  have h5 : (decide (time < 0) = true ∨ decide (time < 0) = false ∧ decide (M.time < time) = true) ∨ (decide (time < 0) = false ∧ decide (M.time < time) = false) := by
    cases decide (time < 0) <;> cases decide (M.time < time) <;> simp
  rcases h5 with h5 | ⟨h5, h6⟩
  · have HM : Hid (M.imageA time = (⟨0, []⟩, 21)) := by
      unfold Hid St.imageA
      rcases h5 with h5 | ⟨h5, h6⟩ <;> simp only [*, Bool.true_or, Bool.or_true, if_true]
    clear h hF hfit hrd hb1 hb2
    rcases h5 with h5 | ⟨h5, h6⟩
    all_goals
      simp only [decide_eq_true_eq, decide_eq_false_iff_not] at *
      unfold ptr at *
      go_enter Tryz.func15, Tryz.ntmps15
      go_wp2
      exact bodyPost_ret (v := .tuple #[.agg #[.int .i64 0, .slice none 0 0], .int .i64 21]) (by simp [results, Tryz.results15, go_sem]) rfl (ImageDoes.fail HM.out ((Below.refl _ _).alloc (Nat.le_refl _) _))
  · have hM : M.imageA time = if (sortK (M.tabs.map Prod.fst)).all (M.toldF time) then (⟨time, (sortK (M.tabs.map Prod.fst)).filterMap (M.storedF time)⟩, 0) else (⟨0, []⟩, 26) := by unfold St.imageA; rw [h5, h6]; rfl
    have HM := Lib.hid hM
    obtain ⟨es, clk, hm, hmap⟩ := h.tM
    have HKeys := Lib.hid (fun W => keysK_any (some y.tM) W)
    have HSeq : Hid (∀ W, Below w.heap.size w W → SeqGives Fence.wide (4 - 1 - 1 - 1) Tryz.prog 82 #[.pointer (some ⟨W.heap.size, 0, none⟩)] encK (fun ss => ss.Perm (M.tabs.map Prod.fst)) M.tabs.length (W.alloc (.cells #[.map (some y.tM)] 83))) := fun W hW => by
      have hhb := (HF.out W hW).holds .tM _ _ hm
      have := keysK_gives (4 - 1 - 1 - 1) (by decide) W.heap.size y.tM es clk (M.tabs.map fun p => (p.1, ptr (y.tb p.1))) (W.alloc (.cells #[.map (some y.tM)] 83)) (by simp) (by simp) ((Below.heap_alloc _ _ _ (Array.getElem?_eq_some_iff.1 hhb).1).trans hhb) hmap
      rw [List.map_map, List.length_map] at this
      exact this
    have hnt : M.tabs.length ≤ 1000000 := by have := hfit.tabs; omega
    have HSort := Lib.hid (fun W hW => sortedK_any 82 _ (enters_of Tryz.func82 (by kernel_rfl) rfl) _ _ hnt _ (HSeq.out W hW))
    have HCells := Lib.hid (fun W (hW : Below w.heap.size w W) => (h.cells (HF.out W hW)).2.1)
    have HTab : Hid (∀ W, Below w.heap.size w W → ∀ k t, aget M.tabs k = some t → (Instr.lookup 83 (.map (some y.tM)) (.agg #[.string k.1, .string k.2]) false).run Tryz.prog W = .ok (.pointer (some ⟨y.tb k, 0, none⟩)) W ∧ W.cell? ⟨y.tb k, 1, none⟩ = some (.int .i64 t.next) ∧
        Calls Tryz.prog 46 #[.pointer (some ⟨y.tb k, 0, none⟩), .int .i64 time, .int .i64 0] W fun e w' => ∃ v g, e = .returned (.tuple #[v, .int .i64 (t.seenA time 0).2]) ∧ FEv W.heap.size noP3 W g w' ∧ HeldsAt (g .o) (g .r) v (t.seenA time 0).1) := fun W hW k t ha => by
      refine ⟨(h.looks (HF.out W hW) ha).look, ((HF.out W hW).holds (.tab k)).cell (h.tab k t (aget_mem ha)).1 rfl, ?_⟩
      exact seen_any (g (.tab k)) (g .imm) (fun i => g (.row k i)) W (y.tb k) (y.rM k) t (y.rb k) time 0 ((HF.out W hW).holds _) ((HF.out W hW).holds _) (fun i => (HF.out W hW).holds _) (h.tab k t (aget_mem ha)) (fun i r hr => h.row k t (aget_mem ha) i r hr) (fun i r hr => by have := hfit.old k t (aget_mem ha) i r hr; omega) (by have := hfit.rows k t (aget_mem ha); omega) (hrd.sorted k t (aget_mem ha)) (hrd.fit k t (aget_mem ha))
    have hE2 := (((FEv.refl (noP4.fam w)).alloc .v (.cells #[.int .i64 0, .slice none 0 0] 24)).alloc .v (.cells #[.int .i64 time, .slice none 0 0] 24))
    rw [upd_upd, upd_same, World.size_alloc] at hE2
    have HE := Lib.hid (And.intro hb2 hE2)
    clear h hF hfit hrd hb1 hM HF HSeq hmap hm hE2 hb2
    simp only [decide_eq_false_iff_not] at *
    unfold ptr at *
    go_enter Tryz.func15, Tryz.ntmps15
    go_wp2_with fail
    obtain ⟨u, hU⟩ : ∃ u, u = ((w.alloc (.cells #[.int .i64 0, .slice none 0 0] 24)).alloc (.cells #[.int .i64 time, .slice none 0 0] 24)) := ⟨_, rfl⟩
    have hu := HE.out.2
    rw [← hU] at hu ⊢
    clear c0 c1 HE hU
    have hbu := hu.below (noP4.fam w)
    refine (HKeys.out _).mono ?_
    rintro e w1 ⟨rfl, rfl⟩
    go_wp2_with fail
    refine (HSort.out _ hbu).mono ?_
    rintro e w2 ⟨sv, ss, GS, rfl, hS, hown, hGS, hfr, hb2, hlen⟩
    rw [sortK_perm hS] at hown
    have hsl : ss.length = (sortK (M.tabs.map Prod.fst)).length := by have := hS.length_eq; rw [sortK_len]; exact this
    rw [hsl] at hown hlen
    obtain ⟨A, c, rfl, hc, hspan⟩ := hown.form
    have hev := (hu.of_below ((Below.refl _ _).alloc (Nat.le_refl _) (.cells #[.map (some y.tM)] 83))).of_below_new hb2 hGS hfr .s
    have hks : ∀ x ∈ sortK (M.tabs.map Prod.fst), ∃ t, aget M.tabs x = some t := fun x hx => by
      have := aget_isSome.2 (sortK_mem.1 hx)
      exact Option.isSome_iff_exists.1 this
    generalize sortK (M.tabs.map Prod.fst) = ks at *
    have HGS : Hid (∀ g, g .s = GS → ∀ W, FEv w.heap.size noP4 w g W → ∀ (k : Nat) (x : Key), ks[k]? = some x → ∃ q, A = some ⟨q, 0, none⟩ ∧ W.cell? ⟨q, k * 2, none⟩ = some (.string x.1) ∧ W.cell? ⟨q, k * 2 + 1, none⟩ = some (.string x.2)) := fun g hg W hW k x hk => by
      have h0 := flat_get cellsK 2 cellsK_len ks k 0 x hk (by omega)
      have h1 := flat_get cellsK 2 cellsK_len ks k 1 x hk (by omega)
      have hsp : Holds GS W := by have := hW.fam.holds .s; rw [hg] at this; exact this
      obtain ⟨q, o, hA, hcell⟩ := hspan.cell hsp (h0.trans rfl)
      obtain ⟨q', o', hA', hcell'⟩ := hspan.cell hsp (h1.trans rfl)
      rw [hA] at hA'
      cases hA'
      have ho : o = 0 := by
        rcases hown.2 with ⟨h1, _⟩ | ⟨g', cap, cur, hv, _⟩
        · rw [hA] at h1; cases h1
        · injection hv with h1
          rw [hA] at h1
          cases h1
          rfl
      subst ho
      exact ⟨q, hA, by rw [Nat.zero_add] at hcell; exact hcell, by rw [Nat.zero_add] at hcell'; exact hcell'⟩
    have hst : ∃ g, g .s = GS ∧ FEv w.heap.size noP4 w g w2 ∧ g .v w.heap.size = some (.cells #[.int .i64 0, .slice none 0 0] 24 (0, 0)) ∧ g .v (w.heap.size + 1) = some (.cells #[.int .i64 time, .slice none 0 0] 24 (0, 0)) ∧ StoredsAt (g .o) (g .r) (.slice none 0 0) ((ks.take 0).filterMap (M.storedF time)) := by
      refine ⟨_, ?_, hev, ?_, ?_, StoredsAt.nil _ _⟩
      · rw [upd_same, upd_other _ _ (by simp)]; rfl
      · rw [upd_other _ _ (by simp), upd_same, Gh.put_other _ _ (by omega)]; exact Gh.put_same _ _ _
      · rw [upd_other _ _ (by simp), upd_same]; exact Gh.put_same _ _ _
    have HST := Lib.hid hst
    have HKS := Lib.hid hks
    obtain ⟨i0, hi0, hz0, hz1, hz2⟩ := info_parts Tryz.infoStored
    have HINF := Lib.hid (And.intro hi0 (And.intro hz0 (And.intro hz1 hz2)))
    clear hi0 hz0 hz1 hz2
    have hnk : ks.length ≤ 1000000 := by omega
    clear hst hev hspan hown hc hS hlen hsl hfr hGS hb2 HKeys HSort hks hu hbu hnt
    generalize hnn : ks.length = n at *
    generalize hb4 : w.heap.size = b4 at *
    go_wp2_with fail
    go_loopw [37] (fun i wr => ∃ (k : Nat) (g : P4 → Gh) (tv : Value), k ≤ n ∧ i = .int .i64 k ∧ g .s = GS ∧ FEv b4 noP4 w g wr ∧ g .v b4 = some (.cells #[.int .i64 0, .slice none 0 0] 24 (0, 0)) ∧ g .v (b4 + 1) = some (.cells #[.int .i64 time, tv] 24 (0, 0)) ∧ StoredsAt (g .o) (g .r) tv ((ks.take k).filterMap (M.storedF time)) ∧ ∀ x ∈ ks.take k, M.toldF time x = true) (fun i _ => n - (RowKit.intOf i).toNat)
    case atStart =>
      obtain ⟨g, h1, h2, h3, h4, h5⟩ := HST.out
      exact ⟨0, g, _, Nat.zero_le _, by simp, h1, h2, h3, h4, h5, by simp⟩
    case round =>
      obtain ⟨k, g, tv, hk, rfl, hgs, hev, hv4, hv6, hst, hall⟩ := hrel
      obtain ⟨A2, c2, rfl⟩ : ∃ A2 c2, tv = .slice A2 ((ks.take k).filterMap (M.storedF time)).length c2 := by
        obtain ⟨css, _, hown⟩ := hst
        obtain ⟨A2, c2, h, _, _⟩ := hown.form
        exact ⟨A2, c2, h⟩
      have v0 := (hev.fam.holds .v).cell (i := 0) hv6 rfl
      have v1 := (hev.fam.holds .v).cell (i := 1) hv6 rfl
      have v2 := (hev.fam.holds .v).frozen (i := 0) hv4
      have v3 := (hev.fam.holds .v).frozen (i := 1) hv4
      have v4 := (hev.fam.holds .v).lt hv4
      have v5 := (hev.fam.holds .v).cell (i := 0) hv4 rfl
      have v6 := (hev.fam.holds .v).cell (i := 1) hv4 rfl
      by_cases hkn : k = n
      · subst hkn
        have HR : Hid (M.imageA time = (⟨time, (ks.take k).filterMap (M.storedF time)⟩, 0)) := by
          unfold Hid
          rw [List.take_of_length_le (by omega)] at hall ⊢
          rw [HM.out, if_pos (List.all_eq_true.2 hall)]
        have hs1 := hev.setCell (c := .v) (i := 0) hv4 (.int .i64 time)
        have hs2 := hs1.setCell (c := .v) (b := b4) (i := 1) (by rw [upd_same]; exact Gh.put_same _ _ _) (.slice A2 ((ks.take k).filterMap (M.storedF time)).length c2)
        have hle := hev.size
        have HZ := Lib.hid (And.intro (hs2.below (by rw [← hb4]; exact noP4.fam w)) (And.intro hs2 hst))
        clear hev hst hall hgs hv4 hv6 hnn hs1 hs2
        go_wp2
        exact bodyPost_ret (v := .tuple #[.agg #[.int .i64 time, .slice A2 ((ks.take k).filterMap (M.storedF time)).length c2], .int .i64 0]) (by simp [results, Tryz.results15, go_sem, v5, v6]) rfl
          ⟨_, _, _, by rw [HR.out], by rw [hb4]; exact HZ.out.1, HZ.out.2.1.fam.holds .o, HZ.out.2.1.fam.holds .r, fun b hb => by rw [hb4]; exact HZ.out.2.1.fam.base .o b hb, fun b hb => by rw [hb4]; exact HZ.out.2.1.fam.base .r b hb, by
            rw [HR.out, upd_other _ _ (by simp), upd_other _ _ (by simp), upd_other _ _ (by simp), upd_other _ _ (by simp)]
            exact HZ.out.2.2⟩
      · obtain ⟨x, hx⟩ : ∃ x, ks[k]? = some x := ⟨ks[k]'(by omega), List.getElem?_eq_getElem _⟩
        have hklt : k < n := by omega
        have hk1 : (k : Int) < (n : Int) := by omega
        have hk0 : (0 : Int) ≤ (k : Int) := Int.natCast_nonneg _
        obtain ⟨q, rfl, hc0, hc1⟩ := HGS.out g hgs wr hev k x hx
        obtain ⟨t, ht⟩ := HKS.out x (List.mem_of_getElem? hx)
        have hsn := take_snoc hx
        have hxm := List.mem_of_getElem? hx
        obtain ⟨xa, xb⟩ := x
        dsimp only at *
        have hevB := hev.of_below ((Below.refl _ _).alloc (Nat.le_refl _) (.cells #[.string xa, .string xb] 91))
        have hbB : ∀ nn, Below b4 w ((wr.alloc (.cells #[.string xa, .string xb] 91)).drewN nn) := fun nn => (hevB.drewN nn).below (by rw [← hb4]; exact noP4.fam w)
        have hlk := fun nn => (HTab.out _ (hbB nn) (xa, xb) t ht).1
        have hcm := HCells.out _ (hbB 0)
        have HSeen := Lib.hid (fun nn => And.intro (HTab.out _ (hbB nn) (xa, xb) t ht).2.2 (HTab.out _ (hbB nn) (xa, xb) t ht).2.1)
        dsimp only at hlk
        rw [World.drewN_zero] at hcm
        have hlenk : ((ks.take k).filterMap (M.storedF time)).length ≤ k := by
          refine Nat.le_trans (List.length_filterMap_le _ _) ?_
          rw [List.length_take]; omega
        have HZ := Lib.hid (And.intro hgs (And.intro hevB (And.intro hv4 (And.intro hv6 (And.intro hst (And.intro hall (And.intro hlenk hbB)))))))
        have hkx : wr.heap.size < (wr.alloc (.cells #[.string xa, .string xb] 91)).heap.size := by simp
        have HKx := Lib.hid (And.intro hkx (And.intro (show (wr.alloc (.cells #[.string xa, .string xb] 91)).cell? ⟨wr.heap.size, 0, none⟩ = some (.string xa) by simp) (show (wr.alloc (.cells #[.string xa, .string xb] 91)).cell? ⟨wr.heap.size, 1, none⟩ = some (.string xb) by simp)))
        clear hgs hev hevB hv4 hv6 hst hall hkn hnn hx hlenk v0 v1 v2 v3 v4 v5 v6 hkx hbB
        cases hse : t.seen time 0 with
        | none =>
          have HR : Hid (M.imageA time = (⟨0, []⟩, 26)) := by
            unfold Hid
            rw [HM.out, if_neg]
            intro hall
            have := List.all_eq_true.1 hall _ hxm
            unfold St.toldF at this
            rw [ht] at this
            dsimp only at this
            rw [hse] at this
            cases this
          have hsa : t.seenA time 0 = ([], 26) := by unfold Tab.seenA; rw [hse]
          rw [hsa] at HSeen
          clear hse hsa hsn hxm ht
          go_wp2
          go_quiet (fail)
          go_wp2_with fail
          refine (HSeen.out _).1.mono ?_
          rintro e w3 ⟨v, gP, rfl, hfe, hh⟩
          have hev3 := (HZ.out.2.1.drewN nq).of_below (hfe.below (noP3.fam _))
          have v2 := (hev3.fam.holds .v).frozen (i := 0) HZ.out.2.2.1
          have v3 := (hev3.fam.holds .v).frozen (i := 1) HZ.out.2.2.1
          have v4 := (hev3.fam.holds .v).lt HZ.out.2.2.1
          have v5 := (hev3.fam.holds .v).cell (i := 0) HZ.out.2.2.1 rfl
          have v6 := (hev3.fam.holds .v).cell (i := 1) HZ.out.2.2.1 rfl
          have hs1 := hev3.setCell (c := .v) (i := 0) HZ.out.2.2.1 (.int .i64 0)
          have hs2 := hs1.setCell (c := .v) (b := b4) (i := 1) (by rw [upd_same]; exact Gh.put_same _ _ _) (.slice none 0 0)
          have HY := Lib.hid (hs2.below (by rw [← hb4]; exact noP4.fam w))
          clear hev3 hs1 hs2 hfe hh HTab HCells
          go_wp2
          exact bodyPost_ret (v := .tuple #[.agg #[.int .i64 0, .slice none 0 0], .int .i64 26]) (by simp [results, Tryz.results15, go_sem, v5, v6]) rfl (ImageDoes.fail HR.out (by rw [hb4]; exact HY.out))
        | some l =>
          have hsa : t.seenA time 0 = (l, 0) := by unfold Tab.seenA; rw [hse]
          rw [hsa] at HSeen
          have hmore : (ks.take (k + 1)).filterMap (M.storedF time) = (ks.take k).filterMap (M.storedF time) ++ [⟨(xa, xb), l, t.next⟩] := by
            rw [hsn, List.filterMap_append]
            simp [St.storedF, ht, hsa]
          have htold : (∀ x ∈ ks.take k, M.toldF time x = true) → ∀ x ∈ ks.take (k + 1), M.toldF time x = true := fun h x hx => by
            rw [hsn] at hx
            rcases List.mem_append.1 hx with h1 | h1
            · exact h x h1
            · simp only [List.mem_cons, List.not_mem_nil, or_false] at h1
              subst h1
              unfold St.toldF
              rw [ht]
              dsimp only
              rw [hse]
              rfl
          have HF := Lib.hid (And.intro hmore htold)
          clear hse hsa hsn hxm ht hmore htold
          go_wp2
          go_quiet (fail)
          go_wp2_with fail
          refine (HSeen.out _).1.mono ?_
          rintro e w3 ⟨v, gP, rfl, hfe, hh⟩
          obtain ⟨A3, c3, rfl⟩ : ∃ A3 c3, v = .slice A3 l.length c3 := by
            obtain ⟨css, _, hown⟩ := hh
            obtain ⟨A2, c2, h, _, _⟩ := hown.form
            exact ⟨A2, c2, h⟩
          have hbS := hfe.below (noP3.fam _)
          have hapo : Apart (gP .o) (gP .r) := hfe.fam.apart .o .r (by simp)
          have hev3 := (HZ.out.2.1.drewN nq).of_below_new hbS ((hfe.fam.holds .o).or (hfe.fam.holds .r)) (fun b hb => by
            unfold Gh.or at hb
            cases h1 : gP .o b with
            | some o1 => exact hfe.fam.base .o b (by rw [h1]; simp)
            | none => rw [h1] at hb; exact hfe.fam.base .r b (by simpa using hb)) .r
          have hsubN : Sub ((gP .o).or (gP .r)) ((g .r).or ((gP .o).or (gP .r))) := fun b o hb => Gh.or_right (fun c => by
            cases h1 : g .r c with
            | none => exact .inl rfl
            | some o1 =>
              right
              cases h2 : ((gP .o).or (gP .r)) c with
              | none => rfl
              | some o2 =>
                have h4 := (HZ.out.2.1.fam.holds .r).lt h1
                have h3 : ((wr.alloc (.cells #[.string xa, .string xb] 91)).drewN nq).heap.size ≤ c := by
                  unfold Gh.or at h2
                  cases h5 : gP .o c with
                  | some o1 => exact hfe.fam.base .o c (by rw [h5]; simp)
                  | none => rw [h5] at h2; exact hfe.fam.base .r c (by simpa using (show gP .r c ≠ none by simp at h2; rw [h2]; simp))
                rw [World.heap_drewN] at h3
                omega) hb
          have hnew : StoredIs ((g .r).or ((gP .o).or (gP .r))) ⟨(xa, xb), l, t.next⟩ [.string xa, .string xb, .slice A3 l.length c3, .int .i64 t.next] :=
            ⟨_, rfl, (hh.sub2 (fun b o hb => Gh.or_left _ _ hb) (fun b o hb => Gh.or_right hapo hb)).sub hsubN⟩
          have hcx := (HSeen.out nq).2
          have e0 : w3.cell? ⟨y.tb (xa, xb), 1, none⟩ = some (.int .i64 t.next) := by
            have hlt : y.tb (xa, xb) < ((wr.alloc (.cells #[.string xa, .string xb] 91)).drewN nq).heap.size := by
              obtain ⟨o, ho, _⟩ := not_walk_of_cell hcx
              exact (Array.getElem?_eq_some_iff.1 ho).1
            exact (hbS.cell (p := ⟨_, _, none⟩) hlt).trans hcx
          have e1 : w3.cell? ⟨wr.heap.size, 0, none⟩ = some (.string xa) := (hbS.cell (p := ⟨_, _, none⟩) HKx.out.1).trans HKx.out.2.1
          have e2 : w3.cell? ⟨wr.heap.size, 1, none⟩ = some (.string xb) := (hbS.cell (p := ⟨_, _, none⟩) HKx.out.1).trans HKx.out.2.2
          have e3 : w3.cell? ⟨b4 + 1, 1, none⟩ = some (.slice A2 ((ks.take k).filterMap (M.storedF time)).length c2) := (hev3.fam.holds .v).cell (by rw [upd_other _ _ (by simp)]; exact HZ.out.2.2.2.1) rfl
          generalize hkx : wr.heap.size = kx at *
          obtain ⟨g3, hg3⟩ : ∃ g3, g3 = upd g .r ((g .r).or ((gP .o).or (gP .r))) := ⟨_, rfl⟩
          obtain ⟨css, hcss, hown⟩ := HZ.out.2.2.2.2.1
          have hR3 : Sub (g .r) (g3 .r) := by rw [hg3, upd_same]; exact fun b o hb => Gh.or_left _ _ hb
          have hN3 : StoredIs (g3 .r) ⟨(xa, xb), l, t.next⟩ [.string xa, .string xb, .slice A3 l.length c3, .int .i64 t.next] := by rw [hg3, upd_same]; exact hnew
          have ho3 : g3 .o = g .o := by rw [hg3]; exact upd_other _ _ (by simp)
          have hs3 : g3 .s = g .s := by rw [hg3]; exact upd_other _ _ (by simp)
          have hv3 : g3 .v = g .v := by rw [hg3]; exact upd_other _ _ (by simp)
          rw [← hg3] at hev3
          rw [← ho3] at hown
          have hcss3 := (hcss.imp fun _ _ k => k.sub hR3).append (.cons hN3 .nil)
          have hAp := hev3.drew.alloc .o (.cells #[.string xa, .string xb, .slice A3 l.length c3, .int .i64 t.next] 72)
          have hne3 : ∀ {b o}, g3 .o b = some o → b ≠ w3.heap.size := fun hb => (hev3.fam.holds .o).ne_size hb
          have hG0 : Holds ((g3 .o).put w3.heap.size (.cells #[.string xa, .string xb, .slice A3 l.length c3, .int .i64 t.next] 72)) (w3.alloc (.cells #[.string xa, .string xb, .slice A3 l.length c3, .int .i64 t.next] 72)).drew := by have := hAp.fam.holds .o; rw [upd_same] at this; exact this
          have hO0 : Own ((g3 .o).put w3.heap.size (.cells #[.string xa, .string xb, .slice A3 l.length c3, .int .i64 t.next] 72)) 72 4 (.slice A2 ((ks.take k).filterMap (M.storedF time)).length c2) ((ks.take k).filterMap (M.storedF time)).length css.flatten := hown.keep (fun b o _ hb => Gh.put_some _ hb (hne3 hb))
          have hS0 : Span ((g3 .o).put w3.heap.size (.cells #[.string xa, .string xb, .slice A3 l.length c3, .int .i64 t.next] 72)) (some ⟨w3.heap.size, 0, none⟩) [.string xa, .string xb, .slice A3 l.length c3, .int .i64 t.next] := .inr ⟨_, 0, _, _, _, rfl, Gh.put_same _ _ _, by simp⟩
          have hlk2 := HZ.out.2.2.2.2.2.2.1
          have n6 : b4 + 1 < w3.heap.size := (hev3.fam.holds .v).lt (by rw [hv3]; exact HZ.out.2.2.2.1)
          have n7 : kx < w3.heap.size := by obtain ⟨o, ho, _⟩ := not_walk_of_cell e1; exact (Array.getElem?_eq_some_iff.1 ho).1
          have n8 : y.tb (xa, xb) < w3.heap.size := by obtain ⟨o, ho, _⟩ := not_walk_of_cell e0; exact (Array.getElem?_eq_some_iff.1 ho).1
          have hgs3 : g3 .s = GS := hs3.trans HZ.out.1
          have hv43 : g3 .v b4 = some (.cells #[.int .i64 0, .slice none 0 0] 24 (0, 0)) := by rw [hv3]; exact HZ.out.2.2.1
          have hv63 : g3 .v (b4 + 1) = some (.cells #[.int .i64 time, .slice A2 ((ks.take k).filterMap (M.storedF time)).length c2] 24 (0, 0)) := by rw [hv3]; exact HZ.out.2.2.2.1
          have hall3 := HF.out.2 HZ.out.2.2.2.2.2.1
          have hmore3 := HF.out.1
          generalize hfm : (ks.take k).filterMap (M.storedF time) = fm at *
          have hfl : fm.length ≤ 1000000 := by omega
          have HAp : Hid (∀ v' G' w4, Appended ((g3 .o).put w3.heap.size (.cells #[.string xa, .string xb, .slice A3 l.length c3, .int .i64 t.next] 72)) (w3.alloc (.cells #[.string xa, .string xb, .slice A3 l.length c3, .int .i64 t.next] 72)).drew 72 4 (.slice A2 fm.length c2) (fm.length + 1) (css.flatten ++ [.string xa, .string xb, .slice A3 l.length c3, .int .i64 t.next]) v' G' w4 → FEv b4 noP4 w (upd (upd g3 .o ((g3 .o).put w3.heap.size (.cells #[.string xa, .string xb, .slice A3 l.length c3, .int .i64 t.next] 72))) .o G') w4 ∧ w4.cell? ⟨b4 + 1, 1, none⟩ = some (.slice A2 fm.length c2) ∧ w4.frozen? ⟨b4 + 1, 1, none⟩ = false) := fun v' G' w4 happ => by
            have h1 := hAp.then (c := .o) (G' := G') (by rw [upd_same]; exact happ.1)
            have h2 : (upd (upd g3 .o ((g3 .o).put w3.heap.size (.cells #[.string xa, .string xb, .slice A3 l.length c3, .int .i64 t.next] 72))) .o G') .v (b4 + 1) = some (.cells #[.int .i64 time, .slice A2 fm.length c2] 24 (0, 0)) := by rw [upd_other _ _ (by simp), upd_other _ _ (by simp)]; exact hv63
            exact ⟨h1, (h1.fam.holds .v).cell h2 rfl, (h1.fam.holds .v).frozen h2⟩
          have HStep : Hid (∀ A5 c5 G' w4, Appended ((g3 .o).put w3.heap.size (.cells #[.string xa, .string xb, .slice A3 l.length c3, .int .i64 t.next] 72)) (w3.alloc (.cells #[.string xa, .string xb, .slice A3 l.length c3, .int .i64 t.next] 72)).drew 72 4 (.slice A2 fm.length c2) (fm.length + 1) (css.flatten ++ [.string xa, .string xb, .slice A3 l.length c3, .int .i64 t.next]) (.slice A5 (fm.length + 1) c5) G' w4 → ∃ g5 : P4 → Gh, g5 .s = GS ∧ FEv b4 noP4 w g5 (w4.setCell ⟨b4 + 1, 1, none⟩ (.slice A5 (fm.length + 1) c5)) ∧ g5 .v b4 = some (.cells #[.int .i64 0, .slice none 0 0] 24 (0, 0)) ∧ g5 .v (b4 + 1) = some (.cells #[.int .i64 time, .slice A5 (fm.length + 1) c5] 24 (0, 0)) ∧ StoredsAt (g5 .o) (g5 .r) (.slice A5 (fm.length + 1) c5) ((ks.take (k + 1)).filterMap (M.storedF time))) := fun A5 c5 G' w4 happ => by
            have h1 := (HAp.out _ G' w4 happ).1
            have h2 := h1.setCell (c := .v) (b := b4 + 1) (i := 1) (by rw [upd_other _ _ (by simp), upd_other _ _ (by simp)]; exact hv63) (.slice A5 (fm.length + 1) c5)
            refine ⟨_, ?_, h2, ?_, ?_, css ++ [[.string xa, .string xb, .slice A3 l.length c3, .int .i64 t.next]], ?_, ?_⟩
            · rw [upd_other _ _ (by simp), upd_other _ _ (by simp), upd_other _ _ (by simp)]; exact hgs3
            · rw [upd_same, Gh.put_other _ _ (by omega), upd_other _ _ (by simp), upd_other _ _ (by simp)]; exact hv43
            · rw [upd_same]; exact Gh.put_same _ _ _
            · rw [upd_other _ _ (by simp), upd_other _ _ (by simp), upd_other _ _ (by simp), hmore3]; exact hcss3
            · rw [upd_other _ _ (by simp), upd_same, hmore3, List.length_append, List.flatten_append]
              simpa using happ.2.1
          clear hbS hfe hh hapo hsubN hcx HKx hAp hne3 hcss3 hN3 hR3 ho3 hs3 hv3 hgs3 hv43 hv63 hmore3 hown hcss hev3 hg3 hnew HSeen HTab HCells
          have HAll := Lib.hid hall3
          obtain ⟨hi0, hz0, hz1, hz2⟩ := HINF.out
          clear hall3 hfm hlk HZ HF HINF HKS HGS HST HM hcm hc0 hc1 hN h5 h6 hk1
          go_wp2
          go_region_law ((refine step_append_ev rfl _ _ 22 rfl hG0 72 i0 _ 4 64 Tryz.underlying22 hi0 hz0 hz1 hz2 rfl (by decide) (.slice A2 fm.length c2) fm.length css.flatten rfl hO0 (some ⟨w3.heap.size, 0, none⟩) 1 1 _ rfl rfl hS0 (by simp) (by simp [Value.oneCell']) (by unfold maxLen; omega) (by omega) ?_; intro v' G' w4 happ; obtain ⟨hE4, t0, t1⟩ := HAp.out v' G' w4 happ; obtain ⟨A5, c5, rfl, hc5, _⟩ := happ.2.1.form))
          all_goals
            obtain ⟨g5, k1, k2, k3, k4, k5⟩ := HStep.out _ _ _ _ happ
            have HY := Lib.hid (And.intro k1 (And.intro k2 (And.intro k3 (And.intro k4 k5))))
            clear k1 k2 k3 k4 k5 happ hE4 t0 t1 e0 e1 e2 e3 n6 n7 n8 hG0 hO0 hS0
            go_wp2
            refine ⟨⟨k + 1, g5, _, by omega, by go_num, HY.out.1, HY.out.2.1, HY.out.2.2.1, HY.out.2.2.2.1, HY.out.2.2.2.2, HAll.out⟩, by simp [RowKit.intOf]; omega⟩
end Go.Ju

/- 'Add'. -/
import Derived.Test.YthdnjokioboehaaGreatDoorPut
namespace Go.Ju
open Go.RowKit
open Go.Proofs
open Go.ChangeMaps

/-- Blocks that a caller holds beside the store. -/
structure Beside (g : Comp → Gh) (G : Gh) (w : World) : Prop where
  holds : Holds G w
  apart : ∀ c, Apart (g c) G
theorem Beside.step {B : Nat} {g g' : Comp → Gh} {w w' : World} {G : Gh} (h : Beside g G w) (he : FEv B g w g' w') : Beside g' G w' := by
  obtain ⟨h1, h2⟩ := he.frameG h.holds h.apart
  exact ⟨h1, h2⟩
theorem Beside.below {g : Comp → Gh} {w w' : World} {G : Gh} (h : Beside g G w) (hb : Below w.heap.size w w') : Beside g G w' := ⟨h.holds.below hb, h.apart⟩
theorem Beside.drewN {g : Comp → Gh} {w : World} {G : Gh} (h : Beside g G w) (n : Nat) : Beside g G (w.drewN n) := ⟨h.holds, h.apart⟩
theorem Beside.new {B : Nat} {g : Comp → Gh} {w : World} (h : Fam B g w) (o : Obj) : Beside g (Gh.nil.put w.heap.size o) (w.alloc o) :=
  ⟨(Holds.nil w).alloc o, fun c b => by
    by_cases e : b = w.heap.size
    · subst e; exact .inl (h.holds c).fresh
    · right; rw [Gh.put_other _ _ e]; rfl⟩
theorem FEv.more {B : Nat} {g g' : Comp → Gh} {w w' : World} (h : FEv B g w g' w') (o : Obj) : FEv B g w g' (w'.alloc o) := h.of_below ((Below.refl _ _).alloc (Nat.le_refl _) o)

theorem aput_aput {κ β : Type} [DecidableEq κ] (l : List (κ × β)) (k : κ) (a b : β) : aput (aput l k a) k b = aput l k b := by
  by_cases h : k ∈ l.map Prod.fst
  · have h2 : k ∈ (aput l k a).map Prod.fst := by rw [aput_keys_old a h]; exact h
    unfold aput at h2 ⊢
    rw [if_pos h] at h2 ⊢
    rw [if_pos h2, if_pos h, List.map_map]
    apply List.map_congr_left
    intro p _
    simp only [Function.comp]
    by_cases e : p.1 = k
    · simp [e]
    · simp [e]
  · have h2 : k ∈ (aput l k a).map Prod.fst := by rw [aput_keys_new a h]; simp
    unfold aput at h2 ⊢
    rw [if_neg h] at h2 ⊢
    rw [if_pos h2, if_neg h, List.map_append]
    congr 1
    · rw [List.map_congr_left (g := id) (fun p hp => by rw [if_neg (fun e => h (by rw [← e]; exact List.mem_map_of_mem hp))]; rfl)]
      simp
    · simp
theorem St.find_get (M : St) (k : Key) : aget (M.find k).tabs k = some ((aget M.tabs k).getD ⟨[], 1⟩) := by
  unfold St.find
  cases ha : aget M.tabs k with
  | some t => simp [ha]
  | none => simp [aget_put_same]
theorem St.find_grow (M : St) (k : Key) : (M.find k).grow k = M.grow k := by
  unfold St.grow
  rw [St.find_get]
  unfold St.find
  cases ha : aget M.tabs k with
  | some t => simp
  | none => simp [aput_aput]
def row0 : RowS := ⟨[], false, none, 0⟩
def St.addA (M : St) (k : Key) (txn : Int) (row : List Val) : St × Int × Int := if St.argsB k txn && rowB row then M.add k txn row else (M, 0, 2)

theorem add_nil (k : Key) (txn : Int) (rv : Value) (w : World) : Calls Tryz.prog 36 #[.pointer none, .string k.1, .string k.2, encI txn, rv] w fun e w' => e = .returned (.tuple #[.int .i64 0, .int .i64 1]) ∧ w = w' := by
  unfold encI
  go_enter Tryz.func36, Tryz.ntmps36
  go_wp2
  go_ret2
  exact ⟨rfl, rfl⟩

section
variable {B : Nat} {g : Comp → Gh} {y : Lay} {M : St} {k : Key} {t : Tab} {u : World}
/-- The memory behind 't.next++; t.rows[id] = &row{}'. -/
theorem grow_ev (hu : Fam B g u) (h : Rep y M g) (ha : aget M.tabs k = some t) (hn : okI t.next) :
    ∃ x, (Instr.mapUpdate 92 (.map (some (y.rM k))) (encI t.next) (ptr u.heap.size)).run Tryz.prog ((u.setCell ⟨y.tb k, 1, none⟩ (.int .i64 (t.next + 1))).alloc (.cells #[.slice none 0 0, .bool false, .pointer none, .int .i64 0] 102)) = .ok () (setBlock ((u.setCell ⟨y.tb k, 1, none⟩ (.int .i64 (t.next + 1))).alloc (.cells #[.slice none 0 0, .bool false, .pointer none, .int .i64 0] 102)) (y.rM k) x) ∧
      ∃ g' y', FEv B g u g' (setBlock ((u.setCell ⟨y.tb k, 1, none⟩ (.int .i64 (t.next + 1))).alloc (.cells #[.slice none 0 0, .bool false, .pointer none, .int .i64 0] 102)) (y.rM k) x) ∧ Rep y' (M.grow k).1 g' ∧ y'.p = y.p := by
  obtain ⟨htb, es0, clk0, hmap0, hmo⟩ := h.tab k t (aget_mem ha)
  have hne : y.rM k ≠ y.tb k := fun e => by rw [e, htb] at hmap0; cases hmap0
  have hA := (FEv.refl hu).setCell (c := .tab k) (i := 1) htb (.int .i64 (t.next + 1))
  have hB := hA.alloc (.row k t.next) (.cells #[.slice none 0 0, .bool false, .pointer none, .int .i64 0] 102)
  have hsz : (u.setCell ⟨y.tb k, 1, none⟩ (.int .i64 (t.next + 1))).heap.size = u.heap.size := by simp
  rw [hsz, upd_other _ _ (show Comp.row k t.next ≠ .tab k by simp)] at hB
  have hMA : MapAt ((g (.tab k)).put (y.tb k) (.cells (#[.map (some (y.rM k)), .int .i64 t.next].setIfInBounds 1 (.int .i64 (t.next + 1))) 94 (0, 0))) (y.rM k) encI okI (t.rows.map fun p => (p.1, ptr (y.rb k p.1))) := ⟨es0, clk0, by rw [Gh.put_other _ _ hne]; exact hmap0, hmo⟩
  have hW : Holds ((g (.tab k)).put (y.tb k) (.cells (#[.map (some (y.rM k)), .int .i64 t.next].setIfInBounds 1 (.int .i64 (t.next + 1))) 94 (0, 0))) ((u.setCell ⟨y.tb k, 1, none⟩ (.int .i64 (t.next + 1))).alloc (.cells #[.slice none 0 0, .bool false, .pointer none, .int .i64 0] 102)) := by
    have := hB.fam.holds (.tab k)
    rwa [upd_other _ _ (by simp), upd_same] at this
  obtain ⟨x, hx1, hx2, hx3⟩ := MapAt.update klI Tryz.underlying92 hW hMA (k := t.next) hn row0 (fun p => ptr (ins (y.rb k) t.next u.heap.size p.1)) (fun p _ hne => by rw [ins_other _ _ hne])
  have hC := hB.then (c := .tab k) (by rw [upd_other _ _ (by simp), upd_same]; exact hx2 _ hW)
  refine ⟨x, ?_, _, { y with rM := ins y.rM k (y.rM k), rb := ins y.rb k (ins (y.rb k) t.next u.heap.size) }, hC, ?_, rfl⟩
  · have := hx1 _ hW
    rw [ins_same] at this
    exact this
  · rw [show (M.grow k).1 = { M with tabs := aput M.tabs k ⟨aput t.rows t.next row0, t.next + 1⟩ } by simp [St.grow, ha, row0]]
    refine h.setTab ha _ _ _ (fun c h1 h2 h3 h4 => by rw [upd_other _ _ h3, upd_other _ _ (h4 _), upd_other _ _ h3]) (by rw [upd_other _ _ (by simp), upd_other _ _ (by simp), upd_other _ _ (by simp)]; exact Sub.refl _) ?_ (fun i r hr => ?_)
    · rw [upd_same]
      refine ⟨?_, hx3⟩
      rw [Gh.put_other _ _ (Ne.symm hne), Gh.put_same]
      rfl
    · rcases mem_aput hr with e | ⟨h1, h2⟩
      · cases e
        rw [upd_other _ _ (by simp), upd_same, ins_same]
        exact ⟨_, _, Gh.put_same _ _ _, ⟨[], .nil, Own.nil _ _ _⟩, rfl⟩
      · rw [upd_other _ _ (by simp), upd_other _ _ (by simpa using h2), upd_other _ _ (by simp), upd_other _ _ (by simp), upd_other _ _ (by simp), upd_other _ _ (by simp), ins_other _ _ h2]
        exact h.row k t (aget_mem ha) i r h1
end

theorem Rep.quiet_tmp {B : Nat} {g g' : Comp → Gh} {w w' : World} {y : Lay} {M : St} (h : Rep y M g) (_ : FEv B g w g' w') (e : g' = g) : Rep y M g' := by rw [e]; exact h
def keyCells (a : Nat) (k : Key) (u : World) : Prop := u.cell? ⟨a, 0, none⟩ = some (.string k.1) ∧ u.cell? ⟨a, 1, none⟩ = some (.string k.2)
def keyObj (k : Key) : Obj := .cells #[.string k.1, .string k.2] 91
theorem Beside.key {g : Comp → Gh} {a : Nat} {k : Key} {u : World} (h : Beside g (Gh.nil.put a (keyObj k)) u) : keyCells a k u := ⟨h.holds.cell (Gh.put_same _ _ _) rfl, h.holds.cell (Gh.put_same _ _ _) rfl⟩

set_option maxRecDepth 100000 in
theorem add_any (B N : Nat) (g : Comp → Gh) (G : Gh) (w : World) (y : Lay) (M : St) (k : Key) (txn : Int) (rv : Value) (l : List Val) (hF : Fam B g w) (h : Rep y M g) (hfit : Fit N M) (hN : N ≤ 1000000) (hnul : Nul w) (hrow : ArgRow G w rv l) (hap : ∀ c, Apart (g c) G) :
    Calls Tryz.prog 36 #[ptr y.p, .string k.1, .string k.2, encI txn, rv] w (Does B g w fun u g' => u = .tuple #[.int .i64 (M.addA k txn l).2.1, .int .i64 (M.addA k txn l).2.2] ∧ ∃ y', Rep y' (M.addA k txn l).1 g' ∧ y'.p = y.p) := by
  have HT := Lib.hid (isTable_any k.1 k.2)
  have HNum := Lib.hid (number_any txn)
  have HRow := Lib.hid (fun W (hW : Below w.heap.size w W) => (hrow.below hW).isRow (hnul.below hW))
  have HE := Lib.hid (FEv.refl hF)
  have HR := Lib.hid h
  cases hT : (nameB k.1 && nameB k.2) with
  | false =>
    have HM : Hid (M.addA k txn l = (M, 0, 2)) := by unfold Hid; simp [St.addA, St.argsB, hT]
    rw [hT] at HT
    clear hap hF h hT hfit hrow hnul HRow HNum
    unfold encI ptr at *
    go_enter Tryz.func36, Tryz.ntmps36
    go_wp2_with (go_at_call 72; refine (HT.out _).mono ?_; rintro e w1 ⟨rfl, hb1⟩)
    go_ret2
    exact ⟨_, _, rfl, HE.out.of_below hb1, (congrArg (fun p : St × Int × Int => Value.tuple #[.int .i64 p.2.1, .int .i64 p.2.2]) HM.out).symm, y, by rw [HM.out]; exact HR.out, rfl⟩
  | true =>
    rw [hT] at HT
    cases hn : numB txn with
    | false =>
      have HM : Hid (M.addA k txn l = (M, 0, 2)) := by unfold Hid; simp [St.addA, St.argsB, hn]
      rw [hn] at HNum
      clear hap hF h hT hfit hn hrow hnul HRow
      unfold encI ptr at *
      go_enter Tryz.func36, Tryz.ntmps36
      go_wp2_with (first | (go_at_call 72; refine (HT.out _).mono ?_; rintro e w1 ⟨rfl, hb1⟩) | (go_at_call 65; refine (HNum.out _).mono ?_; rintro e w2 ⟨rfl, rfl⟩))
      go_ret2
      exact ⟨_, _, rfl, HE.out.of_below hb1, (congrArg (fun p : St × Int × Int => Value.tuple #[.int .i64 p.2.1, .int .i64 p.2.2]) HM.out).symm, y, by rw [HM.out]; exact HR.out, rfl⟩
    | true =>
      rw [hn] at HNum
      cases hrb : rowB l with
      | false =>
        have HM : Hid (M.addA k txn l = (M, 0, 2)) := by unfold Hid; simp [St.addA, hrb]
        rw [hrb] at HRow
        clear hap hF h hT hfit hn hrow hnul hrb
        unfold encI ptr at *
        go_enter Tryz.func36, Tryz.ntmps36
        go_wp2_with (first | (go_at_call 72; refine (HT.out _).mono ?_; rintro e w1 ⟨rfl, hb1⟩) | (go_at_call 65; refine (HNum.out _).mono ?_; rintro e w2 ⟨rfl, rfl⟩))
        refine (HRow.out _ hb1).mono ?_
        rintro e w3 ⟨rfl, hb3⟩
        go_wp2
        go_ret2
        exact ⟨_, _, rfl, (HE.out.of_below hb1).of_below hb3, (congrArg (fun p : St × Int × Int => Value.tuple #[.int .i64 p.2.1, .int .i64 p.2.2]) HM.out).symm, y, by rw [HM.out]; exact HR.out, rfl⟩
      | true =>
        have hM : M.addA k txn l = M.add k txn l := by simp [St.addA, St.argsB, hT, hn, hrb]
        rw [hrb] at HRow
        have HX := Lib.hid (And.intro hfit (And.intro hN (And.intro hrow (And.intro (numB_ok hn) hap))))
        clear hap hF h hT hfit hn hrow hnul hrb
        unfold encI ptr at *
        go_enter Tryz.func36, Tryz.ntmps36
        go_wp2_with (first | (go_at_call 72; refine (HT.out _).mono ?_; rintro e w1 ⟨rfl, hb1⟩) | (go_at_call 65; refine (HNum.out _).mono ?_; rintro e w2 ⟨rfl, rfl⟩))
        refine (HRow.out _ hb1).mono ?_
        rintro e w3 ⟨rfl, hb3⟩
        go_wp2
        refine World.abs (fun u => FEv B g w g u ∧ Beside g (Gh.nil.put w3.heap.size (keyObj k)) u ∧ Beside g G u) ?_ ?_
        · have hE3 := (HE.out.of_below hb1).of_below hb3
          exact ⟨hE3.more _, Beside.new hE3.fam _, ⟨(HX.out.2.2.1.holds.below (hb1.trans (hb3.mono hb1.size))).more _, HX.out.2.2.2.2⟩⟩
        rintro u ⟨hu, hbk, hbg⟩
        obtain ⟨c0, c1, c2, c3⟩ := HR.out.cells hu.fam
        obtain ⟨e1, e2⟩ := hbk.key
        have hT1 := fun n => HR.out.lookT k (W := u.drewN n) (hu.fam.holds .tM)
        have HU := Lib.hid (And.intro hu (And.intro hbk hbg))
        have hwn : ∀ t, aget M.tabs k = some t → 1 ≤ t.next ∧ t.next ≤ 1099511627776 := fun t ht => HX.out.1.next k t (aget_mem ht)
        generalize hka : w3.heap.size = ka at *
        -- whether there is a table, and whether it has room
        have hcase : (aget M.tabs k = none) ∨ (∃ t, aget M.tabs k = some t ∧ t.full txn = true) ∨ (∃ t, aget M.tabs k = some t ∧ t.full txn = false ∧ t.next = 1099511627776) ∨ (∃ t, aget M.tabs k = some t ∧ t.full txn = false ∧ t.next ≠ 1099511627776) := by
          cases ha : aget M.tabs k with
          | none => exact .inl rfl
          | some t =>
            cases hf : t.full txn with
            | true => exact .inr (.inl ⟨t, rfl, hf⟩)
            | false =>
              by_cases hnx : t.next = 1099511627776
              · exact .inr (.inr (.inl ⟨t, rfl, hf, hnx⟩))
              · exact .inr (.inr (.inr ⟨t, rfl, hf, hnx⟩))
        rcases hcase with ha | ⟨t, ha, hfl⟩ | ⟨t, ha, hfl, hnx⟩ | ⟨t, ha, hfl, hnx⟩
        · rw [ha] at hT1
          have HM : Hid (M.addA k txn l = ((M.grow k).1.set k txn (M.grow k).2 ⟨0, false, l⟩, (M.grow k).2, 0)) := by unfold Hid; rw [hM]; simp [St.add, ha]
          have hwd : 1 ≤ ((aget M.tabs k).getD ⟨[], 1⟩).next ∧ ((aget M.tabs k).getD ⟨[], 1⟩).next ≤ 1099511627776 := by rw [ha]; simp
          unfold encK at *
          clear hu hbk hbg hM hwn ha
          go_quiet (fail)
          go_wp2_with fail
          have HFind := Lib.hid (fun W (hW : FEv B g w g W) => find_any B g W y M k hW.fam HR.out)
          refine (HFind.out _ (HU.out.1.drewN _)).mono ?_
          rintro e w4 ⟨v4, g4, rfl, hf4, y4, rfl, hr4, hp4⟩
          have hk4 := (HU.out.2.1.drewN nq).step hf4
          have hg4 := (HU.out.2.2.drewN nq).step hf4
          have hE4 := (HU.out.1.drewN _).trans hf4
          have hgr := grow_ev hf4.fam hr4 (St.find_get M k) (t := (aget M.tabs k).getD ⟨[], 1⟩) (okI_of (by have := hwd.1; omega) (by have := hwd.2; omega))
          rw [St.find_grow] at hgr
          have htc := (hr4.tab k _ (aget_mem (St.find_get M k))).1
          have n0 : w4.cell? ⟨y4.tb k, 0, none⟩ = some (.map (some (y4.rM k))) := (hf4.fam.holds (.tab k)).cell htc rfl
          have n1 : w4.cell? ⟨y4.tb k, 1, none⟩ = some (.int .i64 ((aget M.tabs k).getD ⟨[], 1⟩).next) := (hf4.fam.holds (.tab k)).cell htc rfl
          have n2 : w4.frozen? ⟨y4.tb k, 1, none⟩ = false := (hf4.fam.holds (.tab k)).frozen htc
          have n3 : y4.tb k < w4.heap.size := (hf4.fam.holds (.tab k)).lt htc
          generalize htt : (aget M.tabs k).getD ⟨[], 1⟩ = t' at *
          obtain ⟨x, hup, g5, y5, hE5, hr5, hp5⟩ := hgr
          have hwr : IntKind.i64.wrap (t'.next + 1) = t'.next + 1 := IntWalk.i64_in _ ⟨by have := hwd.1; omega, by have := hwd.2; omega⟩
          have H5 := Lib.hid (And.intro (hE4.trans hE5) (And.intro (hk4.step hE5) (And.intro (hg4.step hE5) (And.intro hr5 (And.intro hp5 (And.intro hp4 htt))))))
          clear htc hf4 hk4 hg4 hE4 hr4 hE5 hr5
          unfold ptr encI at *
          go_wp2_with fail
          refine World.abs (fun u => FEv B g w g5 u ∧ Beside g5 (Gh.nil.put ka (keyObj k)) u ∧ Beside g5 G u) ⟨H5.out.1, H5.out.2.1, H5.out.2.2.1⟩ ?_
          clear n0 n1 n2 n3 hup hwr
          rintro u5 ⟨hu5, hk5, hg5⟩
          obtain ⟨e3, e4⟩ := hk5.key
          have hgrow : (M.grow k) = ({ M with tabs := aput M.tabs k ⟨aput t'.rows t'.next row0, t'.next + 1⟩ }, t'.next) := by simp only [St.grow, H5.out.2.2.2.2.2.2]; rfl
          have HCl := Lib.hid (fun W (hW : Below w3.heap.size w3 W ∨ True) (hh : Beside g5 G W) => (ArgRow.mk hh.holds HX.out.2.2.1.at' HX.out.2.2.1.nil HX.out.2.2.1.len : ArgRow G W rv l).clone)
          have HSet := Lib.hid (fun W g6 (rv6 : Value) (hW : FEv B g5 u5 g6 W) (hr : Rep y5 (M.grow k).1 g6) (hv : RowAt (g6 .imm) rv6 l) => set_any B g6 W y5 (M.grow k).1 k ⟨aput t'.rows t'.next row0, t'.next + 1⟩ row0 t'.next txn ⟨0, false, l⟩ rv6 hW.fam hr (by rw [hgrow]; exact aget_put_same _ _ _) (aget_put_same _ _ _) HX.out.2.2.2.1 (okI_of (by have := hwd.1; omega) (by have := hwd.2; omega)) (by rw [hgrow]; have := HX.out.1.lg txn; have := HX.out.2.1; change (St.lg M txn).length ≤ _; omega) hv)
          have H6 := Lib.hid (And.intro hu5 (And.intro hk5 hg5))
          have HG := Lib.hid hgrow
          rw [hp4] at hp5
          clear hu5 hk5 hg5 hgrow
          unfold ptr encI encK at *
          rw [hp5] at HSet
          go_region_held3 (fun u' => u'.cell? ⟨ka, 0, none⟩ = some (.string k.1) ∧ u'.cell? ⟨ka, 1, none⟩ = some (.string k.2))
            (go_keep)
            (first
              | ((go_at_call 42; refine (HCl.out _ (.inr trivial) ⟨H6.out.2.2.holds.drew, H6.out.2.2.apart⟩).mono ?_; rintro e w6 ⟨rv6, Gr, rfl, hb6, hh6, hf6, hrow6⟩; have hv6 := hrow6; obtain ⟨A6, c6, rfl, _, _⟩ := hv6; obtain ⟨g6, hE6, hR6, hV6⟩ := (FEv.refl H6.out.1.fam).drew.clone H5.out.2.2.2.1 hb6 hh6 hf6 hrow6; have hK6 := H6.out.2.1.step hE6; obtain ⟨e5, e6⟩ := hK6.key))
              | ((go_at_call 75; refine (HSet.out _ _ _ hE6 hR6 hV6).mono ?_; rintro e w7 ⟨v7, g7, rfl, hf7, rfl, y7, hr7, hp7⟩; obtain ⟨e7, e8⟩ := (hK6.step hf7).key)))
          go_wp2
          go_ret2
          have hfin : M.addA k txn l = ((M.grow k).1.set k txn t'.next ⟨0, false, l⟩, t'.next, 0) := by rw [HM.out, HG.out]
          refine ⟨_, _, rfl, (H6.out.1.trans hE6).trans hf7, (congrArg (fun p : St × Int × Int => Value.tuple #[.int .i64 p.2.1, .int .i64 p.2.2]) hfin).symm, y7, by rw [hfin]; exact hr7, hp7⟩
        · rw [ha] at hT1
          have HM : Hid (M.addA k txn l = (M, 0, 3)) := by unfold Hid; rw [hM]; simp [St.add, ha, hfl]
          have HFull := Lib.hid (fun n => full_any (g (.tab k)) (g .imm) (fun i => g (.row k i)) (u.drewN n) (y.tb k) (y.rM k) t (y.rb k) txn (hu.fam.holds _) (hu.fam.holds _) (fun i => hu.fam.holds _) (HR.out.tab k t (aget_mem ha)) (fun i r hr => HR.out.row k t (aget_mem ha) i r hr) (fun i r hr => by have := HX.out.1.old k t (aget_mem ha) i r hr; omega) (by have := HX.out.1.rows k t (aget_mem ha); have := HX.out.2.1; omega))
          rw [hfl] at HFull
          unfold encK ptr at *
          clear hu hbk hbg hM hwn ha hfl
          go_quiet (fail)
          go_wp2_with (go_at_call 74; refine (HFull.out _).mono ?_; rintro e wf ⟨rfl, hbf⟩)
          go_ret2
          exact ⟨_, _, rfl, (HU.out.1.drewN _).of_below hbf, (congrArg (fun p : St × Int × Int => Value.tuple #[.int .i64 p.2.1, .int .i64 p.2.2]) HM.out).symm, y, by rw [HM.out]; exact HR.out, rfl⟩
        · rw [ha] at hT1
          have HM : Hid (M.addA k txn l = (M, 0, 3)) := by unfold Hid; rw [hM]; simp [St.add, ha, hnx]
          have HTab := Lib.hid (HR.out.tab k t (aget_mem ha)).1
          have HFull := Lib.hid (fun n => full_any (g (.tab k)) (g .imm) (fun i => g (.row k i)) (u.drewN n) (y.tb k) (y.rM k) t (y.rb k) txn (hu.fam.holds _) (hu.fam.holds _) (fun i => hu.fam.holds _) (HR.out.tab k t (aget_mem ha)) (fun i r hr => HR.out.row k t (aget_mem ha) i r hr) (fun i r hr => by have := HX.out.1.old k t (aget_mem ha) i r hr; omega) (by have := HX.out.1.rows k t (aget_mem ha); have := HX.out.2.1; omega))
          rw [hfl] at HFull
          unfold encK ptr at *
          clear hu hbk hbg hM hwn ha hfl
          go_quiet (fail)
          go_wp2_with fail
          refine (HFull.out _).mono ?_
          rintro e wf ⟨rfl, hbf⟩
          have hPf := (HU.out.1.drewN nq).of_below hbf
          have hKf := Beside.below (w := u.drewN nq) ⟨HU.out.2.1.holds, HU.out.2.1.apart⟩ hbf
          have hGf := Beside.below (w := u.drewN nq) ⟨HU.out.2.2.holds, HU.out.2.2.apart⟩ hbf
          obtain ⟨e3, e4⟩ := hKf.key
          have hnx1 : wf.cell? ⟨y.tb k, 1, none⟩ = some (.int .i64 t.next) := (hPf.fam.holds (.tab k)).cell HTab.out rfl
          have HPf := Lib.hid (And.intro hPf (And.intro hKf hGf))
          clear hPf hKf hGf hbf
          rw [hnx] at hnx1
          go_wp2
          go_ret2
          exact ⟨_, _, rfl, HPf.out.1, (congrArg (fun p : St × Int × Int => Value.tuple #[.int .i64 p.2.1, .int .i64 p.2.2]) HM.out).symm, y, by rw [HM.out]; exact HR.out, rfl⟩
        · rw [ha] at hT1
          have HM : Hid (M.addA k txn l = ((M.grow k).1.set k txn (M.grow k).2 ⟨0, false, l⟩, (M.grow k).2, 0)) := by unfold Hid; rw [hM]; simp [St.add, ha, hfl, hnx]
          have HTab := Lib.hid (HR.out.tab k t (aget_mem ha)).1
          have hwd : 1 ≤ ((aget M.tabs k).getD ⟨[], 1⟩).next ∧ ((aget M.tabs k).getD ⟨[], 1⟩).next ≤ 1099511627776 := by rw [ha]; exact hwn t ha
          have hnb : (t.next == 1099511627776) = false := by simpa using hnx
          have HFull := Lib.hid (fun n => full_any (g (.tab k)) (g .imm) (fun i => g (.row k i)) (u.drewN n) (y.tb k) (y.rM k) t (y.rb k) txn (hu.fam.holds _) (hu.fam.holds _) (fun i => hu.fam.holds _) (HR.out.tab k t (aget_mem ha)) (fun i r hr => HR.out.row k t (aget_mem ha) i r hr) (fun i r hr => by have := HX.out.1.old k t (aget_mem ha) i r hr; omega) (by have := HX.out.1.rows k t (aget_mem ha); have := HX.out.2.1; omega))
          rw [hfl] at HFull
          unfold encK ptr at *
          clear hu hbk hbg hM hwn ha hfl hnx
          go_quiet (fail)
          go_wp2_with fail
          refine (HFull.out _).mono ?_
          rintro e wf ⟨rfl, hbf⟩
          have hPf := (HU.out.1.drewN nq).of_below hbf
          have hKf := Beside.below (w := u.drewN nq) ⟨HU.out.2.1.holds, HU.out.2.1.apart⟩ hbf
          have hGf := Beside.below (w := u.drewN nq) ⟨HU.out.2.2.holds, HU.out.2.2.apart⟩ hbf
          obtain ⟨e3, e4⟩ := hKf.key
          have hnx1 : wf.cell? ⟨y.tb k, 1, none⟩ = some (.int .i64 t.next) := (hPf.fam.holds (.tab k)).cell HTab.out rfl
          have HPf := Lib.hid (And.intro hPf (And.intro hKf hGf))
          clear hPf hKf hGf hbf
          go_wp2_with fail
          clear hnx1 hnb HTab HFull
          have HFind := Lib.hid (fun W (hW : FEv B g w g W) => find_any B g W y M k hW.fam HR.out)
          refine (HFind.out _ HPf.out.1).mono ?_
          rintro e w4 ⟨v4, g4, rfl, hf4, y4, rfl, hr4, hp4⟩
          have hk4 := HPf.out.2.1.step hf4
          have hg4 := HPf.out.2.2.step hf4
          have hE4 := HPf.out.1.trans hf4
          have hgr := grow_ev hf4.fam hr4 (St.find_get M k) (t := (aget M.tabs k).getD ⟨[], 1⟩) (okI_of (by have := hwd.1; omega) (by have := hwd.2; omega))
          rw [St.find_grow] at hgr
          have htc := (hr4.tab k _ (aget_mem (St.find_get M k))).1
          have n0 : w4.cell? ⟨y4.tb k, 0, none⟩ = some (.map (some (y4.rM k))) := (hf4.fam.holds (.tab k)).cell htc rfl
          have n1 : w4.cell? ⟨y4.tb k, 1, none⟩ = some (.int .i64 ((aget M.tabs k).getD ⟨[], 1⟩).next) := (hf4.fam.holds (.tab k)).cell htc rfl
          have n2 : w4.frozen? ⟨y4.tb k, 1, none⟩ = false := (hf4.fam.holds (.tab k)).frozen htc
          have n3 : y4.tb k < w4.heap.size := (hf4.fam.holds (.tab k)).lt htc
          generalize htt : (aget M.tabs k).getD ⟨[], 1⟩ = t' at *
          obtain ⟨x, hup, g5, y5, hE5, hr5, hp5⟩ := hgr
          have hwr : IntKind.i64.wrap (t'.next + 1) = t'.next + 1 := IntWalk.i64_in _ ⟨by have := hwd.1; omega, by have := hwd.2; omega⟩
          have H5 := Lib.hid (And.intro (hE4.trans hE5) (And.intro (hk4.step hE5) (And.intro (hg4.step hE5) (And.intro hr5 (And.intro hp5 (And.intro hp4 htt))))))
          clear htc hf4 hk4 hg4 hE4 hr4 hE5 hr5
          unfold ptr encI at *
          go_wp2_with fail
          refine World.abs (fun u => FEv B g w g5 u ∧ Beside g5 (Gh.nil.put ka (keyObj k)) u ∧ Beside g5 G u) ⟨H5.out.1, H5.out.2.1, H5.out.2.2.1⟩ ?_
          clear n0 n1 n2 n3 hup hwr
          rintro u5 ⟨hu5, hk5, hg5⟩
          obtain ⟨e3, e4⟩ := hk5.key
          have hgrow : (M.grow k) = ({ M with tabs := aput M.tabs k ⟨aput t'.rows t'.next row0, t'.next + 1⟩ }, t'.next) := by simp only [St.grow, H5.out.2.2.2.2.2.2]; rfl
          have HCl := Lib.hid (fun W (hW : Below w3.heap.size w3 W ∨ True) (hh : Beside g5 G W) => (ArgRow.mk hh.holds HX.out.2.2.1.at' HX.out.2.2.1.nil HX.out.2.2.1.len : ArgRow G W rv l).clone)
          have HSet := Lib.hid (fun W g6 (rv6 : Value) (hW : FEv B g5 u5 g6 W) (hr : Rep y5 (M.grow k).1 g6) (hv : RowAt (g6 .imm) rv6 l) => set_any B g6 W y5 (M.grow k).1 k ⟨aput t'.rows t'.next row0, t'.next + 1⟩ row0 t'.next txn ⟨0, false, l⟩ rv6 hW.fam hr (by rw [hgrow]; exact aget_put_same _ _ _) (aget_put_same _ _ _) HX.out.2.2.2.1 (okI_of (by have := hwd.1; omega) (by have := hwd.2; omega)) (by rw [hgrow]; have := HX.out.1.lg txn; have := HX.out.2.1; change (St.lg M txn).length ≤ _; omega) hv)
          have H6 := Lib.hid (And.intro hu5 (And.intro hk5 hg5))
          have HG := Lib.hid hgrow
          rw [hp4] at hp5
          clear hu5 hk5 hg5 hgrow
          unfold ptr encI encK at *
          rw [hp5] at HSet
          go_region_held3 (fun u' => u'.cell? ⟨ka, 0, none⟩ = some (.string k.1) ∧ u'.cell? ⟨ka, 1, none⟩ = some (.string k.2))
            (go_keep)
            (first
              | ((go_at_call 42; refine (HCl.out _ (.inr trivial) ⟨H6.out.2.2.holds.drew, H6.out.2.2.apart⟩).mono ?_; rintro e w6 ⟨rv6, Gr, rfl, hb6, hh6, hf6, hrow6⟩; have hv6 := hrow6; obtain ⟨A6, c6, rfl, _, _⟩ := hv6; obtain ⟨g6, hE6, hR6, hV6⟩ := (FEv.refl H6.out.1.fam).drew.clone H5.out.2.2.2.1 hb6 hh6 hf6 hrow6; have hK6 := H6.out.2.1.step hE6; obtain ⟨e5, e6⟩ := hK6.key))
              | ((go_at_call 75; refine (HSet.out _ _ _ hE6 hR6 hV6).mono ?_; rintro e w7 ⟨v7, g7, rfl, hf7, rfl, y7, hr7, hp7⟩; obtain ⟨e7, e8⟩ := (hK6.step hf7).key)))
          go_wp2
          go_ret2
          have hfin : M.addA k txn l = ((M.grow k).1.set k txn t'.next ⟨0, false, l⟩, t'.next, 0) := by rw [HM.out, HG.out]
          refine ⟨_, _, rfl, (H6.out.1.trans hE6).trans hf7, (congrArg (fun p : St × Int × Int => Value.tuple #[.int .i64 p.2.1, .int .i64 p.2.2]) hfin).symm, y7, by rw [hfin]; exact hr7, hp7⟩
end Go.Ju

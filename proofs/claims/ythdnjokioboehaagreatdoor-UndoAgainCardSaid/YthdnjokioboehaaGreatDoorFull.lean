/- 'full': a count over a table's rows. -/
import Derived.Test.YthdnjokioboehaaGreatDoorRead
import Derived.LoopN
namespace Go.Ju
open Go.RowKit
open Go.Proofs
open Go.MapKept

/-- How many entries an iterator has yet to hand out. -/
def walkLeft (w : World) (r b : Nat) : Nat := match w.heap[r]?, w.heap[b]? with
  | some (.mapIter _ _ seen _), some (.map es _) => (leftOf es seen).size
  | _, _ => 0
theorem Walks.left_eq {κ : Type} {enc : κ → Value} {ok : κ → Prop} {G : Gh} {r b : Nat} {left : List (κ × Value)} {w : World} (h : Walks enc ok G r b left) (hG : Holds G w) : walkLeft w r b = left.length := by
  obtain ⟨es, clk, seen, L, h1, h2, h3, h4, h5, h6⟩ := h
  unfold walkLeft
  rw [hG r _ h3, hG b _ h1]
  have := h5.length_eq
  simpa using this
theorem perm_of_map {α β : Type} {f : α → β} {R : List α} {p : β} {l : List β} (h : (R.map f).Perm (p :: l)) : ∃ q R', R.Perm (q :: R') ∧ p = f q ∧ l.Perm (R'.map f) := by
  have hp : p ∈ R.map f := h.mem_iff.2 (by simp)
  obtain ⟨q, hq, rfl⟩ := List.mem_map.1 hp
  obtain ⟨R1, R2, rfl⟩ := List.append_of_mem hq
  refine ⟨q, R1 ++ R2, List.perm_middle, rfl, ?_⟩
  have h2 : ((R1 ++ q :: R2).map f).Perm (f q :: (R1 ++ R2).map f) := List.perm_middle.map f
  exact ((h.symm.trans h2).cons_inv)
theorem Walks.congr {κ : Type} {enc : κ → Value} {ok : κ → Prop} {G : Gh} {r b : Nat} {left left' : List (κ × Value)} (h : Walks enc ok G r b left) (hp : left.Perm left') : Walks enc ok G r b left' := by
  obtain ⟨es, clk, seen, L, h1, h2, h3, h4, h5, h6⟩ := h
  exact ⟨es, clk, seen, L, h1, h2, h3, h4, h5.trans (hp.map _), fun p hp' => h6 p (hp.mem_iff.2 hp')⟩

theorem Ev.grown {G : Gh} {w w' : World} {r : Nat} {x : Obj} (h : Ev G w (G.put r x) w') (hG : Holds G w) : w.grownBy w' (some r) :=
  ⟨h.os, h.tape, h.output, h.size, fun i hi hne => by
    have hir : i ≠ r := fun e => hne (by rw [e])
    cases hg : G i with
    | none => exact h.keep i hi hg
    | some o => rw [h.holds i o (by rw [Gh.put_other _ _ hir, hg]), hG i o hg]⟩
theorem Holds.below {G : Gh} {w w' : World} (h : Holds G w) (hb : Below w.heap.size w w') : Holds G w' := fun b o hb' => (hb.block b (h.lt hb')).trans (h b o hb')

/-- Cells of a row's object, all that a count reads, in a world that keeps them. -/
structure RowFacts (I : Gh) (w : World) (b : Nat) (r : RowS) (op pl : Value) : Prop where
  opc : w.cell? ⟨b, 2, none⟩ = some op
  txn : w.cell? ⟨b, 3, none⟩ = some (.int .i64 r.txn)
  vop : VPtr I w op r.opn
  vpl : VPtr I w pl r.last
  last : Quiet 78 #[ptr b] w pl

theorem RowObj.facts {G I : Gh} {w : World} {b : Nat} {r : RowS} (hG : Holds G w) (hI : Holds I w) (h : RowObj G I b r) (hl : r.old.length ≤ 1000) : ∃ op pl, RowFacts I w b r op pl := by
  obtain ⟨sv, op, hva, _, hvp, c0, c1, c2, c3⟩ := h.cells hG hI
  obtain ⟨pl, h1, h2⟩ := last_any G I w b r hG h hl
  exact ⟨op, pl, c2, c3, hvp, h1, h2⟩

def cnt (txn : Int) (R : List (Int × RowS)) : Nat := R.countP fun p => p.2.counts txn
theorem cnt_cons (txn : Int) (q : Int × RowS) (R : List (Int × RowS)) : cnt txn (q :: R) = cnt txn R + if q.2.counts txn then 1 else 0 := by
  unfold cnt
  rw [List.countP_cons]
theorem cnt_perm {txn : Int} {R R' : List (Int × RowS)} (h : R.Perm R') : cnt txn R = cnt txn R' := h.countP_eq _

/-- The state between two rounds. -/
def FullInv (w0 : World) (m r : Nat) (rb : Int → Nat) (rows : List (Int × RowS)) (txn : Int) (n : Nat) (wr : World) : Prop :=
  ∃ (G : Gh) (R : List (Int × RowS)), Walks encI okI G r m (R.map fun p => (p.1, ptr (rb p.1))) ∧ Holds G wr ∧ (∀ q ∈ R, q ∈ rows) ∧ n + cnt txn R = cnt txn rows ∧ Below w0.heap.size w0 wr

theorem full_any (G I : Gh) (gr : Int → Gh) (w : World) (b m : Nat) (t : Tab) (rb : Int → Nat) (txn : Int) (hG : Holds G w) (hI : Holds I w) (hgr : ∀ i, Holds (gr i) w) (h : TabObj G b m t rb)
    (hr : ∀ i r, (i, r) ∈ t.rows → RowObj (gr i) I (rb i) r) (hl : ∀ i r, (i, r) ∈ t.rows → r.old.length ≤ 1000) (hn : t.rows.length ≤ 1000000000) :
    Calls Tryz.prog 74 #[ptr b, .int .i64 txn] w fun e w' => e = .returned (.bool (t.full txn)) ∧ Below w.heap.size w w' := by
  obtain ⟨hb, es, clk, hm, hmap⟩ := h
  have c0 : w.cell? ⟨b, 0, none⟩ = some (.map (some m)) := hG.cell hb rfl
  have hst := Walks.start hG hm hmap
  have hG1 := hG.alloc (.mapIter (some m) clk #[] clk)
  have HI0 : FullInv w m w.heap.size rb t.rows txn 0 (w.alloc (.mapIter (some m) clk #[] clk)) := ⟨_, t.rows, hst, hG1, fun q hq => hq, by simp, (Below.refl _ _).alloc (Nat.le_refl _) _⟩
  have HI := Lib.hid HI0
  have hcl : cnt txn t.rows ≤ t.rows.length := List.countP_le_length
  have HR : Hid (∀ W, Below w.heap.size w W → ∀ i r, (i, r) ∈ t.rows → ∃ op pl, RowFacts I W (rb i) r op pl) := fun W hW i r hir => (hr i r hir).facts ((hgr i).below hW) (hI.below hW) (hl i r hir)
  clear hr hl HI0 hst hG1 hgr hI hb
  unfold ptr
  go_enter Tryz.func74, Tryz.ntmps74
  go_wp2_with (at_range; refine wpList_range_walks rfl _ 92 rfl 3 95 Tryz.underlying92 G m es clk rfl hG hm ?_)
  go_frame
  go_loopw [5, 7, 8] (fun n _ _ wr => ∃ k : Nat, n = .int .i64 k ∧ FullInv w m w.heap.size rb t.rows txn k wr) (fun _ _ _ wr => walkLeft wr w.heap.size m)
  case atStart => exact ⟨0, by simp, HI.out⟩
  case round =>
    obtain ⟨k, rfl, G1, R, hwk, hG1, hsub, hk, hbl⟩ := hrel
    have HL := Lib.hid (hwk.left_eq hG1)
    have HK := Lib.hid hk
    have hkl : k ≤ t.rows.length := by omega
    have HS := Lib.hid hsub
    clear HI hk hsub
    go_wp2_with (at_next; refine wpList_next_walks rfl _ rfl G1 w.heap.size m _ rfl hG1 hwk ?_ ?_)
    · intro h0
      have hk0 : k = cnt txn t.rows := by
        have hR0 : R = [] := by simpa using h0
        have := HK.out
        subst hR0
        simpa [cnt] using this
      have HK0 := Lib.hid hk0
      clear h0 hk0
      go_wp2
      go_ret
      refine ⟨ret_bool ?_, hbl⟩
      unfold Tab.full
      rw [HK0.out]
      exact decide_eq_decide.2 (by unfold cnt; omega)
    · intro id pv left' x w' hperm hok hev hsz hwk' hent
      obtain ⟨q, R', hR, hpq, hl'⟩ := perm_of_map hperm
      simp only [Prod.mk.injEq] at hpq
      obtain ⟨rfl, rfl⟩ := hpq
      have hbl' : Below w.heap.size w w' := hbl.grown (hev.grown hG1) hbl.size (fun k e => by cases e; exact Nat.le_refl _)
      have hq : q ∈ t.rows := HS.out q (hR.mem_iff.2 (by simp))
      obtain ⟨op, pl, hf⟩ := HR.out w' hbl' q.1 q.2 hq
      have hcnt : cnt txn R = cnt txn R' + if q.2.counts txn then 1 else 0 := by rw [cnt_perm hR, cnt_cons]
      have hinv : ∀ k', k' + cnt txn R' = cnt txn t.rows → ∀ n, FullInv w m w.heap.size rb t.rows txn k' (w'.drewN n) := fun k' hk' n =>
        ⟨_, R', hwk'.congr hl', hev.holds.drewN n, fun z hz => HS.out z (hR.mem_iff.2 (by simp [hz])), hk', ⟨hbl'.os, hbl'.tape, hbl'.output, hbl'.size, hbl'.block⟩⟩
      have hmeas : ∀ n, walkLeft (w'.drewN n) w.heap.size m < walkLeft wr w.heap.size m := fun n => by
        rw [HL.out, (hwk'.congr hl').left_eq (hev.holds.drewN n), List.length_map, List.length_map, hR.length_eq]
        simp
      clear hwk' hev hsz hok hperm hR hl' hq hbl' hwk hG1 hbl
      obtain ⟨qi, qr⟩ := q
      obtain ⟨f1, f2, f3, f4, f5⟩ := hf
      have hth := there_any I
      have HINV := Lib.hid hinv
      have HM := Lib.hid hmeas
      have HC := Lib.hid hcnt
      have HF5 := Lib.hid f5
      have HK2 := Lib.hid HK.out
      clear hinv hmeas hcnt f5
      dsimp only at *
      unfold encI ptr at hent
      have mine_or : (∃ v vb vo, qr.opn = some v ∧ op = .pointer (some ⟨vb, vo, none⟩)) ∨ (qr.opn = none ∧ op = .pointer none) := by
        cases ho : qr.opn with
        | none => rw [ho] at f3; exact .inr ⟨rfl, f3⟩
        | some v => rw [ho] at f3; obtain ⟨vb, vo, rv, h1, _⟩ := f3; exact .inl ⟨v, vb, vo, rfl, h1⟩
      rcases mine_or with ⟨v, vb, vo, ho, rfl⟩ | ⟨ho, rfl⟩
      · have HO := Lib.hid ho
        clear ho
        by_cases htx : qr.txn = txn
        · have HT := Lib.hid htx
          rw [htx] at f2
          clear htx
          cases hg : v.gone
          · have HGo := Lib.hid hg
            clear hg
            have hto : there qr.opn = true := by simp [there, HO.out, HGo.out]
            have hct : qr.counts txn = true := by simp [RowS.counts, RowS.mine, there, HO.out, HGo.out]
            have h1 := hth _ _ _ f3
            rw [hto] at h1
            have H1 := Lib.hid h1
            have HCT := Lib.hid hct
            clear h1 hto hct hth f3
            go_wp2_with fail
            refine H1.out.mono ?_
            rintro e w2 ⟨rfl, rfl⟩
            go_wp2
            go_roundw
            case rel => exact ⟨k + 1, by go_num, HINV.out (k + 1) (by have h1 := HK2.out; have h2 := HC.out; rw [HCT.out] at h2; simp at h2; omega) 0⟩
            case measure => exact HM.out 0
          · have HGo := Lib.hid hg
            clear hg
            have hto : there qr.opn = false := by simp [there, HO.out, HGo.out]
            have hct : qr.counts txn = false := by simp [RowS.counts, RowS.mine, there, HO.out, HGo.out, HT.out]
            have h1 := hth _ _ _ f3
            rw [hto] at h1
            have H1 := Lib.hid h1
            have HCT := Lib.hid hct
            clear h1 hto hct hth f3
            go_wp2_with fail
            refine H1.out.mono ?_
            rintro e w2 ⟨rfl, rfl⟩
            go_wp2
            go_roundw
            case rel => exact ⟨k, rfl, HINV.out k (by have h1 := HK2.out; have h2 := HC.out; rw [HCT.out] at h2; simp at h2; omega) 0⟩
            case measure => exact HM.out 0
        · have htb : (qr.txn == txn) = false := by simpa using htx
          have HT := Lib.hid htx
          clear htx
          cases hg : v.gone
          · have HGo := Lib.hid hg
            clear hg
            have hto : there qr.opn = true := by simp [there, HO.out, HGo.out]
            have hct : qr.counts txn = true := by simp [RowS.counts, RowS.mine, there, HO.out, HGo.out]
            have h1 := hth _ _ _ f3
            rw [hto] at h1
            have H1 := Lib.hid h1
            have HCT := Lib.hid hct
            clear h1 hto hct hth f3
            go_wp2_with fail
            refine H1.out.mono ?_
            rintro e w2 ⟨rfl, rfl⟩
            go_wp2
            go_roundw
            case rel => exact ⟨k + 1, by go_num, HINV.out (k + 1) (by have h1 := HK2.out; have h2 := HC.out; rw [HCT.out] at h2; simp at h2; omega) 0⟩
            case measure => exact HM.out 0
          · have HGo := Lib.hid hg
            clear hg
            cases hll : there qr.last
            · have HLL := Lib.hid hll
              clear hll
              have h2 := fun mm => there_any I (w'.drewN mm) pl _ (f4.drewN mm)
              rw [HLL.out] at h2
              have H2 := Lib.hid h2
              clear h2 f4
              have hto : there qr.opn = false := by simp [there, HO.out, HGo.out]
              have hct : qr.counts txn = false := by simp [RowS.counts, RowS.mine, show there (some v) = false from by simp [there, HGo.out], HO.out, HT.out, HLL.out]
              have h1 := hth _ _ _ f3
              rw [hto] at h1
              have H1 := Lib.hid h1
              have HCT := Lib.hid hct
              clear h1 hto hct hth f3
              go_wp2_with fail
              refine H1.out.mono ?_
              rintro e w2 ⟨rfl, rfl⟩
              go_wp2_with fail
              refine HF5.out.at.mono ?_
              rintro e w3 ⟨rfl, mm, rfl⟩
              go_wp2_with fail
              refine (H2.out mm).mono ?_
              rintro e w4 ⟨rfl, rfl⟩
              go_wp2
              go_roundw
              case rel => exact ⟨k, rfl, HINV.out k (by have h1 := HK2.out; have h2 := HC.out; rw [HCT.out] at h2; simp at h2; omega) mm⟩
              case measure => exact HM.out mm
            · have HLL := Lib.hid hll
              clear hll
              have h2 := fun mm => there_any I (w'.drewN mm) pl _ (f4.drewN mm)
              rw [HLL.out] at h2
              have H2 := Lib.hid h2
              clear h2 f4
              have hto : there qr.opn = false := by simp [there, HO.out, HGo.out]
              have hct : qr.counts txn = true := by simp [RowS.counts, RowS.mine, show there (some v) = false from by simp [there, HGo.out], HO.out, HT.out, HLL.out]
              have h1 := hth _ _ _ f3
              rw [hto] at h1
              have H1 := Lib.hid h1
              have HCT := Lib.hid hct
              clear h1 hto hct hth f3
              go_wp2_with fail
              refine H1.out.mono ?_
              rintro e w2 ⟨rfl, rfl⟩
              go_wp2_with fail
              refine HF5.out.at.mono ?_
              rintro e w3 ⟨rfl, mm, rfl⟩
              go_wp2_with fail
              refine (H2.out mm).mono ?_
              rintro e w4 ⟨rfl, rfl⟩
              go_wp2
              go_roundw
              case rel => exact ⟨k + 1, by go_num, HINV.out (k + 1) (by have h1 := HK2.out; have h2 := HC.out; rw [HCT.out] at h2; simp at h2; omega) mm⟩
              case measure => exact HM.out mm
      · have HO := Lib.hid ho
        clear ho
        cases hll : there qr.last
        · have HLL := Lib.hid hll
          clear hll
          have h2 := fun mm => there_any I (w'.drewN mm) pl _ (f4.drewN mm)
          rw [HLL.out] at h2
          have H2 := Lib.hid h2
          clear h2 f4
          have hto : there qr.opn = false := by simp [there, HO.out]
          have hct : qr.counts txn = false := by simp [RowS.counts, RowS.mine, show there none = false from rfl, HO.out, HLL.out]
          have h1 := hth _ _ _ f3
          rw [hto] at h1
          have H1 := Lib.hid h1
          have HCT := Lib.hid hct
          clear h1 hto hct hth f3
          go_wp2_with fail
          refine H1.out.mono ?_
          rintro e w2 ⟨rfl, rfl⟩
          go_wp2_with fail
          refine HF5.out.at.mono ?_
          rintro e w3 ⟨rfl, mm, rfl⟩
          go_wp2_with fail
          refine (H2.out mm).mono ?_
          rintro e w4 ⟨rfl, rfl⟩
          go_wp2
          go_roundw
          case rel => exact ⟨k, rfl, HINV.out k (by have h1 := HK2.out; have h2 := HC.out; rw [HCT.out] at h2; simp at h2; omega) mm⟩
          case measure => exact HM.out mm
        · have HLL := Lib.hid hll
          clear hll
          have h2 := fun mm => there_any I (w'.drewN mm) pl _ (f4.drewN mm)
          rw [HLL.out] at h2
          have H2 := Lib.hid h2
          clear h2 f4
          have hto : there qr.opn = false := by simp [there, HO.out]
          have hct : qr.counts txn = true := by simp [RowS.counts, RowS.mine, show there none = false from rfl, HO.out, HLL.out]
          have h1 := hth _ _ _ f3
          rw [hto] at h1
          have H1 := Lib.hid h1
          have HCT := Lib.hid hct
          clear h1 hto hct hth f3
          go_wp2_with fail
          refine H1.out.mono ?_
          rintro e w2 ⟨rfl, rfl⟩
          go_wp2_with fail
          refine HF5.out.at.mono ?_
          rintro e w3 ⟨rfl, mm, rfl⟩
          go_wp2_with fail
          refine (H2.out mm).mono ?_
          rintro e w4 ⟨rfl, rfl⟩
          go_wp2
          go_roundw
          case rel => exact ⟨k + 1, by go_num, HINV.out (k + 1) (by have h1 := HK2.out; have h2 := HC.out; rw [HCT.out] at h2; simp at h2; omega) mm⟩
          case measure => exact HM.out mm
end Go.Ju

/- 'kind', 'do'. -/
import Derived.Test.YthdnjokioboehaaGreatDoorStage
import Derived.Test.YthdnjokioboehaaGreatDoorActs
namespace Go.Ju
open Go.RowKit
open Go.Proofs
open Go.ChangeMaps

def kindB (op : Int) : Int := (op % 18446744073709551616) % 11
def actVal (a : ActM) (rv : Value) : Value := .agg #[.int .i64 a.op, .string a.key.1, .string a.key.2, .int .i64 a.txn, .int .i64 a.id, .int .i64 a.n, rv]
def actObj (a : ActM) (rv : Value) : Obj := .cells #[.int .i64 a.op, .string a.key.1, .string a.key.2, .int .i64 a.txn, .int .i64 a.id, .int .i64 a.n, rv] 43
theorem kindB_range (op : Int) : 0 ≤ kindB op ∧ kindB op < 11 := by unfold kindB; omega

theorem kind_any (a : ActM) (A : Option Addr) (l c : Nat) (w : World) : Calls Tryz.prog 28 #[actVal a (.slice A l c)] w fun e w' => e = .returned (.int .i64 (kindB a.op)) ∧ Below w.heap.size w w' := by
  obtain ⟨op, key, txn, id, n, row⟩ := a
  have hb : Below w.heap.size w (w.alloc (.cells #[.int .i64 op, .string key.1, .string key.2, .int .i64 txn, .int .i64 id, .int .i64 n, .slice A l c] 43)) := (Below.refl _ _).alloc (Nat.le_refl _) _
  have HB := Lib.hid hb
  have hk : wrap64 ((IntKind.u64.wrap op).tmod 11) = kindB op := by
    have h0 : IntKind.u64.wrap op = op % 18446744073709551616 := rfl
    rw [h0, Int.tmod_eq_emod_of_nonneg (by omega)]
    unfold kindB wrap64
    omega
  clear hb
  unfold actVal
  go_enter Tryz.func28, Tryz.ntmps28
  go_wp2
  go_ret
  exact ⟨by rw [← hk]; rfl, HB.out⟩

def zeroRep : Obj := .cells #[.int .i64 0, .int .i64 0, .int .i64 0, .slice none 0 0, .slice none 0 0] 47
/-- The caller's blocks, and the three of 'do'. -/
def doG (G : Gh) (s : Nat) (a : ActM) (rv : Value) : Gh := ((G.put s (actObj a rv)).put (s + 1) zeroRep).put (s + 1 + 1) zeroRep
structure DoCells (W : World) (s : Nat) (a : ActM) (rv : Value) : Prop where
  a1 : W.cell? ⟨s, 1, none⟩ = some (.string a.key.1)
  a2 : W.cell? ⟨s, 2, none⟩ = some (.string a.key.2)
  a3 : W.cell? ⟨s, 3, none⟩ = some (.int .i64 a.txn)
  a4 : W.cell? ⟨s, 4, none⟩ = some (.int .i64 a.id)
  a5 : W.cell? ⟨s, 5, none⟩ = some (.int .i64 a.n)
  a6 : W.cell? ⟨s, 6, none⟩ = some rv
  a0 : W.cell? ⟨s, 0, none⟩ = some (.int .i64 a.op)
  r0 : W.cell? ⟨s + 1 + 1, 0, none⟩ = some (.int .i64 0)
  r1 : W.cell? ⟨s + 1 + 1, 1, none⟩ = some (.int .i64 0)
  r2 : W.cell? ⟨s + 1 + 1, 2, none⟩ = some (.int .i64 0)
  r3 : W.cell? ⟨s + 1 + 1, 3, none⟩ = some (.slice none 0 0)
  r4 : W.cell? ⟨s + 1 + 1, 4, none⟩ = some (.slice none 0 0)
  z0 : W.cell? ⟨s + 1, 0, none⟩ = some (.int .i64 0)
  z1 : W.cell? ⟨s + 1, 1, none⟩ = some (.int .i64 0)
  z2 : W.cell? ⟨s + 1, 2, none⟩ = some (.int .i64 0)
  z3 : W.cell? ⟨s + 1, 3, none⟩ = some (.slice none 0 0)
  z4 : W.cell? ⟨s + 1, 4, none⟩ = some (.slice none 0 0)
  f0 : W.frozen? ⟨s + 1 + 1, 0, none⟩ = false
  f1 : W.frozen? ⟨s + 1 + 1, 1, none⟩ = false
  f2 : W.frozen? ⟨s + 1 + 1, 2, none⟩ = false
  f3 : W.frozen? ⟨s + 1 + 1, 3, none⟩ = false
  f4 : W.frozen? ⟨s + 1 + 1, 4, none⟩ = false
  k0 : W.frozen? ⟨s + 1, 0, none⟩ = false
  k1 : W.frozen? ⟨s + 1, 1, none⟩ = false
  k2 : W.frozen? ⟨s + 1, 2, none⟩ = false
  k3 : W.frozen? ⟨s + 1, 3, none⟩ = false
  k4 : W.frozen? ⟨s + 1, 4, none⟩ = false
theorem DoCells.of {W : World} {s : Nat} {a : ActM} {rv : Value} {G G' : Gh} (h : Holds G' W) (hs : Sub (doG G s a rv) G') : DoCells W s a rv := by
  have e1 : doG G s a rv s = some (actObj a rv) := by unfold doG; rw [Gh.put_other _ _ (by omega), Gh.put_other _ _ (by omega)]; exact Gh.put_same _ _ _
  have e2 : doG G s a rv (s + 1) = some zeroRep := by unfold doG; rw [Gh.put_other _ _ (by omega)]; exact Gh.put_same _ _ _
  have e3 : doG G s a rv (s + 1 + 1) = some zeroRep := Gh.put_same _ _ _
  exact ⟨h.cell (hs _ _ e1) rfl, h.cell (hs _ _ e1) rfl, h.cell (hs _ _ e1) rfl, h.cell (hs _ _ e1) rfl, h.cell (hs _ _ e1) rfl, h.cell (hs _ _ e1) rfl, h.cell (hs _ _ e1) rfl,
    h.cell (hs _ _ e3) rfl, h.cell (hs _ _ e3) rfl, h.cell (hs _ _ e3) rfl, h.cell (hs _ _ e3) rfl, h.cell (hs _ _ e3) rfl,
    h.cell (hs _ _ e2) rfl, h.cell (hs _ _ e2) rfl, h.cell (hs _ _ e2) rfl, h.cell (hs _ _ e2) rfl, h.cell (hs _ _ e2) rfl,
    h.frozen (hs _ _ e3), h.frozen (hs _ _ e3), h.frozen (hs _ _ e3), h.frozen (hs _ _ e3), h.frozen (hs _ _ e3), h.frozen (hs _ _ e2), h.frozen (hs _ _ e2), h.frozen (hs _ _ e2), h.frozen (hs _ _ e2), h.frozen (hs _ _ e2)⟩
theorem Stage.boxes {w0 u : World} {p n : Nat} {M : St} {G : Gh} (h : Stage w0 p n M G u) (a : ActM) (rv : Value) : Stage w0 p n M (doG G u.heap.size a rv) (((u.alloc (actObj a rv)).alloc zeroRep).alloc zeroRep) := by
  have := ((h.alloc (actObj a rv)).alloc zeroRep).alloc zeroRep
  unfold doG
  simpa only [World.size_alloc] using this
theorem doG_sub {u : World} {G : Gh} (h : Holds G u) (a : ActM) (rv : Value) : Sub G (doG G u.heap.size a rv) := fun b o hb => by
  have := h.lt hb
  unfold doG
  rw [Gh.put_other _ _ (by omega), Gh.put_other _ _ (by omega), Gh.put_other _ _ (by omega)]
  exact hb
theorem Below.boxes (u : World) (a : ActM) (rv : Value) : Below u.heap.size u (((u.alloc (actObj a rv)).alloc zeroRep).alloc zeroRep) := (((Below.refl _ _).alloc (Nat.le_refl _) _).alloc (by simp) _).alloc (by simp; omega) _
theorem RowFor.go {w0 u u' : World} {G G' : Gh} {rv : Value} {l : List Val} (h : RowFor w0 G u rv l) (hb : Below u.heap.size u u') (hs : Sub G G') : RowFor w0 G' u' rv l := by
  obtain ⟨Ga, h1, h2⟩ := h
  exact ⟨Ga, h1.below hb, h2.imp id fun h => h.trans hs⟩

theorem os_setCell (w : World) (p : Addr) (v : Value) : (w.setCell p v).os = w.os := rfl
theorem tape_setCell (w : World) (p : Addr) (v : Value) : (w.setCell p v).tape = w.tape := rfl
theorem output_setCell (w : World) (p : Addr) (v : Value) : (w.setCell p v).output = w.output := rfl
theorem size_setCell (w : World) (p : Addr) (v : Value) : (w.setCell p v).heap.size = w.heap.size := by simp [World.setCell]
theorem heap_setCell_ne (w : World) (s i : Nat) (v : Value) {b : Nat} (h : b ≠ s) : (w.setCell ⟨s, i, none⟩ v).heap[b]? = w.heap[b]? := Below.heap_setCell w ⟨s, i, none⟩ v b h
theorem boxes_lt {u W : World} {a : ActM} {rv : Value} (h : Below (((u.alloc (actObj a rv)).alloc zeroRep).alloc zeroRep).heap.size (((u.alloc (actObj a rv)).alloc zeroRep).alloc zeroRep) W) : u.heap.size + 1 + 1 + 1 ≤ W.heap.size := by
  have := h.size
  simpa only [World.size_alloc] using this
theorem doSub {G Gr : Gh} {u : World} (hG : Holds G u) (hf : ∀ b, Gr b ≠ none → u.heap.size + 1 + 1 + 1 ≤ b) : Sub G (G.or Gr) ∧ Sub Gr (G.or Gr) := by
  refine ⟨fun _ _ => Gh.or_left _ _, fun b o hb => Gh.or_right (fun c => ?_) hb⟩
  cases hc : G c with
  | none => exact .inl rfl
  | some x =>
    right
    cases hx : Gr c with
    | none => rfl
    | some z => have := hG.lt hc; have := hf c (by rw [hx]; simp); omega
theorem Stage.didBox {w0 u w2 W : World} {p n n' : Nat} {M M' : St} {G G' Gr : Gh} (h2 : Stage w0 p n' M' G' w2) (h : Stage w0 p n M G u) (a : ActM) (rv : Value) (ho : W.os = w2.os) (ht : W.tape = w2.tape) (hu : W.output = w2.output) (hz : W.heap.size = w2.heap.size)
    (hk : ∀ b, b ≠ u.heap.size + 1 → b ≠ u.heap.size + 1 + 1 → W.heap[b]? = w2.heap[b]?) (hs : Sub (doG G u.heap.size a rv) G') (hs2 : Sub Gr G') (hf : ∀ b, Gr b ≠ none → u.heap.size + 1 + 1 + 1 ≤ b) : Stage w0 p n' M' (G.or Gr) W := by
  have hB := h.below.size
  have e2 : doG G u.heap.size a rv (u.heap.size + 1) = some zeroRep := by unfold doG; rw [Gh.put_other _ _ (by omega)]; exact Gh.put_same _ _ _
  have e3 : doG G u.heap.size a rv (u.heap.size + 1 + 1) = some zeroRep := Gh.put_same _ _ _
  have hn : ∀ b, u.heap.size ≤ b → b < u.heap.size + 1 + 1 + 1 → (G.or Gr) b = none := fun b h3 h4 => by
    have h5 : G b = none := by
      cases hc : G b with
      | none => rfl
      | some x => have := h.holds.lt hc; omega
    have h6 : Gr b = none := by
      cases hc : Gr b with
      | none => rfl
      | some x => have := hf b (by rw [hc]; simp); omega
    unfold Gh.or
    rw [h5, h6]
    rfl
  refine h2.touch ho ht hu hz hk (by rw [hs _ _ e2]; simp) (by rw [hs _ _ e3]; simp) (by omega) (by omega) ?_ (hn _ (by omega) (by omega)) (hn _ (by omega) (by omega))
  intro b o hb
  cases hc : G b with
  | some x =>
    have : (G.or Gr) b = some x := Gh.or_left _ _ hc
    rw [this] at hb
    cases hb
    exact hs _ _ (doG_sub h.holds a rv _ _ hc)
  | none =>
    unfold Gh.or at hb
    rw [hc] at hb
    exact hs2 _ _ hb

def St.doA (M : St) (a : ActM) : St × Reply :=
  if kindB a.op = 0 then ((M.addA a.key a.txn a.row).1, ⟨(M.addA a.key a.txn a.row).2.1, 0, (M.addA a.key a.txn a.row).2.2, [], []⟩)
  else if kindB a.op = 1 then ((M.putA a.key a.txn a.id a.row).1, ⟨0, 0, (M.putA a.key a.txn a.id a.row).2, [], []⟩)
  else if kindB a.op = 2 then ((M.delA a.key a.txn a.id).1, ⟨0, 0, (M.delA a.key a.txn a.id).2, [], []⟩)
  else if kindB a.op = 3 then (M, ⟨(M.mark a.txn).1, 0, (M.mark a.txn).2, [], []⟩)
  else if kindB a.op = 4 then ((M.backA a.txn a.n).1, ⟨0, 0, (M.backA a.txn a.n).2, [], []⟩)
  else if kindB a.op = 5 then ((M.commitA a.txn).1, ⟨(M.commitA a.txn).2.1, 0, (M.commitA a.txn).2.2, [], []⟩)
  else if kindB a.op = 6 then ((M.abortA a.txn).1, ⟨0, 0, (M.abortA a.txn).2, [], []⟩)
  else if kindB a.op = 7 then (M, ⟨0, 0, (M.atA a.key a.n a.txn).2, [], (M.atA a.key a.n a.txn).1⟩)
  else if kindB a.op = 8 then (M, ⟨0, 0, (M.rowA a.key a.n a.txn a.id).2, (M.rowA a.key a.n a.txn a.id).1, []⟩)
  else if kindB a.op = 9 then (M, ⟨(M.lastA a.key a.id).1, (M.lastA a.key a.id).2.1, (M.lastA a.key a.id).2.2, [], []⟩)
  else ((M.dropA a.key).1, ⟨0, 0, (M.dropA a.key).2, [], []⟩)
theorem doA_0 (M : St) (a : ActM) (h : kindB a.op = 0) : M.doA a = ((M.addA a.key a.txn a.row).1, ⟨(M.addA a.key a.txn a.row).2.1, 0, (M.addA a.key a.txn a.row).2.2, [], []⟩) := by unfold St.doA; simp only [h]; rfl
theorem doA_1 (M : St) (a : ActM) (h : kindB a.op = 1) : M.doA a = ((M.putA a.key a.txn a.id a.row).1, ⟨0, 0, (M.putA a.key a.txn a.id a.row).2, [], []⟩) := by unfold St.doA; simp only [h]; rfl
theorem doA_2 (M : St) (a : ActM) (h : kindB a.op = 2) : M.doA a = ((M.delA a.key a.txn a.id).1, ⟨0, 0, (M.delA a.key a.txn a.id).2, [], []⟩) := by unfold St.doA; simp only [h]; rfl
theorem doA_3 (M : St) (a : ActM) (h : kindB a.op = 3) : M.doA a = (M, ⟨(M.mark a.txn).1, 0, (M.mark a.txn).2, [], []⟩) := by unfold St.doA; simp only [h]; rfl
theorem doA_4 (M : St) (a : ActM) (h : kindB a.op = 4) : M.doA a = ((M.backA a.txn a.n).1, ⟨0, 0, (M.backA a.txn a.n).2, [], []⟩) := by unfold St.doA; simp only [h]; rfl
theorem doA_5 (M : St) (a : ActM) (h : kindB a.op = 5) : M.doA a = ((M.commitA a.txn).1, ⟨(M.commitA a.txn).2.1, 0, (M.commitA a.txn).2.2, [], []⟩) := by unfold St.doA; simp only [h]; rfl
theorem doA_6 (M : St) (a : ActM) (h : kindB a.op = 6) : M.doA a = ((M.abortA a.txn).1, ⟨0, 0, (M.abortA a.txn).2, [], []⟩) := by unfold St.doA; simp only [h]; rfl
theorem doA_7 (M : St) (a : ActM) (h : kindB a.op = 7) : M.doA a = (M, ⟨0, 0, (M.atA a.key a.n a.txn).2, [], (M.atA a.key a.n a.txn).1⟩) := by unfold St.doA; simp only [h]; rfl
theorem doA_8 (M : St) (a : ActM) (h : kindB a.op = 8) : M.doA a = (M, ⟨0, 0, (M.rowA a.key a.n a.txn a.id).2, (M.rowA a.key a.n a.txn a.id).1, []⟩) := by unfold St.doA; simp only [h]; rfl
theorem doA_9 (M : St) (a : ActM) (h : kindB a.op = 9) : M.doA a = (M, ⟨(M.lastA a.key a.id).1, (M.lastA a.key a.id).2.1, (M.lastA a.key a.id).2.2, [], []⟩) := by unfold St.doA; simp only [h]; rfl
theorem doA_10 (M : St) (a : ActM) (h : kindB a.op = 10) : M.doA a = ((M.dropA a.key).1, ⟨0, 0, (M.dropA a.key).2, [], []⟩) := by unfold St.doA; simp only [h]; rfl
def DoIs (w0 : World) (p n : Nat) (M : St) (G : Gh) (r : Reply) (e : Ending) (u' : World) : Prop := ∃ rv hv G', e = .returned (repVal r rv hv) ∧ Stage w0 p n M G' u' ∧ Sub G G' ∧ RepAt G' rv hv r
theorem Inv.seenSmall {n : Nat} {M : St} (h : Inv n M) (hn : n ≤ 1000000) {k : Key} {t : Tab} (ht : aget M.tabs k = some t) (time txn : Int) : HeldSmall (t.seenA time txn).1 := by
  have hT := h.core.tab k t ht
  unfold Tab.seenA
  rw [Tab.seen_eq]
  split
  · rename_i l hl
    split at hl
    · cases hl
      refine ⟨?_, fun x hx => ?_⟩
      · have := List.length_filterMap_le (heldF time txn) t.rows
        have := hT.len
        show (t.rows.filterMap (heldF time txn)).length ≤ _
        omega
      · obtain ⟨q, hq, hx⟩ := List.mem_filterMap.1 hx
        obtain ⟨i, r⟩ := q
        unfold heldF at hx
        split at hx
        · cases hx
        · rename_i v hv
          split at hx
          · cases hx
          · cases hx
            have := (h.core.row k i r ((row_tab ht i).trans (aget_of_mem hT.nodup hq))).short v (at_row hv)
            show v.row.length ≤ _
            omega
    · cases hl
  · exact HeldSmall.nil
theorem Inv.atSmall {n : Nat} {M : St} (h : Inv n M) (hn : n ≤ 1000000) (k : Key) (time txn : Int) : HeldSmall (M.atA k time txn).1 := by
  unfold St.atA
  split
  · exact HeldSmall.nil
  · split
    · exact HeldSmall.nil
    · rename_i t ht
      exact h.seenSmall hn ht time txn
theorem Inv.rowSmall {n : Nat} {M : St} (h : Inv n M) (k : Key) (time txn id : Int) : (M.rowA k time txn id).1.length ≤ 1000000000 := by
  unfold St.rowA
  split
  · simp
  · split
    · simp
    · rename_i r hr
      split
      · split
        · simp
        · rename_i v hv
          split
          · simp
          · have := (h.core.row k id r hr).short v (at_row hv)
            show v.row.length ≤ _
            omega
      · simp
def nilRep : Reply := ⟨0, 0, 1, [], []⟩
theorem nilHolds (u : World) (a : ActM) (rv : Value) : Holds (doG Gh.nil u.heap.size a rv) (((u.alloc (actObj a rv)).alloc zeroRep).alloc zeroRep) := by
  have := (((Holds.nil u).alloc (actObj a rv)).alloc zeroRep).alloc zeroRep
  unfold doG
  simpa only [World.size_alloc] using this

set_option maxRecDepth 100000 in
set_option maxHeartbeats 1000000 in
theorem do0 {w0 u : World} {p n : Nat} {M : St} {G : Gh} (h : Stage w0 p n M G u) (hn : n ≤ 1000000) (hnul : Nul w0) (a : ActM) (A : Option Addr) (l c : Nat) (hrow : RowFor w0 G u (.slice A l c) a.row) (hid : okI a.id) (hnn : okI a.n) (hk : kindB a.op = 0) :
    Calls Tryz.prog 22 #[ptr p, actVal a (.slice A l c)] u (DoIs w0 p (n + 2) (M.doA a).1 G (M.doA a).2) := by
  have hm := doA_0 M a hk
  rw [hm]
  have HK := Lib.hid (kind_any a A l c)
  rw [hk] at HK
  have HS := Lib.hid (fun (W : World) (hW : Below (((u.alloc (actObj a (.slice A l c))).alloc zeroRep).alloc zeroRep).heap.size (((u.alloc (actObj a (.slice A l c))).alloc zeroRep).alloc zeroRep) W) => And.intro ((h.boxes a (.slice A l c)).step (u' := W) hW) (And.intro (hrow.go ((Below.boxes u a (.slice A l c)).trans (hW.mono (Below.boxes u a (.slice A l c)).size)) (doG_sub h.holds a (.slice A l c))) (boxes_lt hW)))
  have HC := Lib.hid (fun (W : World) (M' : St) (n' : Nat) (G' : Gh) (hW : Stage w0 p n' M' G' W) (hs : Sub (doG G u.heap.size a (.slice A l c)) G') => DoCells.of hW.holds hs)
  have HCall := Lib.hid (fun (W : World) (hW : Stage w0 p n M (doG G u.heap.size a (.slice A l c)) W) (hr : RowFor w0 (doG G u.heap.size a (.slice A l c)) W (.slice A l c) a.row) => hW.add hn hnul a.key a.txn hr)
  have HDone := Lib.hid (fun (w2 W : World) (n' : Nat) (M' : St) (G' Gr : Gh) (h2 : Stage w0 p n' M' G' w2) => h2.didBox h a (.slice A l c) (W := W) (Gr := Gr))
  have HSub := Lib.hid (fun (Gr : Gh) => doSub (G := G) (Gr := Gr) h.holds)
  have HI := Lib.hid h.inv
  have HU := And.intro hnul (And.intro hid (And.intro hnn hn))
  clear HU h hrow hnul hk hid hnn hm
  unfold ptr encI actVal actObj zeroRep at *
  go_enter Tryz.func22, Tryz.ntmps22
  go_wp2_with (first
    | (go_at_call 28; refine (HK.out _).mono ?_; rintro e w1 ⟨rfl, hb1⟩; obtain ⟨hS1, hr1, hl1⟩ := HS.out _ hb1; replace hr1 := Lib.hid hr1; obtain ⟨a1, a2, a3, a4, a5, a6, -, r0, r1, r2, r3, r4, z0, z1, z2, z3, z4, f0, f1, f2, f3, f4, k0, k1, k2, k3, k4⟩ := HC.out _ _ _ _ hS1 (Sub.refl _); replace hS1 := Lib.hid hS1; replace hl1 := Lib.hid hl1; clear hb1)
    | (go_at_call 36; refine (HCall.out _ hS1.out hr1.out).mono ?_; clear hr1; clear a1 a2 a3 a4 a5 a6 r0 r1 r2 r3 r4 z0 z1 z2 z3 z4 f0 f1 f2 f3 f4 k0 k1 k2 k3 k4; rintro e w2 ⟨rfl, hS2⟩; obtain ⟨-, -, -, -, -, -, -, r0, r1, r2, r3, r4, z0, z1, z2, z3, z4, f0, f1, f2, f3, f4, k0, k1, k2, k3, k4⟩ := HC.out _ _ _ _ hS2 (Sub.refl _); replace hS2 := Lib.hid hS2))
  obtain ⟨hq1, -⟩ := HSub.out Gh.nil (fun b hb => absurd rfl hb)
  refine bodyPost_ret (v := repVal ⟨(M.addA a.key a.txn a.row).2.1, 0, (M.addA a.key a.txn a.row).2.2, [], []⟩ (.slice none 0 0) (.slice none 0 0)) (by simp only [results, Tryz.results22]; go_simp; rfl) rfl ⟨.slice none 0 0, .slice none 0 0, _, rfl, ?_, hq1, ⟨RowAt.nil _, HeldsAt.nil _ _, by simp, HeldSmall.nil⟩⟩
  exact (HDone.out _ _ _ _ _ _ hS2.out (by simp only [os_setCell]) (by simp only [tape_setCell]) (by simp only [output_setCell]) (by simp only [size_setCell]) (fun b h1 h2 => by simp only [heap_setCell_ne _ _ _ _ h1, heap_setCell_ne _ _ _ _ h2]) (Sub.refl _) (fun _ _ h => by cases h) (fun b hb => absurd rfl hb)).mono (by omega)


set_option maxRecDepth 100000 in
set_option maxHeartbeats 1000000 in
theorem do1 {w0 u : World} {p n : Nat} {M : St} {G : Gh} (h : Stage w0 p n M G u) (hn : n ≤ 1000000) (hnul : Nul w0) (a : ActM) (A : Option Addr) (l c : Nat) (hrow : RowFor w0 G u (.slice A l c) a.row) (hid : okI a.id) (hnn : okI a.n) (hk : kindB a.op = 1) :
    Calls Tryz.prog 22 #[ptr p, actVal a (.slice A l c)] u (DoIs w0 p (n + 2) (M.doA a).1 G (M.doA a).2) := by
  have hm := doA_1 M a hk
  rw [hm]
  have HK := Lib.hid (kind_any a A l c)
  rw [hk] at HK
  have HS := Lib.hid (fun (W : World) (hW : Below (((u.alloc (actObj a (.slice A l c))).alloc zeroRep).alloc zeroRep).heap.size (((u.alloc (actObj a (.slice A l c))).alloc zeroRep).alloc zeroRep) W) => And.intro ((h.boxes a (.slice A l c)).step (u' := W) hW) (And.intro (hrow.go ((Below.boxes u a (.slice A l c)).trans (hW.mono (Below.boxes u a (.slice A l c)).size)) (doG_sub h.holds a (.slice A l c))) (boxes_lt hW)))
  have HC := Lib.hid (fun (W : World) (M' : St) (n' : Nat) (G' : Gh) (hW : Stage w0 p n' M' G' W) (hs : Sub (doG G u.heap.size a (.slice A l c)) G') => DoCells.of hW.holds hs)
  have HCall := Lib.hid (fun (W : World) (hW : Stage w0 p n M (doG G u.heap.size a (.slice A l c)) W) (hr : RowFor w0 (doG G u.heap.size a (.slice A l c)) W (.slice A l c) a.row) => hW.put hn hnul a.key a.txn a.id hid hr)
  have HDone := Lib.hid (fun (w2 W : World) (n' : Nat) (M' : St) (G' Gr : Gh) (h2 : Stage w0 p n' M' G' w2) => h2.didBox h a (.slice A l c) (W := W) (Gr := Gr))
  have HSub := Lib.hid (fun (Gr : Gh) => doSub (G := G) (Gr := Gr) h.holds)
  have HI := Lib.hid h.inv
  have HU := And.intro hnul (And.intro hid (And.intro hnn hn))
  clear HU h hrow hnul hk hid hnn hm
  unfold ptr encI actVal actObj zeroRep at *
  go_enter Tryz.func22, Tryz.ntmps22
  go_wp2_with (first
    | (go_at_call 28; refine (HK.out _).mono ?_; rintro e w1 ⟨rfl, hb1⟩; obtain ⟨hS1, hr1, hl1⟩ := HS.out _ hb1; replace hr1 := Lib.hid hr1; obtain ⟨a1, a2, a3, a4, a5, a6, -, r0, r1, r2, r3, r4, z0, z1, z2, z3, z4, f0, f1, f2, f3, f4, k0, k1, k2, k3, k4⟩ := HC.out _ _ _ _ hS1 (Sub.refl _); replace hS1 := Lib.hid hS1; replace hl1 := Lib.hid hl1; clear hb1)
    | (go_at_call 38; refine (HCall.out _ hS1.out hr1.out).mono ?_; clear hr1; clear a1 a2 a3 a4 a5 a6 r0 r1 r2 r3 r4 z0 z1 z2 z3 z4 f0 f1 f2 f3 f4 k0 k1 k2 k3 k4; rintro e w2 ⟨rfl, hS2⟩; obtain ⟨-, -, -, -, -, -, -, r0, r1, r2, r3, r4, z0, z1, z2, z3, z4, f0, f1, f2, f3, f4, k0, k1, k2, k3, k4⟩ := HC.out _ _ _ _ hS2 (Sub.refl _); replace hS2 := Lib.hid hS2))
  obtain ⟨hq1, -⟩ := HSub.out Gh.nil (fun b hb => absurd rfl hb)
  refine bodyPost_ret (v := repVal ⟨0, 0, (M.putA a.key a.txn a.id a.row).2, [], []⟩ (.slice none 0 0) (.slice none 0 0)) (by simp only [results, Tryz.results22]; go_simp; rfl) rfl ⟨.slice none 0 0, .slice none 0 0, _, rfl, ?_, hq1, ⟨RowAt.nil _, HeldsAt.nil _ _, by simp, HeldSmall.nil⟩⟩
  exact (HDone.out _ _ _ _ _ _ hS2.out (by simp only [os_setCell]) (by simp only [tape_setCell]) (by simp only [output_setCell]) (by simp only [size_setCell]) (fun b h1 h2 => by simp only [heap_setCell_ne _ _ _ _ h1, heap_setCell_ne _ _ _ _ h2]) (Sub.refl _) (fun _ _ h => by cases h) (fun b hb => absurd rfl hb)).mono (by omega)


set_option maxRecDepth 100000 in
set_option maxHeartbeats 1000000 in
theorem do2 {w0 u : World} {p n : Nat} {M : St} {G : Gh} (h : Stage w0 p n M G u) (hn : n ≤ 1000000) (hnul : Nul w0) (a : ActM) (A : Option Addr) (l c : Nat) (hrow : RowFor w0 G u (.slice A l c) a.row) (hid : okI a.id) (hnn : okI a.n) (hk : kindB a.op = 2) :
    Calls Tryz.prog 22 #[ptr p, actVal a (.slice A l c)] u (DoIs w0 p (n + 2) (M.doA a).1 G (M.doA a).2) := by
  have hm := doA_2 M a hk
  rw [hm]
  have HK := Lib.hid (kind_any a A l c)
  rw [hk] at HK
  have HS := Lib.hid (fun (W : World) (hW : Below (((u.alloc (actObj a (.slice A l c))).alloc zeroRep).alloc zeroRep).heap.size (((u.alloc (actObj a (.slice A l c))).alloc zeroRep).alloc zeroRep) W) => And.intro ((h.boxes a (.slice A l c)).step (u' := W) hW) (And.intro (hrow.go ((Below.boxes u a (.slice A l c)).trans (hW.mono (Below.boxes u a (.slice A l c)).size)) (doG_sub h.holds a (.slice A l c))) (boxes_lt hW)))
  have HC := Lib.hid (fun (W : World) (M' : St) (n' : Nat) (G' : Gh) (hW : Stage w0 p n' M' G' W) (hs : Sub (doG G u.heap.size a (.slice A l c)) G') => DoCells.of hW.holds hs)
  have HCall := Lib.hid (fun (W : World) (hW : Stage w0 p n M (doG G u.heap.size a (.slice A l c)) W) (hr : RowFor w0 (doG G u.heap.size a (.slice A l c)) W (.slice A l c) a.row) => hW.del hn a.key a.txn a.id hid)
  have HDone := Lib.hid (fun (w2 W : World) (n' : Nat) (M' : St) (G' Gr : Gh) (h2 : Stage w0 p n' M' G' w2) => h2.didBox h a (.slice A l c) (W := W) (Gr := Gr))
  have HSub := Lib.hid (fun (Gr : Gh) => doSub (G := G) (Gr := Gr) h.holds)
  have HI := Lib.hid h.inv
  have HU := And.intro hnul (And.intro hid (And.intro hnn hn))
  clear HU h hrow hnul hk hid hnn hm
  unfold ptr encI actVal actObj zeroRep at *
  go_enter Tryz.func22, Tryz.ntmps22
  go_wp2_with (first
    | (go_at_call 28; refine (HK.out _).mono ?_; rintro e w1 ⟨rfl, hb1⟩; obtain ⟨hS1, hr1, hl1⟩ := HS.out _ hb1; replace hr1 := Lib.hid hr1; obtain ⟨a1, a2, a3, a4, a5, a6, -, r0, r1, r2, r3, r4, z0, z1, z2, z3, z4, f0, f1, f2, f3, f4, k0, k1, k2, k3, k4⟩ := HC.out _ _ _ _ hS1 (Sub.refl _); replace hS1 := Lib.hid hS1; replace hl1 := Lib.hid hl1; clear hb1)
    | (go_at_call 49; refine (HCall.out _ hS1.out hr1.out).mono ?_; clear hr1; clear a1 a2 a3 a4 a5 a6 r0 r1 r2 r3 r4 z0 z1 z2 z3 z4 f0 f1 f2 f3 f4 k0 k1 k2 k3 k4; rintro e w2 ⟨rfl, hS2⟩; obtain ⟨-, -, -, -, -, -, -, r0, r1, r2, r3, r4, z0, z1, z2, z3, z4, f0, f1, f2, f3, f4, k0, k1, k2, k3, k4⟩ := HC.out _ _ _ _ hS2 (Sub.refl _); replace hS2 := Lib.hid hS2))
  obtain ⟨hq1, -⟩ := HSub.out Gh.nil (fun b hb => absurd rfl hb)
  refine bodyPost_ret (v := repVal ⟨0, 0, (M.delA a.key a.txn a.id).2, [], []⟩ (.slice none 0 0) (.slice none 0 0)) (by simp only [results, Tryz.results22]; go_simp; rfl) rfl ⟨.slice none 0 0, .slice none 0 0, _, rfl, ?_, hq1, ⟨RowAt.nil _, HeldsAt.nil _ _, by simp, HeldSmall.nil⟩⟩
  exact (HDone.out _ _ _ _ _ _ hS2.out (by simp only [os_setCell]) (by simp only [tape_setCell]) (by simp only [output_setCell]) (by simp only [size_setCell]) (fun b h1 h2 => by simp only [heap_setCell_ne _ _ _ _ h1, heap_setCell_ne _ _ _ _ h2]) (Sub.refl _) (fun _ _ h => by cases h) (fun b hb => absurd rfl hb)).mono (by omega)


set_option maxRecDepth 100000 in
set_option maxHeartbeats 1000000 in
theorem do3 {w0 u : World} {p n : Nat} {M : St} {G : Gh} (h : Stage w0 p n M G u) (hn : n ≤ 1000000) (hnul : Nul w0) (a : ActM) (A : Option Addr) (l c : Nat) (hrow : RowFor w0 G u (.slice A l c) a.row) (hid : okI a.id) (hnn : okI a.n) (hk : kindB a.op = 3) :
    Calls Tryz.prog 22 #[ptr p, actVal a (.slice A l c)] u (DoIs w0 p (n + 2) (M.doA a).1 G (M.doA a).2) := by
  have hm := doA_3 M a hk
  rw [hm]
  have HK := Lib.hid (kind_any a A l c)
  rw [hk] at HK
  have HS := Lib.hid (fun (W : World) (hW : Below (((u.alloc (actObj a (.slice A l c))).alloc zeroRep).alloc zeroRep).heap.size (((u.alloc (actObj a (.slice A l c))).alloc zeroRep).alloc zeroRep) W) => And.intro ((h.boxes a (.slice A l c)).step (u' := W) hW) (And.intro (hrow.go ((Below.boxes u a (.slice A l c)).trans (hW.mono (Below.boxes u a (.slice A l c)).size)) (doG_sub h.holds a (.slice A l c))) (boxes_lt hW)))
  have HC := Lib.hid (fun (W : World) (M' : St) (n' : Nat) (G' : Gh) (hW : Stage w0 p n' M' G' W) (hs : Sub (doG G u.heap.size a (.slice A l c)) G') => DoCells.of hW.holds hs)
  have HCall := Lib.hid (fun (W : World) (hW : Stage w0 p n M (doG G u.heap.size a (.slice A l c)) W) (hr : RowFor w0 (doG G u.heap.size a (.slice A l c)) W (.slice A l c) a.row) => (hW.mark a.txn))
  have HDone := Lib.hid (fun (w2 W : World) (n' : Nat) (M' : St) (G' Gr : Gh) (h2 : Stage w0 p n' M' G' w2) => h2.didBox h a (.slice A l c) (W := W) (Gr := Gr))
  have HSub := Lib.hid (fun (Gr : Gh) => doSub (G := G) (Gr := Gr) h.holds)
  have HI := Lib.hid h.inv
  have HU := And.intro hnul (And.intro hid (And.intro hnn hn))
  clear HU h hrow hnul hk hid hnn hm
  unfold ptr encI actVal actObj zeroRep at *
  go_enter Tryz.func22, Tryz.ntmps22
  go_wp2_with (first
    | (go_at_call 28; refine (HK.out _).mono ?_; rintro e w1 ⟨rfl, hb1⟩; obtain ⟨hS1, hr1, hl1⟩ := HS.out _ hb1; replace hr1 := Lib.hid hr1; obtain ⟨a1, a2, a3, a4, a5, a6, -, r0, r1, r2, r3, r4, z0, z1, z2, z3, z4, f0, f1, f2, f3, f4, k0, k1, k2, k3, k4⟩ := HC.out _ _ _ _ hS1 (Sub.refl _); replace hS1 := Lib.hid hS1; replace hl1 := Lib.hid hl1; clear hb1)
    | (go_at_call 31; refine (HCall.out _ hS1.out hr1.out).mono ?_; clear hr1; rintro e w2 ⟨rfl, rfl⟩; have hS2 := hS1))
  obtain ⟨hq1, -⟩ := HSub.out Gh.nil (fun b hb => absurd rfl hb)
  refine bodyPost_ret (v := repVal ⟨(M.mark a.txn).1, 0, (M.mark a.txn).2, [], []⟩ (.slice none 0 0) (.slice none 0 0)) (by simp only [results, Tryz.results22]; go_simp; rfl) rfl ⟨.slice none 0 0, .slice none 0 0, _, rfl, ?_, hq1, ⟨RowAt.nil _, HeldsAt.nil _ _, by simp, HeldSmall.nil⟩⟩
  exact (HDone.out _ _ _ _ _ _ hS2.out (by simp only [os_setCell]) (by simp only [tape_setCell]) (by simp only [output_setCell]) (by simp only [size_setCell]) (fun b h1 h2 => by simp only [heap_setCell_ne _ _ _ _ h1, heap_setCell_ne _ _ _ _ h2]) (Sub.refl _) (fun _ _ h => by cases h) (fun b hb => absurd rfl hb)).mono (by omega)


set_option maxRecDepth 100000 in
set_option maxHeartbeats 1000000 in
theorem do4 {w0 u : World} {p n : Nat} {M : St} {G : Gh} (h : Stage w0 p n M G u) (hn : n ≤ 1000000) (hnul : Nul w0) (a : ActM) (A : Option Addr) (l c : Nat) (hrow : RowFor w0 G u (.slice A l c) a.row) (hid : okI a.id) (hnn : okI a.n) (hk : kindB a.op = 4) :
    Calls Tryz.prog 22 #[ptr p, actVal a (.slice A l c)] u (DoIs w0 p (n + 2) (M.doA a).1 G (M.doA a).2) := by
  have hm := doA_4 M a hk
  rw [hm]
  have HK := Lib.hid (kind_any a A l c)
  rw [hk] at HK
  have HS := Lib.hid (fun (W : World) (hW : Below (((u.alloc (actObj a (.slice A l c))).alloc zeroRep).alloc zeroRep).heap.size (((u.alloc (actObj a (.slice A l c))).alloc zeroRep).alloc zeroRep) W) => And.intro ((h.boxes a (.slice A l c)).step (u' := W) hW) (And.intro (hrow.go ((Below.boxes u a (.slice A l c)).trans (hW.mono (Below.boxes u a (.slice A l c)).size)) (doG_sub h.holds a (.slice A l c))) (boxes_lt hW)))
  have HC := Lib.hid (fun (W : World) (M' : St) (n' : Nat) (G' : Gh) (hW : Stage w0 p n' M' G' W) (hs : Sub (doG G u.heap.size a (.slice A l c)) G') => DoCells.of hW.holds hs)
  have HCall := Lib.hid (fun (W : World) (hW : Stage w0 p n M (doG G u.heap.size a (.slice A l c)) W) (hr : RowFor w0 (doG G u.heap.size a (.slice A l c)) W (.slice A l c) a.row) => hW.back hn a.txn a.n hnn)
  have HDone := Lib.hid (fun (w2 W : World) (n' : Nat) (M' : St) (G' Gr : Gh) (h2 : Stage w0 p n' M' G' w2) => h2.didBox h a (.slice A l c) (W := W) (Gr := Gr))
  have HSub := Lib.hid (fun (Gr : Gh) => doSub (G := G) (Gr := Gr) h.holds)
  have HI := Lib.hid h.inv
  have HU := And.intro hnul (And.intro hid (And.intro hnn hn))
  clear HU h hrow hnul hk hid hnn hm
  unfold ptr encI actVal actObj zeroRep at *
  go_enter Tryz.func22, Tryz.ntmps22
  go_wp2_with (first
    | (go_at_call 28; refine (HK.out _).mono ?_; rintro e w1 ⟨rfl, hb1⟩; obtain ⟨hS1, hr1, hl1⟩ := HS.out _ hb1; replace hr1 := Lib.hid hr1; obtain ⟨a1, a2, a3, a4, a5, a6, -, r0, r1, r2, r3, r4, z0, z1, z2, z3, z4, f0, f1, f2, f3, f4, k0, k1, k2, k3, k4⟩ := HC.out _ _ _ _ hS1 (Sub.refl _); replace hS1 := Lib.hid hS1; replace hl1 := Lib.hid hl1; clear hb1)
    | (go_at_call 32; refine (HCall.out _ hS1.out hr1.out).mono ?_; clear hr1; clear a1 a2 a3 a4 a5 a6 r0 r1 r2 r3 r4 z0 z1 z2 z3 z4 f0 f1 f2 f3 f4 k0 k1 k2 k3 k4; rintro e w2 ⟨rfl, hS2⟩; obtain ⟨-, -, -, -, -, -, -, r0, r1, r2, r3, r4, z0, z1, z2, z3, z4, f0, f1, f2, f3, f4, k0, k1, k2, k3, k4⟩ := HC.out _ _ _ _ hS2 (Sub.refl _); replace hS2 := Lib.hid hS2))
  obtain ⟨hq1, -⟩ := HSub.out Gh.nil (fun b hb => absurd rfl hb)
  refine bodyPost_ret (v := repVal ⟨0, 0, (M.backA a.txn a.n).2, [], []⟩ (.slice none 0 0) (.slice none 0 0)) (by simp only [results, Tryz.results22]; go_simp; rfl) rfl ⟨.slice none 0 0, .slice none 0 0, _, rfl, ?_, hq1, ⟨RowAt.nil _, HeldsAt.nil _ _, by simp, HeldSmall.nil⟩⟩
  exact (HDone.out _ _ _ _ _ _ hS2.out (by simp only [os_setCell]) (by simp only [tape_setCell]) (by simp only [output_setCell]) (by simp only [size_setCell]) (fun b h1 h2 => by simp only [heap_setCell_ne _ _ _ _ h1, heap_setCell_ne _ _ _ _ h2]) (Sub.refl _) (fun _ _ h => by cases h) (fun b hb => absurd rfl hb)).mono (by omega)


set_option maxRecDepth 100000 in
set_option maxHeartbeats 1000000 in
theorem do5 {w0 u : World} {p n : Nat} {M : St} {G : Gh} (h : Stage w0 p n M G u) (hn : n ≤ 1000000) (hnul : Nul w0) (a : ActM) (A : Option Addr) (l c : Nat) (hrow : RowFor w0 G u (.slice A l c) a.row) (hid : okI a.id) (hnn : okI a.n) (hk : kindB a.op = 5) :
    Calls Tryz.prog 22 #[ptr p, actVal a (.slice A l c)] u (DoIs w0 p (n + 2) (M.doA a).1 G (M.doA a).2) := by
  have hm := doA_5 M a hk
  rw [hm]
  have HK := Lib.hid (kind_any a A l c)
  rw [hk] at HK
  have HS := Lib.hid (fun (W : World) (hW : Below (((u.alloc (actObj a (.slice A l c))).alloc zeroRep).alloc zeroRep).heap.size (((u.alloc (actObj a (.slice A l c))).alloc zeroRep).alloc zeroRep) W) => And.intro ((h.boxes a (.slice A l c)).step (u' := W) hW) (And.intro (hrow.go ((Below.boxes u a (.slice A l c)).trans (hW.mono (Below.boxes u a (.slice A l c)).size)) (doG_sub h.holds a (.slice A l c))) (boxes_lt hW)))
  have HC := Lib.hid (fun (W : World) (M' : St) (n' : Nat) (G' : Gh) (hW : Stage w0 p n' M' G' W) (hs : Sub (doG G u.heap.size a (.slice A l c)) G') => DoCells.of hW.holds hs)
  have HCall := Lib.hid (fun (W : World) (hW : Stage w0 p n M (doG G u.heap.size a (.slice A l c)) W) (hr : RowFor w0 (doG G u.heap.size a (.slice A l c)) W (.slice A l c) a.row) => hW.commit hn a.txn)
  have HDone := Lib.hid (fun (w2 W : World) (n' : Nat) (M' : St) (G' Gr : Gh) (h2 : Stage w0 p n' M' G' w2) => h2.didBox h a (.slice A l c) (W := W) (Gr := Gr))
  have HSub := Lib.hid (fun (Gr : Gh) => doSub (G := G) (Gr := Gr) h.holds)
  have HI := Lib.hid h.inv
  have HU := And.intro hnul (And.intro hid (And.intro hnn hn))
  clear HU h hrow hnul hk hid hnn hm
  unfold ptr encI actVal actObj zeroRep at *
  go_enter Tryz.func22, Tryz.ntmps22
  go_wp2_with (first
    | (go_at_call 28; refine (HK.out _).mono ?_; rintro e w1 ⟨rfl, hb1⟩; obtain ⟨hS1, hr1, hl1⟩ := HS.out _ hb1; replace hr1 := Lib.hid hr1; obtain ⟨a1, a2, a3, a4, a5, a6, -, r0, r1, r2, r3, r4, z0, z1, z2, z3, z4, f0, f1, f2, f3, f4, k0, k1, k2, k3, k4⟩ := HC.out _ _ _ _ hS1 (Sub.refl _); replace hS1 := Lib.hid hS1; replace hl1 := Lib.hid hl1; clear hb1)
    | (go_at_call 34; refine (HCall.out _ hS1.out hr1.out).mono ?_; clear hr1; clear a1 a2 a3 a4 a5 a6 r0 r1 r2 r3 r4 z0 z1 z2 z3 z4 f0 f1 f2 f3 f4 k0 k1 k2 k3 k4; rintro e w2 ⟨rfl, hS2⟩; obtain ⟨-, -, -, -, -, -, -, r0, r1, r2, r3, r4, z0, z1, z2, z3, z4, f0, f1, f2, f3, f4, k0, k1, k2, k3, k4⟩ := HC.out _ _ _ _ hS2 (Sub.refl _); replace hS2 := Lib.hid hS2))
  obtain ⟨hq1, -⟩ := HSub.out Gh.nil (fun b hb => absurd rfl hb)
  refine bodyPost_ret (v := repVal ⟨(M.commitA a.txn).2.1, 0, (M.commitA a.txn).2.2, [], []⟩ (.slice none 0 0) (.slice none 0 0)) (by simp only [results, Tryz.results22]; go_simp; rfl) rfl ⟨.slice none 0 0, .slice none 0 0, _, rfl, ?_, hq1, ⟨RowAt.nil _, HeldsAt.nil _ _, by simp, HeldSmall.nil⟩⟩
  exact (HDone.out _ _ _ _ _ _ hS2.out (by simp only [os_setCell]) (by simp only [tape_setCell]) (by simp only [output_setCell]) (by simp only [size_setCell]) (fun b h1 h2 => by simp only [heap_setCell_ne _ _ _ _ h1, heap_setCell_ne _ _ _ _ h2]) (Sub.refl _) (fun _ _ h => by cases h) (fun b hb => absurd rfl hb)).mono (by omega)


set_option maxRecDepth 100000 in
set_option maxHeartbeats 1000000 in
theorem do6 {w0 u : World} {p n : Nat} {M : St} {G : Gh} (h : Stage w0 p n M G u) (hn : n ≤ 1000000) (hnul : Nul w0) (a : ActM) (A : Option Addr) (l c : Nat) (hrow : RowFor w0 G u (.slice A l c) a.row) (hid : okI a.id) (hnn : okI a.n) (hk : kindB a.op = 6) :
    Calls Tryz.prog 22 #[ptr p, actVal a (.slice A l c)] u (DoIs w0 p (n + 2) (M.doA a).1 G (M.doA a).2) := by
  have hm := doA_6 M a hk
  rw [hm]
  have HK := Lib.hid (kind_any a A l c)
  rw [hk] at HK
  have HS := Lib.hid (fun (W : World) (hW : Below (((u.alloc (actObj a (.slice A l c))).alloc zeroRep).alloc zeroRep).heap.size (((u.alloc (actObj a (.slice A l c))).alloc zeroRep).alloc zeroRep) W) => And.intro ((h.boxes a (.slice A l c)).step (u' := W) hW) (And.intro (hrow.go ((Below.boxes u a (.slice A l c)).trans (hW.mono (Below.boxes u a (.slice A l c)).size)) (doG_sub h.holds a (.slice A l c))) (boxes_lt hW)))
  have HC := Lib.hid (fun (W : World) (M' : St) (n' : Nat) (G' : Gh) (hW : Stage w0 p n' M' G' W) (hs : Sub (doG G u.heap.size a (.slice A l c)) G') => DoCells.of hW.holds hs)
  have HCall := Lib.hid (fun (W : World) (hW : Stage w0 p n M (doG G u.heap.size a (.slice A l c)) W) (hr : RowFor w0 (doG G u.heap.size a (.slice A l c)) W (.slice A l c) a.row) => hW.abort hn a.txn)
  have HDone := Lib.hid (fun (w2 W : World) (n' : Nat) (M' : St) (G' Gr : Gh) (h2 : Stage w0 p n' M' G' w2) => h2.didBox h a (.slice A l c) (W := W) (Gr := Gr))
  have HSub := Lib.hid (fun (Gr : Gh) => doSub (G := G) (Gr := Gr) h.holds)
  have HI := Lib.hid h.inv
  have HU := And.intro hnul (And.intro hid (And.intro hnn hn))
  clear HU h hrow hnul hk hid hnn hm
  unfold ptr encI actVal actObj zeroRep at *
  go_enter Tryz.func22, Tryz.ntmps22
  go_wp2_with (first
    | (go_at_call 28; refine (HK.out _).mono ?_; rintro e w1 ⟨rfl, hb1⟩; obtain ⟨hS1, hr1, hl1⟩ := HS.out _ hb1; replace hr1 := Lib.hid hr1; obtain ⟨a1, a2, a3, a4, a5, a6, -, r0, r1, r2, r3, r4, z0, z1, z2, z3, z4, f0, f1, f2, f3, f4, k0, k1, k2, k3, k4⟩ := HC.out _ _ _ _ hS1 (Sub.refl _); replace hS1 := Lib.hid hS1; replace hl1 := Lib.hid hl1; clear hb1)
    | (go_at_call 33; refine (HCall.out _ hS1.out hr1.out).mono ?_; clear hr1; clear a1 a2 a3 a4 a5 a6 r0 r1 r2 r3 r4 z0 z1 z2 z3 z4 f0 f1 f2 f3 f4 k0 k1 k2 k3 k4; rintro e w2 ⟨rfl, hS2⟩; obtain ⟨-, -, -, -, -, -, -, r0, r1, r2, r3, r4, z0, z1, z2, z3, z4, f0, f1, f2, f3, f4, k0, k1, k2, k3, k4⟩ := HC.out _ _ _ _ hS2 (Sub.refl _); replace hS2 := Lib.hid hS2))
  obtain ⟨hq1, -⟩ := HSub.out Gh.nil (fun b hb => absurd rfl hb)
  refine bodyPost_ret (v := repVal ⟨0, 0, (M.abortA a.txn).2, [], []⟩ (.slice none 0 0) (.slice none 0 0)) (by simp only [results, Tryz.results22]; go_simp; rfl) rfl ⟨.slice none 0 0, .slice none 0 0, _, rfl, ?_, hq1, ⟨RowAt.nil _, HeldsAt.nil _ _, by simp, HeldSmall.nil⟩⟩
  exact (HDone.out _ _ _ _ _ _ hS2.out (by simp only [os_setCell]) (by simp only [tape_setCell]) (by simp only [output_setCell]) (by simp only [size_setCell]) (fun b h1 h2 => by simp only [heap_setCell_ne _ _ _ _ h1, heap_setCell_ne _ _ _ _ h2]) (Sub.refl _) (fun _ _ h => by cases h) (fun b hb => absurd rfl hb)).mono (by omega)


set_option maxRecDepth 100000 in
set_option maxHeartbeats 1000000 in
theorem do7 {w0 u : World} {p n : Nat} {M : St} {G : Gh} (h : Stage w0 p n M G u) (hn : n ≤ 1000000) (hnul : Nul w0) (a : ActM) (A : Option Addr) (l c : Nat) (hrow : RowFor w0 G u (.slice A l c) a.row) (hid : okI a.id) (hnn : okI a.n) (hk : kindB a.op = 7) :
    Calls Tryz.prog 22 #[ptr p, actVal a (.slice A l c)] u (DoIs w0 p (n + 2) (M.doA a).1 G (M.doA a).2) := by
  have hm := doA_7 M a hk
  rw [hm]
  have HK := Lib.hid (kind_any a A l c)
  rw [hk] at HK
  have HS := Lib.hid (fun (W : World) (hW : Below (((u.alloc (actObj a (.slice A l c))).alloc zeroRep).alloc zeroRep).heap.size (((u.alloc (actObj a (.slice A l c))).alloc zeroRep).alloc zeroRep) W) => And.intro ((h.boxes a (.slice A l c)).step (u' := W) hW) (And.intro (hrow.go ((Below.boxes u a (.slice A l c)).trans (hW.mono (Below.boxes u a (.slice A l c)).size)) (doG_sub h.holds a (.slice A l c))) (boxes_lt hW)))
  have HC := Lib.hid (fun (W : World) (M' : St) (n' : Nat) (G' : Gh) (hW : Stage w0 p n' M' G' W) (hs : Sub (doG G u.heap.size a (.slice A l c)) G') => DoCells.of hW.holds hs)
  have HCall := Lib.hid (fun (W : World) (hW : Stage w0 p n M (doG G u.heap.size a (.slice A l c)) W) (hr : RowFor w0 (doG G u.heap.size a (.slice A l c)) W (.slice A l c) a.row) => hW.atHas hn a.key a.n a.txn)
  have HDone := Lib.hid (fun (w2 W : World) (n' : Nat) (M' : St) (G' Gr : Gh) (h2 : Stage w0 p n' M' G' w2) => h2.didBox h a (.slice A l c) (W := W) (Gr := Gr))
  have HSub := Lib.hid (fun (Gr : Gh) => doSub (G := G) (Gr := Gr) h.holds)
  have HI := Lib.hid h.inv
  have HU := And.intro hnul (And.intro hid (And.intro hnn hn))
  clear HU h hrow hnul hk hid hnn hm
  unfold ptr actVal actObj zeroRep at *
  go_enter Tryz.func22, Tryz.ntmps22
  go_wp2_with (first
    | (go_at_call 28; refine (HK.out _).mono ?_; rintro e w1 ⟨rfl, hb1⟩; obtain ⟨hS1, hr1, hl1⟩ := HS.out _ hb1; replace hr1 := Lib.hid hr1; obtain ⟨a1, a2, a3, a4, a5, a6, -, r0, r1, r2, r3, r4, z0, z1, z2, z3, z4, f0, f1, f2, f3, f4, k0, k1, k2, k3, k4⟩ := HC.out _ _ _ _ hS1 (Sub.refl _); replace hS1 := Lib.hid hS1; replace hl1 := Lib.hid hl1; clear hb1)
    | (go_at_call 30; refine (HCall.out _ hS1.out hr1.out).mono ?_; clear hr1; clear a1 a2 a3 a4 a5 a6 r0 r1 r2 r3 r4 z0 z1 z2 z3 z4 f0 f1 f2 f3 f4 k0 k1 k2 k3 k4; rintro e w2 ⟨v, Gr, rfl, hS2, hs2, hf2, hh⟩; obtain ⟨A3, c3, hv, -, -⟩ := held_at hh; subst hv; obtain ⟨-, -, -, -, -, -, -, r0, r1, r2, r3, r4, z0, z1, z2, z3, z4, f0, f1, f2, f3, f4, k0, k1, k2, k3, k4⟩ := HC.out _ _ _ _ hS2 (fun _ _ => Gh.or_left _ _); replace hS2 := Lib.hid hS2; replace hs2 := Lib.hid hs2; replace hf2 := Lib.hid hf2; replace hh := Lib.hid hh))
  obtain ⟨hq1, hq2⟩ := HSub.out _ (fun b hb => Nat.le_trans hl1.out (hf2.out b hb))
  refine bodyPost_ret (v := repVal ⟨0, 0, (M.atA a.key a.n a.txn).2, [], (M.atA a.key a.n a.txn).1⟩ (.slice none 0 0) (.slice A3 (M.atA a.key a.n a.txn).1.length c3)) (by simp only [results, Tryz.results22]; go_simp; rfl) rfl ⟨.slice none 0 0, _, _, rfl, ?_, hq1, ⟨RowAt.nil _, hh.out.sub hq2, by simp, HI.out.atSmall hn _ _ _⟩⟩
  exact (HDone.out _ _ _ _ _ _ hS2.out (by simp only [os_setCell]) (by simp only [tape_setCell]) (by simp only [output_setCell]) (by simp only [size_setCell]) (fun b h1 h2 => by simp only [heap_setCell_ne _ _ _ _ h1, heap_setCell_ne _ _ _ _ h2]) (fun _ _ => Gh.or_left _ _) hs2.out (fun b hb => Nat.le_trans hl1.out (hf2.out b hb))).mono (by omega)


set_option maxRecDepth 100000 in
set_option maxHeartbeats 1000000 in
theorem do8 {w0 u : World} {p n : Nat} {M : St} {G : Gh} (h : Stage w0 p n M G u) (hn : n ≤ 1000000) (hnul : Nul w0) (a : ActM) (A : Option Addr) (l c : Nat) (hrow : RowFor w0 G u (.slice A l c) a.row) (hid : okI a.id) (hnn : okI a.n) (hk : kindB a.op = 8) :
    Calls Tryz.prog 22 #[ptr p, actVal a (.slice A l c)] u (DoIs w0 p (n + 2) (M.doA a).1 G (M.doA a).2) := by
  have hm := doA_8 M a hk
  rw [hm]
  have HK := Lib.hid (kind_any a A l c)
  rw [hk] at HK
  have HS := Lib.hid (fun (W : World) (hW : Below (((u.alloc (actObj a (.slice A l c))).alloc zeroRep).alloc zeroRep).heap.size (((u.alloc (actObj a (.slice A l c))).alloc zeroRep).alloc zeroRep) W) => And.intro ((h.boxes a (.slice A l c)).step (u' := W) hW) (And.intro (hrow.go ((Below.boxes u a (.slice A l c)).trans (hW.mono (Below.boxes u a (.slice A l c)).size)) (doG_sub h.holds a (.slice A l c))) (boxes_lt hW)))
  have HC := Lib.hid (fun (W : World) (M' : St) (n' : Nat) (G' : Gh) (hW : Stage w0 p n' M' G' W) (hs : Sub (doG G u.heap.size a (.slice A l c)) G') => DoCells.of hW.holds hs)
  have HCall := Lib.hid (fun (W : World) (hW : Stage w0 p n M (doG G u.heap.size a (.slice A l c)) W) (hr : RowFor w0 (doG G u.heap.size a (.slice A l c)) W (.slice A l c) a.row) => hW.rowHas a.key a.n a.txn a.id hid)
  have HDone := Lib.hid (fun (w2 W : World) (n' : Nat) (M' : St) (G' Gr : Gh) (h2 : Stage w0 p n' M' G' w2) => h2.didBox h a (.slice A l c) (W := W) (Gr := Gr))
  have HSub := Lib.hid (fun (Gr : Gh) => doSub (G := G) (Gr := Gr) h.holds)
  have HI := Lib.hid h.inv
  have HU := And.intro hnul (And.intro hid (And.intro hnn hn))
  clear HU h hrow hnul hk hid hnn hm
  unfold ptr encI actVal actObj zeroRep at *
  go_enter Tryz.func22, Tryz.ntmps22
  go_wp2_with (first
    | (go_at_call 28; refine (HK.out _).mono ?_; rintro e w1 ⟨rfl, hb1⟩; obtain ⟨hS1, hr1, hl1⟩ := HS.out _ hb1; replace hr1 := Lib.hid hr1; obtain ⟨a1, a2, a3, a4, a5, a6, -, r0, r1, r2, r3, r4, z0, z1, z2, z3, z4, f0, f1, f2, f3, f4, k0, k1, k2, k3, k4⟩ := HC.out _ _ _ _ hS1 (Sub.refl _); replace hS1 := Lib.hid hS1; replace hl1 := Lib.hid hl1; clear hb1)
    | (go_at_call 50; refine (HCall.out _ hS1.out hr1.out).mono ?_; clear hr1; clear a1 a2 a3 a4 a5 a6 r0 r1 r2 r3 r4 z0 z1 z2 z3 z4 f0 f1 f2 f3 f4 k0 k1 k2 k3 k4; rintro e w2 ⟨v, Gr, rfl, hS2, hs2, hf2, hh⟩; obtain ⟨A3, c3, hv, -, -⟩ := id hh; subst hv; obtain ⟨-, -, -, -, -, -, -, r0, r1, r2, r3, r4, z0, z1, z2, z3, z4, f0, f1, f2, f3, f4, k0, k1, k2, k3, k4⟩ := HC.out _ _ _ _ hS2 (fun _ _ => Gh.or_left _ _); replace hS2 := Lib.hid hS2; replace hs2 := Lib.hid hs2; replace hf2 := Lib.hid hf2; replace hh := Lib.hid hh))
  obtain ⟨hq1, hq2⟩ := HSub.out _ (fun b hb => Nat.le_trans hl1.out (hf2.out b hb))
  refine bodyPost_ret (v := repVal ⟨0, 0, (M.rowA a.key a.n a.txn a.id).2, (M.rowA a.key a.n a.txn a.id).1, []⟩ (.slice A3 (M.rowA a.key a.n a.txn a.id).1.length c3) (.slice none 0 0)) (by simp only [results, Tryz.results22]; go_simp; rfl) rfl ⟨_, .slice none 0 0, _, rfl, ?_, hq1, ⟨hh.out.sub hq2, HeldsAt.nil _ _, HI.out.rowSmall _ _ _ _, HeldSmall.nil⟩⟩
  exact (HDone.out _ _ _ _ _ _ hS2.out (by simp only [os_setCell]) (by simp only [tape_setCell]) (by simp only [output_setCell]) (by simp only [size_setCell]) (fun b h1 h2 => by simp only [heap_setCell_ne _ _ _ _ h1, heap_setCell_ne _ _ _ _ h2]) (fun _ _ => Gh.or_left _ _) hs2.out (fun b hb => Nat.le_trans hl1.out (hf2.out b hb))).mono (by omega)


set_option maxRecDepth 100000 in
set_option maxHeartbeats 1000000 in
theorem do9 {w0 u : World} {p n : Nat} {M : St} {G : Gh} (h : Stage w0 p n M G u) (hn : n ≤ 1000000) (hnul : Nul w0) (a : ActM) (A : Option Addr) (l c : Nat) (hrow : RowFor w0 G u (.slice A l c) a.row) (hid : okI a.id) (hnn : okI a.n) (hk : kindB a.op = 9) :
    Calls Tryz.prog 22 #[ptr p, actVal a (.slice A l c)] u (DoIs w0 p (n + 2) (M.doA a).1 G (M.doA a).2) := by
  have hm := doA_9 M a hk
  rw [hm]
  have HK := Lib.hid (kind_any a A l c)
  rw [hk] at HK
  have HS := Lib.hid (fun (W : World) (hW : Below (((u.alloc (actObj a (.slice A l c))).alloc zeroRep).alloc zeroRep).heap.size (((u.alloc (actObj a (.slice A l c))).alloc zeroRep).alloc zeroRep) W) => And.intro ((h.boxes a (.slice A l c)).step (u' := W) hW) (And.intro (hrow.go ((Below.boxes u a (.slice A l c)).trans (hW.mono (Below.boxes u a (.slice A l c)).size)) (doG_sub h.holds a (.slice A l c))) (boxes_lt hW)))
  have HC := Lib.hid (fun (W : World) (M' : St) (n' : Nat) (G' : Gh) (hW : Stage w0 p n' M' G' W) (hs : Sub (doG G u.heap.size a (.slice A l c)) G') => DoCells.of hW.holds hs)
  have HCall := Lib.hid (fun (W : World) (hW : Stage w0 p n M (doG G u.heap.size a (.slice A l c)) W) (hr : RowFor w0 (doG G u.heap.size a (.slice A l c)) W (.slice A l c) a.row) => hW.last a.key a.id hid)
  have HDone := Lib.hid (fun (w2 W : World) (n' : Nat) (M' : St) (G' Gr : Gh) (h2 : Stage w0 p n' M' G' w2) => h2.didBox h a (.slice A l c) (W := W) (Gr := Gr))
  have HSub := Lib.hid (fun (Gr : Gh) => doSub (G := G) (Gr := Gr) h.holds)
  have HI := Lib.hid h.inv
  have HU := And.intro hnul (And.intro hid (And.intro hnn hn))
  clear HU h hrow hnul hk hid hnn hm
  unfold ptr encI actVal actObj zeroRep at *
  go_enter Tryz.func22, Tryz.ntmps22
  go_wp2_with (first
    | (go_at_call 28; refine (HK.out _).mono ?_; rintro e w1 ⟨rfl, hb1⟩; obtain ⟨hS1, hr1, hl1⟩ := HS.out _ hb1; replace hr1 := Lib.hid hr1; obtain ⟨a1, a2, a3, a4, a5, a6, -, r0, r1, r2, r3, r4, z0, z1, z2, z3, z4, f0, f1, f2, f3, f4, k0, k1, k2, k3, k4⟩ := HC.out _ _ _ _ hS1 (Sub.refl _); replace hS1 := Lib.hid hS1; replace hl1 := Lib.hid hl1; clear hb1)
    | (go_at_call 39; refine (HCall.out _ hS1.out hr1.out).mono ?_; clear hr1; clear a1 a2 a3 a4 a5 a6 r0 r1 r2 r3 r4 z0 z1 z2 z3 z4 f0 f1 f2 f3 f4 k0 k1 k2 k3 k4; rintro e w2 ⟨rfl, hS2⟩; obtain ⟨-, -, -, -, -, -, -, r0, r1, r2, r3, r4, z0, z1, z2, z3, z4, f0, f1, f2, f3, f4, k0, k1, k2, k3, k4⟩ := HC.out _ _ _ _ hS2 (Sub.refl _); replace hS2 := Lib.hid hS2; unfold three))
  obtain ⟨hq1, -⟩ := HSub.out Gh.nil (fun b hb => absurd rfl hb)
  refine bodyPost_ret (v := repVal ⟨(M.lastA a.key a.id).1, (M.lastA a.key a.id).2.1, (M.lastA a.key a.id).2.2, [], []⟩ (.slice none 0 0) (.slice none 0 0)) (by simp only [results, Tryz.results22]; go_simp; rfl) rfl ⟨.slice none 0 0, .slice none 0 0, _, rfl, ?_, hq1, ⟨RowAt.nil _, HeldsAt.nil _ _, by simp, HeldSmall.nil⟩⟩
  exact (HDone.out _ _ _ _ _ _ hS2.out (by simp only [os_setCell]) (by simp only [tape_setCell]) (by simp only [output_setCell]) (by simp only [size_setCell]) (fun b h1 h2 => by simp only [heap_setCell_ne _ _ _ _ h1, heap_setCell_ne _ _ _ _ h2]) (Sub.refl _) (fun _ _ h => by cases h) (fun b hb => absurd rfl hb)).mono (by omega)


set_option maxRecDepth 100000 in
set_option maxHeartbeats 1000000 in
theorem do10 {w0 u : World} {p n : Nat} {M : St} {G : Gh} (h : Stage w0 p n M G u) (hn : n ≤ 1000000) (hnul : Nul w0) (a : ActM) (A : Option Addr) (l c : Nat) (hrow : RowFor w0 G u (.slice A l c) a.row) (hid : okI a.id) (hnn : okI a.n) (hk : kindB a.op = 10) :
    Calls Tryz.prog 22 #[ptr p, actVal a (.slice A l c)] u (DoIs w0 p (n + 2) (M.doA a).1 G (M.doA a).2) := by
  have hm := doA_10 M a hk
  rw [hm]
  have HK := Lib.hid (kind_any a A l c)
  rw [hk] at HK
  have HS := Lib.hid (fun (W : World) (hW : Below (((u.alloc (actObj a (.slice A l c))).alloc zeroRep).alloc zeroRep).heap.size (((u.alloc (actObj a (.slice A l c))).alloc zeroRep).alloc zeroRep) W) => And.intro ((h.boxes a (.slice A l c)).step (u' := W) hW) (And.intro (hrow.go ((Below.boxes u a (.slice A l c)).trans (hW.mono (Below.boxes u a (.slice A l c)).size)) (doG_sub h.holds a (.slice A l c))) (boxes_lt hW)))
  have HC := Lib.hid (fun (W : World) (M' : St) (n' : Nat) (G' : Gh) (hW : Stage w0 p n' M' G' W) (hs : Sub (doG G u.heap.size a (.slice A l c)) G') => DoCells.of hW.holds hs)
  have HCall := Lib.hid (fun (W : World) (hW : Stage w0 p n M (doG G u.heap.size a (.slice A l c)) W) (hr : RowFor w0 (doG G u.heap.size a (.slice A l c)) W (.slice A l c) a.row) => hW.drop hn a.key)
  have HDone := Lib.hid (fun (w2 W : World) (n' : Nat) (M' : St) (G' Gr : Gh) (h2 : Stage w0 p n' M' G' w2) => h2.didBox h a (.slice A l c) (W := W) (Gr := Gr))
  have HSub := Lib.hid (fun (Gr : Gh) => doSub (G := G) (Gr := Gr) h.holds)
  have HI := Lib.hid h.inv
  have HU := And.intro hnul (And.intro hid (And.intro hnn hn))
  clear HU h hrow hnul hk hid hnn hm
  unfold ptr actVal actObj zeroRep at *
  go_enter Tryz.func22, Tryz.ntmps22
  go_wp2_with (first
    | (go_at_call 28; refine (HK.out _).mono ?_; rintro e w1 ⟨rfl, hb1⟩; obtain ⟨hS1, hr1, hl1⟩ := HS.out _ hb1; replace hr1 := Lib.hid hr1; obtain ⟨a1, a2, a3, a4, a5, a6, -, r0, r1, r2, r3, r4, z0, z1, z2, z3, z4, f0, f1, f2, f3, f4, k0, k1, k2, k3, k4⟩ := HC.out _ _ _ _ hS1 (Sub.refl _); replace hS1 := Lib.hid hS1; replace hl1 := Lib.hid hl1; clear hb1)
    | (go_at_call 51; refine (HCall.out _ hS1.out hr1.out).mono ?_; clear hr1; clear a1 a2 a3 a4 a5 a6 r0 r1 r2 r3 r4 z0 z1 z2 z3 z4 f0 f1 f2 f3 f4 k0 k1 k2 k3 k4; rintro e w2 ⟨rfl, hS2⟩; obtain ⟨-, -, -, -, -, -, -, r0, r1, r2, r3, r4, z0, z1, z2, z3, z4, f0, f1, f2, f3, f4, k0, k1, k2, k3, k4⟩ := HC.out _ _ _ _ hS2 (Sub.refl _); replace hS2 := Lib.hid hS2))
  obtain ⟨hq1, -⟩ := HSub.out Gh.nil (fun b hb => absurd rfl hb)
  refine bodyPost_ret (v := repVal ⟨0, 0, (M.dropA a.key).2, [], []⟩ (.slice none 0 0) (.slice none 0 0)) (by simp only [results, Tryz.results22]; go_simp; rfl) rfl ⟨.slice none 0 0, .slice none 0 0, _, rfl, ?_, hq1, ⟨RowAt.nil _, HeldsAt.nil _ _, by simp, HeldSmall.nil⟩⟩
  exact (HDone.out _ _ _ _ _ _ hS2.out (by simp only [os_setCell]) (by simp only [tape_setCell]) (by simp only [output_setCell]) (by simp only [size_setCell]) (fun b h1 h2 => by simp only [heap_setCell_ne _ _ _ _ h1, heap_setCell_ne _ _ _ _ h2]) (Sub.refl _) (fun _ _ h => by cases h) (fun b hb => absurd rfl hb)).mono (by omega)

theorem Stage.do {w0 u : World} {p n : Nat} {M : St} {G : Gh} (h : Stage w0 p n M G u) (hn : n ≤ 1000000) (hnul : Nul w0) (a : ActM) (A : Option Addr) (l c : Nat) (hrow : RowFor w0 G u (.slice A l c) a.row) (hid : okI a.id) (hnn : okI a.n) :
    Calls Tryz.prog 22 #[ptr p, actVal a (.slice A l c)] u (DoIs w0 p (n + 2) (M.doA a).1 G (M.doA a).2) := by
  obtain ⟨h1, h2⟩ := kindB_range a.op
  have h3 : kindB a.op = 0 ∨ kindB a.op = 1 ∨ kindB a.op = 2 ∨ kindB a.op = 3 ∨ kindB a.op = 4 ∨ kindB a.op = 5 ∨ kindB a.op = 6 ∨ kindB a.op = 7 ∨ kindB a.op = 8 ∨ kindB a.op = 9 ∨ kindB a.op = 10 := by omega
  rcases h3 with h3 | h3 | h3 | h3 | h3 | h3 | h3 | h3 | h3 | h3 | h3
  · exact do0 h hn hnul a A l c hrow hid hnn h3
  · exact do1 h hn hnul a A l c hrow hid hnn h3
  · exact do2 h hn hnul a A l c hrow hid hnn h3
  · exact do3 h hn hnul a A l c hrow hid hnn h3
  · exact do4 h hn hnul a A l c hrow hid hnn h3
  · exact do5 h hn hnul a A l c hrow hid hnn h3
  · exact do6 h hn hnul a A l c hrow hid hnn h3
  · exact do7 h hn hnul a A l c hrow hid hnn h3
  · exact do8 h hn hnul a A l c hrow hid hnn h3
  · exact do9 h hn hnul a A l c hrow hid hnn h3
  · exact do10 h hn hnul a A l c hrow hid hnn h3


set_option maxRecDepth 100000 in
set_option maxHeartbeats 1000000 in
theorem donil0 (u : World) (a : ActM) (A : Option Addr) (l c : Nat) (hk : kindB a.op = 0) :
    Calls Tryz.prog 22 #[.pointer none, actVal a (.slice A l c)] u fun e u' => e = .returned (repVal nilRep (.slice none 0 0) (.slice none 0 0)) ∧ Below u.heap.size u u' := by
  have HK := Lib.hid (kind_any a A l c)
  rw [hk] at HK
  have HC := Lib.hid (fun (W : World) (hW : Below (((u.alloc (actObj a (.slice A l c))).alloc zeroRep).alloc zeroRep).heap.size (((u.alloc (actObj a (.slice A l c))).alloc zeroRep).alloc zeroRep) W) => DoCells.of ((nilHolds u a (.slice A l c)).below hW) (Sub.refl _))
  have HCall := Lib.hid (add_nil a.key a.txn (.slice A l c))
  have HB := Lib.hid (fun (W : World) (hW : Below (((u.alloc (actObj a (.slice A l c))).alloc zeroRep).alloc zeroRep).heap.size (((u.alloc (actObj a (.slice A l c))).alloc zeroRep).alloc zeroRep) W) => (Below.boxes u a (.slice A l c)).trans (hW.mono (Below.boxes u a (.slice A l c)).size))
  unfold encI actVal actObj zeroRep at *
  go_enter Tryz.func22, Tryz.ntmps22
  go_wp2_with (first
    | (go_at_call 28; refine (HK.out _).mono ?_; rintro e w1 ⟨rfl, hb1⟩; obtain ⟨a1, a2, a3, a4, a5, a6, -, r0, r1, r2, r3, r4, z0, z1, z2, z3, z4, f0, f1, f2, f3, f4, k0, k1, k2, k3, k4⟩ := HC.out _ hb1; replace hb1 := Lib.hid hb1)
    | (go_at_call 36; refine (HCall.out _).mono ?_; clear a1 a2 a3 a4 a5 a6 r0 r1 r2 r3 r4 z0 z1 z2 z3 z4 f0 f1 f2 f3 f4 k0 k1 k2 k3 k4; rintro e w2 ⟨rfl, rfl⟩; have hb2 := hb1; obtain ⟨-, -, -, -, -, -, -, r0, r1, r2, r3, r4, z0, z1, z2, z3, z4, f0, f1, f2, f3, f4, k0, k1, k2, k3, k4⟩ := HC.out _ hb2.out; clear hb1))
  refine bodyPost_ret (v := repVal nilRep (.slice none 0 0) (.slice none 0 0)) (by simp only [results, Tryz.results22]; go_simp; rfl) rfl ⟨rfl, ?_⟩
  have hbb := HB.out _ hb2.out
  repeat refine Below.setCell ?_ (by dsimp only; omega) _
  exact hbb


set_option maxRecDepth 100000 in
set_option maxHeartbeats 1000000 in
theorem donil1 (u : World) (a : ActM) (A : Option Addr) (l c : Nat) (hk : kindB a.op = 1) :
    Calls Tryz.prog 22 #[.pointer none, actVal a (.slice A l c)] u fun e u' => e = .returned (repVal nilRep (.slice none 0 0) (.slice none 0 0)) ∧ Below u.heap.size u u' := by
  have HK := Lib.hid (kind_any a A l c)
  rw [hk] at HK
  have HC := Lib.hid (fun (W : World) (hW : Below (((u.alloc (actObj a (.slice A l c))).alloc zeroRep).alloc zeroRep).heap.size (((u.alloc (actObj a (.slice A l c))).alloc zeroRep).alloc zeroRep) W) => DoCells.of ((nilHolds u a (.slice A l c)).below hW) (Sub.refl _))
  have HCall := Lib.hid (put_nil a.key a.txn a.id (.slice A l c))
  have HB := Lib.hid (fun (W : World) (hW : Below (((u.alloc (actObj a (.slice A l c))).alloc zeroRep).alloc zeroRep).heap.size (((u.alloc (actObj a (.slice A l c))).alloc zeroRep).alloc zeroRep) W) => (Below.boxes u a (.slice A l c)).trans (hW.mono (Below.boxes u a (.slice A l c)).size))
  unfold encI actVal actObj zeroRep at *
  go_enter Tryz.func22, Tryz.ntmps22
  go_wp2_with (first
    | (go_at_call 28; refine (HK.out _).mono ?_; rintro e w1 ⟨rfl, hb1⟩; obtain ⟨a1, a2, a3, a4, a5, a6, -, r0, r1, r2, r3, r4, z0, z1, z2, z3, z4, f0, f1, f2, f3, f4, k0, k1, k2, k3, k4⟩ := HC.out _ hb1; replace hb1 := Lib.hid hb1)
    | (go_at_call 38; refine (HCall.out _).mono ?_; clear a1 a2 a3 a4 a5 a6 r0 r1 r2 r3 r4 z0 z1 z2 z3 z4 f0 f1 f2 f3 f4 k0 k1 k2 k3 k4; rintro e w2 ⟨rfl, rfl⟩; have hb2 := hb1; obtain ⟨-, -, -, -, -, -, -, r0, r1, r2, r3, r4, z0, z1, z2, z3, z4, f0, f1, f2, f3, f4, k0, k1, k2, k3, k4⟩ := HC.out _ hb2.out; clear hb1))
  refine bodyPost_ret (v := repVal nilRep (.slice none 0 0) (.slice none 0 0)) (by simp only [results, Tryz.results22]; go_simp; rfl) rfl ⟨rfl, ?_⟩
  have hbb := HB.out _ hb2.out
  repeat refine Below.setCell ?_ (by dsimp only; omega) _
  exact hbb


set_option maxRecDepth 100000 in
set_option maxHeartbeats 1000000 in
theorem donil2 (u : World) (a : ActM) (A : Option Addr) (l c : Nat) (hk : kindB a.op = 2) :
    Calls Tryz.prog 22 #[.pointer none, actVal a (.slice A l c)] u fun e u' => e = .returned (repVal nilRep (.slice none 0 0) (.slice none 0 0)) ∧ Below u.heap.size u u' := by
  have HK := Lib.hid (kind_any a A l c)
  rw [hk] at HK
  have HC := Lib.hid (fun (W : World) (hW : Below (((u.alloc (actObj a (.slice A l c))).alloc zeroRep).alloc zeroRep).heap.size (((u.alloc (actObj a (.slice A l c))).alloc zeroRep).alloc zeroRep) W) => DoCells.of ((nilHolds u a (.slice A l c)).below hW) (Sub.refl _))
  have HCall := Lib.hid (del_nil a.key a.txn a.id)
  have HB := Lib.hid (fun (W : World) (hW : Below (((u.alloc (actObj a (.slice A l c))).alloc zeroRep).alloc zeroRep).heap.size (((u.alloc (actObj a (.slice A l c))).alloc zeroRep).alloc zeroRep) W) => (Below.boxes u a (.slice A l c)).trans (hW.mono (Below.boxes u a (.slice A l c)).size))
  unfold encI actVal actObj zeroRep at *
  go_enter Tryz.func22, Tryz.ntmps22
  go_wp2_with (first
    | (go_at_call 28; refine (HK.out _).mono ?_; rintro e w1 ⟨rfl, hb1⟩; obtain ⟨a1, a2, a3, a4, a5, a6, -, r0, r1, r2, r3, r4, z0, z1, z2, z3, z4, f0, f1, f2, f3, f4, k0, k1, k2, k3, k4⟩ := HC.out _ hb1; replace hb1 := Lib.hid hb1)
    | (go_at_call 49; refine (HCall.out _).mono ?_; clear a1 a2 a3 a4 a5 a6 r0 r1 r2 r3 r4 z0 z1 z2 z3 z4 f0 f1 f2 f3 f4 k0 k1 k2 k3 k4; rintro e w2 ⟨rfl, rfl⟩; have hb2 := hb1; obtain ⟨-, -, -, -, -, -, -, r0, r1, r2, r3, r4, z0, z1, z2, z3, z4, f0, f1, f2, f3, f4, k0, k1, k2, k3, k4⟩ := HC.out _ hb2.out; clear hb1))
  refine bodyPost_ret (v := repVal nilRep (.slice none 0 0) (.slice none 0 0)) (by simp only [results, Tryz.results22]; go_simp; rfl) rfl ⟨rfl, ?_⟩
  have hbb := HB.out _ hb2.out
  repeat refine Below.setCell ?_ (by dsimp only; omega) _
  exact hbb


set_option maxRecDepth 100000 in
set_option maxHeartbeats 1000000 in
theorem donil3 (u : World) (a : ActM) (A : Option Addr) (l c : Nat) (hk : kindB a.op = 3) :
    Calls Tryz.prog 22 #[.pointer none, actVal a (.slice A l c)] u fun e u' => e = .returned (repVal nilRep (.slice none 0 0) (.slice none 0 0)) ∧ Below u.heap.size u u' := by
  have HK := Lib.hid (kind_any a A l c)
  rw [hk] at HK
  have HC := Lib.hid (fun (W : World) (hW : Below (((u.alloc (actObj a (.slice A l c))).alloc zeroRep).alloc zeroRep).heap.size (((u.alloc (actObj a (.slice A l c))).alloc zeroRep).alloc zeroRep) W) => DoCells.of ((nilHolds u a (.slice A l c)).below hW) (Sub.refl _))
  have HCall := Lib.hid (mark_nil a.txn)
  have HB := Lib.hid (fun (W : World) (hW : Below (((u.alloc (actObj a (.slice A l c))).alloc zeroRep).alloc zeroRep).heap.size (((u.alloc (actObj a (.slice A l c))).alloc zeroRep).alloc zeroRep) W) => (Below.boxes u a (.slice A l c)).trans (hW.mono (Below.boxes u a (.slice A l c)).size))
  unfold encI actVal actObj zeroRep at *
  go_enter Tryz.func22, Tryz.ntmps22
  go_wp2_with (first
    | (go_at_call 28; refine (HK.out _).mono ?_; rintro e w1 ⟨rfl, hb1⟩; obtain ⟨a1, a2, a3, a4, a5, a6, -, r0, r1, r2, r3, r4, z0, z1, z2, z3, z4, f0, f1, f2, f3, f4, k0, k1, k2, k3, k4⟩ := HC.out _ hb1; replace hb1 := Lib.hid hb1)
    | (go_at_call 31; refine (HCall.out _).mono ?_; clear a1 a2 a3 a4 a5 a6 r0 r1 r2 r3 r4 z0 z1 z2 z3 z4 f0 f1 f2 f3 f4 k0 k1 k2 k3 k4; rintro e w2 ⟨rfl, rfl⟩; have hb2 := hb1; obtain ⟨-, -, -, -, -, -, -, r0, r1, r2, r3, r4, z0, z1, z2, z3, z4, f0, f1, f2, f3, f4, k0, k1, k2, k3, k4⟩ := HC.out _ hb2.out; clear hb1))
  refine bodyPost_ret (v := repVal nilRep (.slice none 0 0) (.slice none 0 0)) (by simp only [results, Tryz.results22]; go_simp; rfl) rfl ⟨rfl, ?_⟩
  have hbb := HB.out _ hb2.out
  repeat refine Below.setCell ?_ (by dsimp only; omega) _
  exact hbb


set_option maxRecDepth 100000 in
set_option maxHeartbeats 1000000 in
theorem donil4 (u : World) (a : ActM) (A : Option Addr) (l c : Nat) (hk : kindB a.op = 4) :
    Calls Tryz.prog 22 #[.pointer none, actVal a (.slice A l c)] u fun e u' => e = .returned (repVal nilRep (.slice none 0 0) (.slice none 0 0)) ∧ Below u.heap.size u u' := by
  have HK := Lib.hid (kind_any a A l c)
  rw [hk] at HK
  have HC := Lib.hid (fun (W : World) (hW : Below (((u.alloc (actObj a (.slice A l c))).alloc zeroRep).alloc zeroRep).heap.size (((u.alloc (actObj a (.slice A l c))).alloc zeroRep).alloc zeroRep) W) => DoCells.of ((nilHolds u a (.slice A l c)).below hW) (Sub.refl _))
  have HCall := Lib.hid (back_nil a.txn a.n)
  have HB := Lib.hid (fun (W : World) (hW : Below (((u.alloc (actObj a (.slice A l c))).alloc zeroRep).alloc zeroRep).heap.size (((u.alloc (actObj a (.slice A l c))).alloc zeroRep).alloc zeroRep) W) => (Below.boxes u a (.slice A l c)).trans (hW.mono (Below.boxes u a (.slice A l c)).size))
  unfold encI actVal actObj zeroRep at *
  go_enter Tryz.func22, Tryz.ntmps22
  go_wp2_with (first
    | (go_at_call 28; refine (HK.out _).mono ?_; rintro e w1 ⟨rfl, hb1⟩; obtain ⟨a1, a2, a3, a4, a5, a6, -, r0, r1, r2, r3, r4, z0, z1, z2, z3, z4, f0, f1, f2, f3, f4, k0, k1, k2, k3, k4⟩ := HC.out _ hb1; replace hb1 := Lib.hid hb1)
    | (go_at_call 32; refine (HCall.out _).mono ?_; clear a1 a2 a3 a4 a5 a6 r0 r1 r2 r3 r4 z0 z1 z2 z3 z4 f0 f1 f2 f3 f4 k0 k1 k2 k3 k4; rintro e w2 ⟨rfl, hb2⟩; replace hb2 := Lib.hid (hb1.out.trans (hb2.mono hb1.out.size)); obtain ⟨-, -, -, -, -, -, -, r0, r1, r2, r3, r4, z0, z1, z2, z3, z4, f0, f1, f2, f3, f4, k0, k1, k2, k3, k4⟩ := HC.out _ hb2.out; clear hb1))
  refine bodyPost_ret (v := repVal nilRep (.slice none 0 0) (.slice none 0 0)) (by simp only [results, Tryz.results22]; go_simp; rfl) rfl ⟨rfl, ?_⟩
  have hbb := HB.out _ hb2.out
  repeat refine Below.setCell ?_ (by dsimp only; omega) _
  exact hbb


set_option maxRecDepth 100000 in
set_option maxHeartbeats 1000000 in
theorem donil5 (u : World) (a : ActM) (A : Option Addr) (l c : Nat) (hk : kindB a.op = 5) :
    Calls Tryz.prog 22 #[.pointer none, actVal a (.slice A l c)] u fun e u' => e = .returned (repVal nilRep (.slice none 0 0) (.slice none 0 0)) ∧ Below u.heap.size u u' := by
  have HK := Lib.hid (kind_any a A l c)
  rw [hk] at HK
  have HC := Lib.hid (fun (W : World) (hW : Below (((u.alloc (actObj a (.slice A l c))).alloc zeroRep).alloc zeroRep).heap.size (((u.alloc (actObj a (.slice A l c))).alloc zeroRep).alloc zeroRep) W) => DoCells.of ((nilHolds u a (.slice A l c)).below hW) (Sub.refl _))
  have HCall := Lib.hid (commit_nil a.txn)
  have HB := Lib.hid (fun (W : World) (hW : Below (((u.alloc (actObj a (.slice A l c))).alloc zeroRep).alloc zeroRep).heap.size (((u.alloc (actObj a (.slice A l c))).alloc zeroRep).alloc zeroRep) W) => (Below.boxes u a (.slice A l c)).trans (hW.mono (Below.boxes u a (.slice A l c)).size))
  unfold encI actVal actObj zeroRep at *
  go_enter Tryz.func22, Tryz.ntmps22
  go_wp2_with (first
    | (go_at_call 28; refine (HK.out _).mono ?_; rintro e w1 ⟨rfl, hb1⟩; obtain ⟨a1, a2, a3, a4, a5, a6, -, r0, r1, r2, r3, r4, z0, z1, z2, z3, z4, f0, f1, f2, f3, f4, k0, k1, k2, k3, k4⟩ := HC.out _ hb1; replace hb1 := Lib.hid hb1)
    | (go_at_call 34; refine (HCall.out _).mono ?_; clear a1 a2 a3 a4 a5 a6 r0 r1 r2 r3 r4 z0 z1 z2 z3 z4 f0 f1 f2 f3 f4 k0 k1 k2 k3 k4; rintro e w2 ⟨rfl, hb2⟩; replace hb2 := Lib.hid (hb1.out.trans (hb2.mono hb1.out.size)); obtain ⟨-, -, -, -, -, -, -, r0, r1, r2, r3, r4, z0, z1, z2, z3, z4, f0, f1, f2, f3, f4, k0, k1, k2, k3, k4⟩ := HC.out _ hb2.out; clear hb1))
  refine bodyPost_ret (v := repVal nilRep (.slice none 0 0) (.slice none 0 0)) (by simp only [results, Tryz.results22]; go_simp; rfl) rfl ⟨rfl, ?_⟩
  have hbb := HB.out _ hb2.out
  repeat refine Below.setCell ?_ (by dsimp only; omega) _
  exact hbb


set_option maxRecDepth 100000 in
set_option maxHeartbeats 1000000 in
theorem donil6 (u : World) (a : ActM) (A : Option Addr) (l c : Nat) (hk : kindB a.op = 6) :
    Calls Tryz.prog 22 #[.pointer none, actVal a (.slice A l c)] u fun e u' => e = .returned (repVal nilRep (.slice none 0 0) (.slice none 0 0)) ∧ Below u.heap.size u u' := by
  have HK := Lib.hid (kind_any a A l c)
  rw [hk] at HK
  have HC := Lib.hid (fun (W : World) (hW : Below (((u.alloc (actObj a (.slice A l c))).alloc zeroRep).alloc zeroRep).heap.size (((u.alloc (actObj a (.slice A l c))).alloc zeroRep).alloc zeroRep) W) => DoCells.of ((nilHolds u a (.slice A l c)).below hW) (Sub.refl _))
  have HCall := Lib.hid (abort_nil a.txn)
  have HB := Lib.hid (fun (W : World) (hW : Below (((u.alloc (actObj a (.slice A l c))).alloc zeroRep).alloc zeroRep).heap.size (((u.alloc (actObj a (.slice A l c))).alloc zeroRep).alloc zeroRep) W) => (Below.boxes u a (.slice A l c)).trans (hW.mono (Below.boxes u a (.slice A l c)).size))
  unfold encI actVal actObj zeroRep at *
  go_enter Tryz.func22, Tryz.ntmps22
  go_wp2_with (first
    | (go_at_call 28; refine (HK.out _).mono ?_; rintro e w1 ⟨rfl, hb1⟩; obtain ⟨a1, a2, a3, a4, a5, a6, -, r0, r1, r2, r3, r4, z0, z1, z2, z3, z4, f0, f1, f2, f3, f4, k0, k1, k2, k3, k4⟩ := HC.out _ hb1; replace hb1 := Lib.hid hb1)
    | (go_at_call 33; refine (HCall.out _).mono ?_; clear a1 a2 a3 a4 a5 a6 r0 r1 r2 r3 r4 z0 z1 z2 z3 z4 f0 f1 f2 f3 f4 k0 k1 k2 k3 k4; rintro e w2 ⟨rfl, hb2⟩; replace hb2 := Lib.hid (hb1.out.trans (hb2.mono hb1.out.size)); obtain ⟨-, -, -, -, -, -, -, r0, r1, r2, r3, r4, z0, z1, z2, z3, z4, f0, f1, f2, f3, f4, k0, k1, k2, k3, k4⟩ := HC.out _ hb2.out; clear hb1))
  refine bodyPost_ret (v := repVal nilRep (.slice none 0 0) (.slice none 0 0)) (by simp only [results, Tryz.results22]; go_simp; rfl) rfl ⟨rfl, ?_⟩
  have hbb := HB.out _ hb2.out
  repeat refine Below.setCell ?_ (by dsimp only; omega) _
  exact hbb


set_option maxRecDepth 100000 in
set_option maxHeartbeats 1000000 in
theorem donil7 (u : World) (a : ActM) (A : Option Addr) (l c : Nat) (hk : kindB a.op = 7) :
    Calls Tryz.prog 22 #[.pointer none, actVal a (.slice A l c)] u fun e u' => e = .returned (repVal nilRep (.slice none 0 0) (.slice none 0 0)) ∧ Below u.heap.size u u' := by
  have HK := Lib.hid (kind_any a A l c)
  rw [hk] at HK
  have HC := Lib.hid (fun (W : World) (hW : Below (((u.alloc (actObj a (.slice A l c))).alloc zeroRep).alloc zeroRep).heap.size (((u.alloc (actObj a (.slice A l c))).alloc zeroRep).alloc zeroRep) W) => DoCells.of ((nilHolds u a (.slice A l c)).below hW) (Sub.refl _))
  have HCall := Lib.hid (at_nil a.key a.n a.txn)
  have HB := Lib.hid (fun (W : World) (hW : Below (((u.alloc (actObj a (.slice A l c))).alloc zeroRep).alloc zeroRep).heap.size (((u.alloc (actObj a (.slice A l c))).alloc zeroRep).alloc zeroRep) W) => (Below.boxes u a (.slice A l c)).trans (hW.mono (Below.boxes u a (.slice A l c)).size))
  unfold actVal actObj zeroRep at *
  go_enter Tryz.func22, Tryz.ntmps22
  go_wp2_with (first
    | (go_at_call 28; refine (HK.out _).mono ?_; rintro e w1 ⟨rfl, hb1⟩; obtain ⟨a1, a2, a3, a4, a5, a6, -, r0, r1, r2, r3, r4, z0, z1, z2, z3, z4, f0, f1, f2, f3, f4, k0, k1, k2, k3, k4⟩ := HC.out _ hb1; replace hb1 := Lib.hid hb1)
    | (go_at_call 30; refine (HCall.out _).mono ?_; clear a1 a2 a3 a4 a5 a6 r0 r1 r2 r3 r4 z0 z1 z2 z3 z4 f0 f1 f2 f3 f4 k0 k1 k2 k3 k4; rintro e w2 ⟨rfl, rfl⟩; have hb2 := hb1; obtain ⟨-, -, -, -, -, -, -, r0, r1, r2, r3, r4, z0, z1, z2, z3, z4, f0, f1, f2, f3, f4, k0, k1, k2, k3, k4⟩ := HC.out _ hb2.out; clear hb1))
  refine bodyPost_ret (v := repVal nilRep (.slice none 0 0) (.slice none 0 0)) (by simp only [results, Tryz.results22]; go_simp; rfl) rfl ⟨rfl, ?_⟩
  have hbb := HB.out _ hb2.out
  repeat refine Below.setCell ?_ (by dsimp only; omega) _
  exact hbb


set_option maxRecDepth 100000 in
set_option maxHeartbeats 1000000 in
theorem donil8 (u : World) (a : ActM) (A : Option Addr) (l c : Nat) (hk : kindB a.op = 8) :
    Calls Tryz.prog 22 #[.pointer none, actVal a (.slice A l c)] u fun e u' => e = .returned (repVal nilRep (.slice none 0 0) (.slice none 0 0)) ∧ Below u.heap.size u u' := by
  have HK := Lib.hid (kind_any a A l c)
  rw [hk] at HK
  have HC := Lib.hid (fun (W : World) (hW : Below (((u.alloc (actObj a (.slice A l c))).alloc zeroRep).alloc zeroRep).heap.size (((u.alloc (actObj a (.slice A l c))).alloc zeroRep).alloc zeroRep) W) => DoCells.of ((nilHolds u a (.slice A l c)).below hW) (Sub.refl _))
  have HCall := Lib.hid (row_nil a.key a.n a.txn a.id)
  have HB := Lib.hid (fun (W : World) (hW : Below (((u.alloc (actObj a (.slice A l c))).alloc zeroRep).alloc zeroRep).heap.size (((u.alloc (actObj a (.slice A l c))).alloc zeroRep).alloc zeroRep) W) => (Below.boxes u a (.slice A l c)).trans (hW.mono (Below.boxes u a (.slice A l c)).size))
  unfold encI actVal actObj zeroRep at *
  go_enter Tryz.func22, Tryz.ntmps22
  go_wp2_with (first
    | (go_at_call 28; refine (HK.out _).mono ?_; rintro e w1 ⟨rfl, hb1⟩; obtain ⟨a1, a2, a3, a4, a5, a6, -, r0, r1, r2, r3, r4, z0, z1, z2, z3, z4, f0, f1, f2, f3, f4, k0, k1, k2, k3, k4⟩ := HC.out _ hb1; replace hb1 := Lib.hid hb1)
    | (go_at_call 50; refine (HCall.out _).mono ?_; clear a1 a2 a3 a4 a5 a6 r0 r1 r2 r3 r4 z0 z1 z2 z3 z4 f0 f1 f2 f3 f4 k0 k1 k2 k3 k4; rintro e w2 ⟨rfl, hb2⟩; replace hb2 := Lib.hid (hb1.out.trans (hb2.mono hb1.out.size)); obtain ⟨-, -, -, -, -, -, -, r0, r1, r2, r3, r4, z0, z1, z2, z3, z4, f0, f1, f2, f3, f4, k0, k1, k2, k3, k4⟩ := HC.out _ hb2.out; clear hb1))
  refine bodyPost_ret (v := repVal nilRep (.slice none 0 0) (.slice none 0 0)) (by simp only [results, Tryz.results22]; go_simp; rfl) rfl ⟨rfl, ?_⟩
  have hbb := HB.out _ hb2.out
  repeat refine Below.setCell ?_ (by dsimp only; omega) _
  exact hbb


set_option maxRecDepth 100000 in
set_option maxHeartbeats 1000000 in
theorem donil9 (u : World) (a : ActM) (A : Option Addr) (l c : Nat) (hk : kindB a.op = 9) :
    Calls Tryz.prog 22 #[.pointer none, actVal a (.slice A l c)] u fun e u' => e = .returned (repVal nilRep (.slice none 0 0) (.slice none 0 0)) ∧ Below u.heap.size u u' := by
  have HK := Lib.hid (kind_any a A l c)
  rw [hk] at HK
  have HC := Lib.hid (fun (W : World) (hW : Below (((u.alloc (actObj a (.slice A l c))).alloc zeroRep).alloc zeroRep).heap.size (((u.alloc (actObj a (.slice A l c))).alloc zeroRep).alloc zeroRep) W) => DoCells.of ((nilHolds u a (.slice A l c)).below hW) (Sub.refl _))
  have HCall := Lib.hid (last_nil a.key a.id)
  have HB := Lib.hid (fun (W : World) (hW : Below (((u.alloc (actObj a (.slice A l c))).alloc zeroRep).alloc zeroRep).heap.size (((u.alloc (actObj a (.slice A l c))).alloc zeroRep).alloc zeroRep) W) => (Below.boxes u a (.slice A l c)).trans (hW.mono (Below.boxes u a (.slice A l c)).size))
  unfold encI actVal actObj zeroRep at *
  go_enter Tryz.func22, Tryz.ntmps22
  go_wp2_with (first
    | (go_at_call 28; refine (HK.out _).mono ?_; rintro e w1 ⟨rfl, hb1⟩; obtain ⟨a1, a2, a3, a4, a5, a6, -, r0, r1, r2, r3, r4, z0, z1, z2, z3, z4, f0, f1, f2, f3, f4, k0, k1, k2, k3, k4⟩ := HC.out _ hb1; replace hb1 := Lib.hid hb1)
    | (go_at_call 39; refine (HCall.out _).mono ?_; clear a1 a2 a3 a4 a5 a6 r0 r1 r2 r3 r4 z0 z1 z2 z3 z4 f0 f1 f2 f3 f4 k0 k1 k2 k3 k4; rintro e w2 ⟨rfl, rfl⟩; have hb2 := hb1; obtain ⟨-, -, -, -, -, -, -, r0, r1, r2, r3, r4, z0, z1, z2, z3, z4, f0, f1, f2, f3, f4, k0, k1, k2, k3, k4⟩ := HC.out _ hb2.out; clear hb1))
  refine bodyPost_ret (v := repVal nilRep (.slice none 0 0) (.slice none 0 0)) (by simp only [results, Tryz.results22]; go_simp; rfl) rfl ⟨rfl, ?_⟩
  have hbb := HB.out _ hb2.out
  repeat refine Below.setCell ?_ (by dsimp only; omega) _
  exact hbb


set_option maxRecDepth 100000 in
set_option maxHeartbeats 1000000 in
theorem donil10 (u : World) (a : ActM) (A : Option Addr) (l c : Nat) (hk : kindB a.op = 10) :
    Calls Tryz.prog 22 #[.pointer none, actVal a (.slice A l c)] u fun e u' => e = .returned (repVal nilRep (.slice none 0 0) (.slice none 0 0)) ∧ Below u.heap.size u u' := by
  have HK := Lib.hid (kind_any a A l c)
  rw [hk] at HK
  have HC := Lib.hid (fun (W : World) (hW : Below (((u.alloc (actObj a (.slice A l c))).alloc zeroRep).alloc zeroRep).heap.size (((u.alloc (actObj a (.slice A l c))).alloc zeroRep).alloc zeroRep) W) => DoCells.of ((nilHolds u a (.slice A l c)).below hW) (Sub.refl _))
  have HCall := Lib.hid (drop_nil a.key)
  have HB := Lib.hid (fun (W : World) (hW : Below (((u.alloc (actObj a (.slice A l c))).alloc zeroRep).alloc zeroRep).heap.size (((u.alloc (actObj a (.slice A l c))).alloc zeroRep).alloc zeroRep) W) => (Below.boxes u a (.slice A l c)).trans (hW.mono (Below.boxes u a (.slice A l c)).size))
  unfold actVal actObj zeroRep at *
  go_enter Tryz.func22, Tryz.ntmps22
  go_wp2_with (first
    | (go_at_call 28; refine (HK.out _).mono ?_; rintro e w1 ⟨rfl, hb1⟩; obtain ⟨a1, a2, a3, a4, a5, a6, -, r0, r1, r2, r3, r4, z0, z1, z2, z3, z4, f0, f1, f2, f3, f4, k0, k1, k2, k3, k4⟩ := HC.out _ hb1; replace hb1 := Lib.hid hb1)
    | (go_at_call 51; refine (HCall.out _).mono ?_; clear a1 a2 a3 a4 a5 a6 r0 r1 r2 r3 r4 z0 z1 z2 z3 z4 f0 f1 f2 f3 f4 k0 k1 k2 k3 k4; rintro e w2 ⟨rfl, rfl⟩; have hb2 := hb1; obtain ⟨-, -, -, -, -, -, -, r0, r1, r2, r3, r4, z0, z1, z2, z3, z4, f0, f1, f2, f3, f4, k0, k1, k2, k3, k4⟩ := HC.out _ hb2.out; clear hb1))
  refine bodyPost_ret (v := repVal nilRep (.slice none 0 0) (.slice none 0 0)) (by simp only [results, Tryz.results22]; go_simp; rfl) rfl ⟨rfl, ?_⟩
  have hbb := HB.out _ hb2.out
  repeat refine Below.setCell ?_ (by dsimp only; omega) _
  exact hbb

theorem do_nil (u : World) (a : ActM) (A : Option Addr) (l c : Nat) :
    Calls Tryz.prog 22 #[.pointer none, actVal a (.slice A l c)] u fun e u' => e = .returned (repVal nilRep (.slice none 0 0) (.slice none 0 0)) ∧ Below u.heap.size u u' := by
  obtain ⟨h1, h2⟩ := kindB_range a.op
  have h3 : kindB a.op = 0 ∨ kindB a.op = 1 ∨ kindB a.op = 2 ∨ kindB a.op = 3 ∨ kindB a.op = 4 ∨ kindB a.op = 5 ∨ kindB a.op = 6 ∨ kindB a.op = 7 ∨ kindB a.op = 8 ∨ kindB a.op = 9 ∨ kindB a.op = 10 := by omega
  rcases h3 with h3 | h3 | h3 | h3 | h3 | h3 | h3 | h3 | h3 | h3 | h3
  · exact donil0 u a A l c h3
  · exact donil1 u a A l c h3
  · exact donil2 u a A l c h3
  · exact donil3 u a A l c h3
  · exact donil4 u a A l c h3
  · exact donil5 u a A l c h3
  · exact donil6 u a A l c h3
  · exact donil7 u a A l c h3
  · exact donil8 u a A l c h3
  · exact donil9 u a A l c h3
  · exact donil10 u a A l c h3
end Go.Ju

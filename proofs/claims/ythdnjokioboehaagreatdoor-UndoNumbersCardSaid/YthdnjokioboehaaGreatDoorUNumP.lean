/- UndoNumbers: the walk, the row and the card. -/
import Derived.Test.YthdnjokioboehaaGreatDoorViews
import Derived.Test.YthdnjokioboehaaGreatDoorWholeLaw
import Derived.Test.YthdnjokioboehaaGreatDoorAwake
import Derived.Test.YthdnjokioboehaaGreatDoorOpenS
import Derived.Test.YthdnjokioboehaaGreatDoorTie
import Derived.Test.YthdnjokioboehaaGreatDoorCards
namespace Go.Ju
open Go.RowKit
open Go.Proofs
open Go.ChangeMaps

/-! ### counts in a row -/
def cntCells (p : Key × Int) : List Value := [.string p.1.1, .string p.1.2, .int .i64 p.2]
def cntsCells (l : List (Key × Int)) : List Value := (l.map cntCells).flatten
theorem cnts_len (l : List (Key × Int)) : (cntsCells l).length = l.length * 3 := by
  unfold cntsCells
  induction l with
  | nil => rfl
  | cons p l ih => rw [List.map_cons, List.flatten_cons, List.length_append, ih, List.length_cons]; simp only [cntCells, List.length_cons, List.length_nil]; omega
theorem cnts_app (l m : List (Key × Int)) : cntsCells (l ++ m) = cntsCells l ++ cntsCells m := by unfold cntsCells; rw [List.map_append, List.flatten_append]
theorem cnts_get {l : List (Key × Int)} {j : Nat} {p : Key × Int} (h : l[j]? = some p) {i : Nat} (hi : i < 3) : (cntsCells l)[j * 3 + i]? = (cntCells p)[i]? := by
  unfold cntsCells
  refine flatten_get (fun x hx => ?_) (by rw [List.getElem?_map, h]; rfl) hi
  obtain ⟨q, _, rfl⟩ := List.mem_map.1 hx
  rfl
theorem cnts_set {l : List (Key × Int)} : ∀ {j : Nat} {k : Key} {n m : Int}, l[j]? = some (k, n) → (cntsCells l).set (j * 3 + 2) (.int .i64 m) = cntsCells (l.set j (k, m)) := by
  induction l with
  | nil => intro j k n m h; simp at h
  | cons p l ih =>
    intro j k n m h
    cases j with
    | zero =>
      simp only [List.getElem?_cons_zero, Option.some.injEq] at h
      subst h
      rfl
    | succ j =>
      simp only [List.getElem?_cons_succ] at h
      have := ih (m := m) h
      rw [List.set_cons_succ]
      have e : ∀ (q : Key × Int) (r : List (Key × Int)), cntsCells (q :: r) = cntCells q ++ cntsCells r := fun q r => by unfold cntsCells; rw [List.map_cons, List.flatten_cons]
      rw [e, e, ← this, List.set_append_right _ _ (by show 3 ≤ _; omega)]
      congr 2
      show (j + 1) * 3 + 2 - 3 = _
      omega
/-- A cell of one's own is written. -/
theorem Own.setCell {G : Gh} {e size n c g : Nat} {xs : List Value} (h : Own G e size (.slice (some ⟨g, 0, none⟩) n c) n xs) (j : Nat) (v : Value) :
    ∃ cur, G g = some (.cells cur e (0, 0)) ∧ Own (G.put g (.cells (cur.setIfInBounds j v) e (0, 0))) e size (.slice (some ⟨g, 0, none⟩) n c) n (xs.set j v) := by
  obtain ⟨h1, h2⟩ := h
  rcases h2 with ⟨h2, _⟩ | ⟨g', cap, cur, hv, hg, h3, h4, h5, h6⟩
  · cases h2
  · cases hv
    refine ⟨cur, hg, by rw [List.length_set]; exact h1, .inr ⟨g, c, cur.setIfInBounds j v, rfl, Gh.put_same _ _ _, h3, h4, by rw [Array.size_setIfInBounds]; exact h5, ?_⟩⟩
    rw [Array.toList_setIfInBounds, ← h6]
    rw [List.take_set]
theorem aput_at {l : List (Key × Int)} (hn : (l.map Prod.fst).Nodup) {j : Nat} {k : Key} {n : Int} (h : l[j]? = some (k, n)) (m : Int) : aput l k m = l.set j (k, m) := by
  have hm : k ∈ l.map Prod.fst := List.mem_map.2 ⟨_, List.mem_of_getElem? h, rfl⟩
  unfold aput
  rw [if_pos hm]
  apply List.ext_getElem?
  intro i
  rw [List.getElem?_map, List.getElem?_set]
  by_cases e : j = i
  · subst e
    rw [if_pos rfl, h]
    have := (List.getElem?_eq_some_iff.1 h).1
    simp [this]
  · rw [if_neg e]
    cases hi : l[i]? with
    | none => rfl
    | some q =>
      have hne : q.1 ≠ k := fun e' => by
        have h1 : (l.map Prod.fst)[i]? = some k := by rw [List.getElem?_map, hi, ← e']; rfl
        have h2 : (l.map Prod.fst)[j]? = some k := by rw [List.getElem?_map, h]; rfl
        exact e ((List.getElem?_inj ((List.getElem?_eq_some_iff.1 h2).1) hn).1 (by rw [h1, h2]))
      simp [hne]
/-- Where a table's count stands: idx, or none. -/
def IdxOf (l : List (Key × Int)) (k : Key) (idx : Nat) : Prop := idx ≤ l.length ∧ ∀ i q, l[i]? = some q → (q.1 = k ↔ i = idx)
theorem idx_of {l : List (Key × Int)} (hn : (l.map Prod.fst).Nodup) (k : Key) : ∃ idx, IdxOf l k idx := by
  by_cases h : k ∈ l.map Prod.fst
  · obtain ⟨p, hp, rfl⟩ := List.mem_map.1 h
    obtain ⟨j, hj⟩ := List.mem_iff_getElem?.1 hp
    have h2 : (l.map Prod.fst)[j]? = some p.1 := by rw [List.getElem?_map, hj]; rfl
    refine ⟨j, by have := (List.getElem?_eq_some_iff.1 hj).1; omega, fun i q hq => ⟨fun e => ?_, fun e => ?_⟩⟩
    · have h1 : (l.map Prod.fst)[i]? = some p.1 := by rw [List.getElem?_map, hq, ← e]; rfl
      exact ((List.getElem?_inj ((List.getElem?_eq_some_iff.1 h2).1) hn).1 (by rw [h1, h2])).symm
    · subst e; rw [hj] at hq; cases hq; rfl
  · refine ⟨l.length, Nat.le_refl _, fun i q hq => ⟨fun e => ?_, fun e => ?_⟩⟩
    · exact absurd (List.mem_map.2 ⟨q, List.mem_of_getElem? hq, e⟩) h
    · have := (List.getElem?_eq_some_iff.1 hq).1; omega
theorem Tryz.infoCount : (Tryz.prog.info? 67).map (fun i => (i.zero, i.size, i.bytes)) = some (some (.agg #[.string ⟨#[]⟩, .string ⟨#[]⟩, .int .i64 0]), 3, 40) := by kernel_rfl
/-- Where the outer loop stands. -/
structure NumSt (w0 : World) (p n : Nat) (M : St) (G GO : Gh) (out : Value) (all : List (Key × Int)) (W : World) : Prop where
  st : Stage w0 p n M (G.or GO) W
  ap : Apart G GO
  fr : From w0.heap.size GO
  own : Own GO 67 3 out all.length (cntsCells all)
/-- The caller's other blocks go on. -/
theorem NumSt.parts {w0 W W' : World} {p n n' : Nat} {M M' : St} {G GO G' : Gh} {out : Value} {all : List (Key × Int)} (h : NumSt w0 p n M G GO out all W) (hS : Stage w0 p n' M' G' W') (hs : Sub (G.or GO) G') : ∃ G2, NumSt w0 p n' M' G2 GO out all W' ∧ Sub G G2 ∧ Sub G2 G' := by
  have hGO : Sub GO G' := (sub_right h.ap).trans hs
  have e : Gh.or (fun b => if (GO b).isSome then none else G' b) GO = G' := by
    funext b
    show (if (GO b).isSome then none else G' b).or (GO b) = G' b
    cases hx : GO b with
    | none => rw [if_neg (by simp)]; cases G' b <;> rfl
    | some o => rw [hGO b o hx, if_pos (by simp)]; rfl
  refine ⟨fun b => if (GO b).isSome then none else G' b, ⟨by rw [e]; exact hS, fun b => ?_, h.fr, h.own⟩, fun b o hb => ?_, fun b o hb => ?_⟩
  · cases hx : GO b with
    | none => exact .inr rfl
    | some o => left; exact if_pos rfl
  · have hx : GO b = none := by
      rcases h.ap b with h1 | h1
      · rw [h1] at hb; cases hb
      · exact h1
    show (if (GO b).isSome then none else G' b) = some o
    rw [hx, if_neg (by simp)]
    exact hs b o (Gh.or_left _ _ hb)
  · have hb' : (if (GO b).isSome then none else G' b) = some o := hb
    split at hb'
    · cases hb'
    · exact hb'
theorem NumSt.alloc {w0 W : World} {p n : Nat} {M : St} {G GO : Gh} {out : Value} {all : List (Key × Int)} (h : NumSt w0 p n M G GO out all W) (o : Obj) : NumSt w0 p n M (G.put W.heap.size o) GO out all (W.alloc o) := by
  have hlt : ∀ b x, (G.or GO) b = some x → b < W.heap.size := fun b x hb => h.st.holds.lt hb
  refine ⟨(h.st.alloc o).weaken (sub_or (fun b x hb => ?_) fun b x hb => ?_), fun b => ?_, h.fr, h.own⟩
  · by_cases e : b = W.heap.size
    · subst e; rw [Gh.put_same] at hb ⊢; exact hb
    · rw [Gh.put_other _ _ e] at hb ⊢; exact Gh.or_left _ _ hb
  · have := hlt b x (Gh.or_right h.ap hb)
    rw [Gh.put_other _ _ (by omega)]; exact Gh.or_right h.ap hb
  · by_cases e : b = W.heap.size
    · subst e
      right
      cases hx : GO W.heap.size with
      | none => rfl
      | some x => have := hlt _ x (Gh.or_right h.ap hx); omega
    · rw [Gh.put_other _ _ e]; exact h.ap b
theorem NumSt.step {w0 W W' : World} {p n : Nat} {M : St} {G GO : Gh} {out : Value} {all : List (Key × Int)} (h : NumSt w0 p n M G GO out all W) (hb : Below W.heap.size W W') : NumSt w0 p n M G GO out all W' := ⟨h.st.step hb, h.ap, h.fr, h.own⟩
theorem NumSt.weaken {w0 W : World} {p n : Nat} {M : St} {G G' GO : Gh} {out : Value} {all : List (Key × Int)} (h : NumSt w0 p n M G GO out all W) (hs : Sub G' G) : NumSt w0 p n M G' GO out all W :=
  ⟨h.st.weaken (sub_or (hs.trans (sub_left _ _)) (sub_right h.ap)), fun b => by
    rcases h.ap b with h1 | h1
    · left
      cases hx : G' b with
      | none => rfl
      | some o => rw [hs b o hx] at h1; cases h1
    · exact .inr h1, h.fr, h.own⟩
theorem NumSt.mono {w0 W : World} {p n m : Nat} {M : St} {G GO : Gh} {out : Value} {all : List (Key × Int)} (h : NumSt w0 p n M G GO out all W) (hm : n ≤ m) : NumSt w0 p m M G GO out all W := ⟨h.st.mono hm, h.ap, h.fr, h.own⟩
/-- A count is written. -/
theorem NumSt.count {w0 W : World} {p n g c j : Nat} {M : St} {G GO : Gh} {all : List (Key × Int)} {k : Key} {x m : Int} (h : NumSt w0 p n M G GO (.slice (some ⟨g, 0, none⟩) all.length c) all W) (hj : all[j]? = some (k, x)) :
    ∃ GO', NumSt w0 p n M G GO' (.slice (some ⟨g, 0, none⟩) (all.set j (k, m)).length c) (all.set j (k, m)) (W.setCell ⟨g, j * 3 + 2, none⟩ (.int .i64 m)) := by
  obtain ⟨cur, hg, ho⟩ := Own.setCell h.own (j * 3 + 2) (.int .i64 m)
  rw [cnts_set hj] at ho
  have hGO : Holds GO W := fun b o hb => h.st.holds b o (Gh.or_right h.ap hb)
  have hev := (Ev.refl hGO).setCell (i := j * 3 + 2) hg (.int .i64 m)
  obtain ⟨h3, h4, h5⟩ := h.st.swap h.ap h.fr hev
  exact ⟨_, h3, h4, h5, by rw [List.length_set]; exact ho⟩
theorem NumSt.start {w0 W : World} {p n : Nat} {M : St} {G : Gh} (h : Stage w0 p n M G W) : NumSt w0 p n M G Gh.nil (.slice none 0 0) [] W :=
  ⟨h.weaken (sub_or (Sub.refl _) (fun _ _ h => by cases h)), fun _ => .inr rfl, fun _ h => absurd rfl h, Own.nil _ _ _⟩
theorem cnt_at {GO : Gh} {A : Option Addr} {c : Nat} {all : List (Key × Int)} (h : Own GO 67 3 (.slice A all.length c) all.length (cntsCells all)) {j : Nat} {q : Key × Int} (hj : all[j]? = some q) :
    ∃ g, A = some ⟨g, 0, none⟩ ∧ (∃ cur, GO g = some (.cells cur 67 (0, 0))) ∧ ∀ W, Holds GO W → W.cell? ⟨g, j * 3, none⟩ = some (.string q.1.1) ∧ W.cell? ⟨g, j * 3 + 1, none⟩ = some (.string q.1.2) ∧ W.cell? ⟨g, j * 3 + 2, none⟩ = some (.int .i64 q.2) := by
  have hlt := (List.getElem?_eq_some_iff.1 hj).1
  have hsp := h.span
  rcases h.2 with ⟨h2, h3⟩ | ⟨g, cap, cur, hv, hg, _⟩
  · omega
  · injection hv with e1 e2 e3
    subst e1
    refine ⟨g, rfl, ⟨cur, hg⟩, fun W hW => ?_⟩
    have cel : ∀ i u, i < 3 → (cntCells q)[i]? = some u → W.cell? ⟨g, j * 3 + i, none⟩ = some u := fun i u hi hu => by
      obtain ⟨b, o, hb, hc⟩ := hsp.cell hW ((cnts_get hj hi).trans hu)
      rcases hsp with hsp | ⟨b', o', cs', t', fr', hb', hg', hc'⟩
      · have h9 := (cnts_get hj hi).trans hu
        rw [hsp] at h9
        simp at h9
      · injection hb with hb
        injection hb with hb1 hb2
        subst hb1 hb2
        simpa using hc
    exact ⟨cel 0 _ (by omega) rfl, cel 1 _ (by omega) rfl, cel 2 _ (by omega) rfl⟩
theorem nextOf_le {n : Nat} {M : St} (h : Inv n M) (k : Key) : 1 ≤ nextOf M k ∧ nextOf M k ≤ 1099511627776 := by
  unfold nextOf
  cases ht : aget M.tabs k with
  | none => simp
  | some t => exact (h.core.tab k t ht).next
/-- A literal for an append. -/
theorem NumSt.lit {w0 W : World} {p n : Nat} {M : St} {G GO : Gh} {out : Value} {all : List (Key × Int)} (h : NumSt w0 p n M G GO out all W) (q : Key × Int) :
    let blk : Obj := .cells #[.string q.1.1, .string q.1.2, .int .i64 q.2] 67
    Holds (GO.put W.heap.size blk) (W.alloc blk) ∧ Own (GO.put W.heap.size blk) 67 3 out all.length (cntsCells all) ∧ Span (GO.put W.heap.size blk) (some ⟨W.heap.size, 0, none⟩) (cntCells q) ∧
      ∀ v' GX W', Appended (GO.put W.heap.size blk) (W.alloc blk) 67 3 out (all.length + 1) (cntsCells all ++ cntCells q) v' GX W' → NumSt w0 p n M G GX v' (all ++ [q]) W' := by
  intro blk
  have hlt : ∀ b x, (G.or GO) b = some x → b < W.heap.size := fun b x hb => h.st.holds.lt hb
  have hGO : Holds GO W := fun b o hb => h.st.holds b o (Gh.or_right h.ap hb)
  have hS : Stage w0 p n M (G.or (GO.put W.heap.size blk)) (W.alloc blk) := (h.st.alloc blk).weaken (sub_or (fun b x hb => by
    rw [Gh.put_other _ _ (by have := hlt b x (Gh.or_left _ _ hb); omega)]; exact Gh.or_left _ _ hb) fun b x hb => by
    by_cases e : b = W.heap.size
    · subst e; rw [Gh.put_same] at hb ⊢; exact hb
    · rw [Gh.put_other _ _ e] at hb ⊢; exact Gh.or_right h.ap hb)
  have hap : Apart G (GO.put W.heap.size blk) := fun b => by
    by_cases e : b = W.heap.size
    · left
      cases hx : G b with
      | none => rfl
      | some x => have := hlt b x (Gh.or_left _ _ hx); omega
    · rw [Gh.put_other _ _ e]; exact h.ap b
  have hfr : From w0.heap.size (GO.put W.heap.size blk) := h.fr.put h.st.below.size _
  refine ⟨hGO.alloc blk, h.own.keep fun b o _ hb => ?_, .inr ⟨_, _, _, _, _, rfl, Gh.put_same _ _ _, fun j u hj => by simpa [cntCells] using hj⟩, fun v' GX W' ha => ?_⟩
  · rw [Gh.put_other _ _ (by have := hlt b o (Gh.or_right h.ap hb); omega)]; exact hb
  · obtain ⟨h3, h4, h5⟩ := hS.swap hap hfr ha.1
    refine ⟨h3, h4, h5, ?_⟩
    have := ha.2.1
    rw [List.length_append, cnts_app]
    simpa [cntsCells] using this
/-- 'do', its reply in a visible form. -/
theorem Stage.does5 {w0 u : World} {p n : Nat} {M : St} {G : Gh} (h : Stage w0 p n M G u) (hn : n ≤ 1000000) (hnul : Nul w0) (a : ActM) (A : Option Addr) (l c : Nat) (hrow : RowFor w0 G u (.slice A l c) a.row) (hid : okI a.id) (hnn : okI a.n) :
    Calls Tryz.prog 22 #[ptr p, actVal a (.slice A l c)] u fun e u' => ∃ A1 l1 c1 A2 l2 c2 G', e = .returned (.agg #[.int .i64 (M.doA a).2.n, .int .i64 (M.doA a).2.m, .int .i64 (M.doA a).2.e, .slice A1 l1 c1, .slice A2 l2 c2]) ∧ Stage w0 p (n + 2) (M.doA a).1 G' u' ∧ Sub G G' := by
  refine (h.do hn hnul a A l c hrow hid hnn).mono ?_
  rintro e u' ⟨rv, hv, G', rfl, h1, h2, h3⟩
  obtain ⟨A1, c1, rfl, _, _⟩ := h3.row
  obtain ⟨A2, c2, rfl, _, _⟩ := held_at h3.held
  exact ⟨_, _, _, _, _, _, G', rfl, h1, h2⟩
set_option maxRecDepth 100000 in
set_option maxHeartbeats 2000000 in
theorem undoNumbers_any {Ga : Gh} {v1 : Value} {l : List ActM} (w : World) (hn : Nul w) (hGa : Holds Ga w) (h1 : ActsAt Ga v1 l) :
    Calls Tryz.prog 10 #[v1] w fun e w' => e = .returned (.bool true) ∧ Below w.heap.size w w' := by
  have HFew1 := Lib.hid (fun (u : World) (hu : Below w.heap.size w u) => few_any Ga v1 l u (hGa.below hu) h1)
  have HAw := Lib.hid (fun (u : World) (hu : Below w.heap.size w u) => awake_any u (hn.below hu))
  obtain ⟨A1, c1, hv1, hc1, hm1, hs1⟩ := act_at h1
  subst hv1
  have B0 := Lib.hid (Below.refl w.heap.size w)
  cases hf1 : fewB l with
  | false =>
    rw [hf1] at HFew1
    clear h1 hGa hn hs1
    go_enter Tryz.func10, Tryz.ntmps10
    go_wp2_with (first
      | (go_at_call 18; refine (HFew1.out _ B0.out).mono ?_; rintro e u1 ⟨rfl, hb1⟩; replace hb1 := Lib.hid hb1)
      | (go_at_call 13; refine (HAw.out _ hb1.out).mono ?_; rintro e u2 ⟨rfl, hb2⟩; replace hb2 := Lib.hid (hb1.out.trans (hb2.mono hb1.out.size))))
    go_ret
    exact ⟨rfl, hb2.out⟩
  | true =>
    rw [hf1] at HFew1
    have HNew := Lib.hid (fun (u : World) (hu : Below w.heap.size w u) => stage_new (w0 := w) hu (Holds.nil u))
    have HKind := Lib.hid kind_any
    have HDo := Lib.hid (fun (p n : Nat) (M : St) (G : Gh) (u : World) (a : ActM) (A : Option Addr) (c : Nat) (hS : Stage w p n M G u) (hnn : n ≤ 1000000) (hi : i64 a.id) (hin : i64 a.n) (hl : a.row.length ≤ 30) (hr : RowAt Ga (.slice A a.row.length c) a.row) => hS.does5 hnn hn a A a.row.length c (rowFor_old hGa hS.below hr hl) (i64_ok hi) (i64_ok hin))
    have HR1 := Lib.hid (fun (j : Nat) (a : ActM) (hj : l[j]? = some a) => few_row hf1 (List.mem_of_getElem? hj))
    have hl1 := few_len hf1
    have HGa := Lib.hid hGa
    have HV1 := Lib.hid hs1
    have HTk := Lib.hid (fun (j : Nat) (a : ActM) (hj : l[j]? = some a) => runs_snoc St.empty hj)
    clear h1 hGa hn hs1 hf1
    generalize hn1 : l.length = n1 at *
    unfold ptr at *
    obtain ⟨i0, hi0, hz0, hz1, hz2⟩ := info_parts Tryz.infoCount
    have HINF := Lib.hid (And.intro hi0 (And.intro hz0 (And.intro hz1 hz2)))
    clear hi0 hz0 hz1 hz2
    go_enter Tryz.func10, Tryz.ntmps10
    go_wp2_with (first
      | (go_at_call 18; refine (HFew1.out _ B0.out).mono ?_; rintro e u1 ⟨rfl, hb1⟩; replace hb1 := Lib.hid hb1)
      | (go_at_call 19; refine (HNew.out _ hb1.out).mono ?_; rintro e u2 ⟨p, rfl, hS⟩; replace hS := Lib.hid hS))
    go_loopw [4, 18] (fun out i wr => ∃ (k : Nat) (G GO : Gh) (all : List (Key × Int)), k ≤ n1 ∧ i = .int .i64 k ∧ NumSt w p (2 * k) (runs St.empty (l.take k)) G GO out all wr ∧ Counts (runs St.empty (l.take k)) all ∧ all.length ≤ k) (fun _ i _ => n1 - (RowKit.intOf i).toNat)
    case atStart => exact ⟨0, _, _, [], Nat.zero_le _, by simp, NumSt.start hS.out, Counts.start, by simp⟩
    case round =>
      obtain ⟨k, G, GO, all, hk, rfl, hN, hC, hal⟩ := hrel
      obtain ⟨A9, c9, hout, -, -⟩ := hN.own.form
      subst hout
      by_cases hkn : k = n1
      · subst hkn
        have HE := Lib.hid hN.st.below
        clear hN hS
        go_wp2_with (go_at_call 13; refine (HAw.out _ HE.out).mono ?_; rintro e u3 ⟨rfl, hb3⟩; replace hb3 := Lib.hid (HE.out.trans (hb3.mono HE.out.size)))
        go_ret
        exact ⟨rfl, hb3.out⟩
      · obtain ⟨x, hx⟩ : ∃ x, l[k]? = some x := ⟨l[k]'(by omega), List.getElem?_eq_getElem _⟩
        have hklt : k < n1 := by omega
        have hk1 : (k : Int) < (n1 : Int) := by omega
        have hk0 : (0 : Int) ≤ (k : Int) := Int.natCast_nonneg _
        obtain ⟨b, o, rv, cs, rfl, hact, -, hrow, hcel⟩ := HV1.out k x hx
        obtain ⟨q0, q1, q2, q3, q4, q5, q6⟩ := hcel _ (HGa.out.below hN.st.below)
        have hrow' := hrow
        obtain ⟨A0, c0, rfl, hc0, -⟩ := hrow'
        have HS := Lib.hid (hN.alloc (actObj x (.slice A0 x.row.length c0)))
        have HX := Lib.hid (And.intro hact.id (And.intro hact.n (And.intro (HR1.out k x hx) hrow)))
        have HT := Lib.hid (HTk.out k x hx)
        have hkd := HKind.out x A0 x.row.length c0
        generalize hM : runs St.empty (l.take k) = M at *
        have HCt := Lib.hid hC
        clear hx hact hrow hcel hN hkn hS hM hC
        generalize hs : wr.heap.size = s at *
        by_cases hk00 : kindB x.op = 0
        · have hd := doA_0 M x hk00
          rw [hk00] at hkd
          have HK := Lib.hid hkd
          have hdo := HDo.out p _ _ _ _ x A0 c0 HS.out.st (by omega) HX.out.1 HX.out.2.1 HX.out.2.2.1 HX.out.2.2.2
          rw [hd] at hdo
          dsimp only at hdo
          have HT2 : Hid (runs St.empty (l.take (k + 1)) = (M.addA x.key x.txn x.row).1) := by unfold Hid; rw [HT.out, hd]
          have hna := nextOf_add M x.key x.txn x.row
          generalize (M.addA x.key x.txn x.row).1 = M' at *
          generalize (M.addA x.key x.txn x.row).2.1 = nx at *
          generalize (M.addA x.key x.txn x.row).2.2 = er at *
          clear hkd hd HT hk00
          have HDoX := Lib.hid hdo
          clear hdo
          rcases hna with ⟨rfl, rfl, hnx⟩ | ⟨her, hnx⟩
          · obtain ⟨idx, hidx⟩ := idx_of HCt.out.nodup x.key
            have HIdx := Lib.hid hidx
            have HAdd := Lib.hid (HCt.out.add hnx)
            clear hnx hidx
            obtain ⟨nx, hnx⟩ : ∃ nx, nextOf M x.key = nx := ⟨_, rfl⟩
            rw [hnx] at HDoX
            have HNx := Lib.hid hnx
            clear hnx
            unfold actVal actObj at *
            go_wp2_with (first
              | (go_at_call 22; go_loud (refine HDoX.out.mono ?_; rintro e u' ⟨A3, l3, c3, A4, l4, c4, G', rfl, hS2, hs2⟩; obtain ⟨G2, hN2, hsG, -⟩ := HS.out.parts hS2 hs2; have hN3 := hN2.alloc (.cells #[.int .i64 nx, .int .i64 0, .int .i64 0, .slice A3 l3 c3, .slice A4 l4 c4] 47); have hsb : Sub (G.put s (actObj x (.slice A0 x.row.length c0))) (G2.put u'.heap.size (.cells #[.int .i64 nx, .int .i64 0, .int .i64 0, .slice A3 l3 c3, .slice A4 l4 c4] 47)) := (hsG.trans (Sub.put_new (holds_sub hN2.st.holds (sub_left _ _)) _)); have HA := Lib.hid (fun (W : World) (G4 : Gh) (hW : Holds G4 W) (hs : Sub (G2.put u'.heap.size (.cells #[.int .i64 nx, .int .i64 0, .int .i64 0, .slice A3 l3 c3, .slice A4 l4 c4] 47)) G4) => cells7 (G := G) (s := s) (a := x) (rv := .slice A0 x.row.length c0) (holds_sub hW (hsb.trans hs))); have HRp := Lib.hid (fun (W : World) (G4 : Gh) (hW : Holds G4 W) (hs : Sub (G2.put u'.heap.size (.cells #[.int .i64 nx, .int .i64 0, .int .i64 0, .slice A3 l3 c3, .slice A4 l4 c4] 47)) G4) => And.intro (hW.cell (i := 0) (hs _ _ (Gh.put_same _ _ _)) rfl) (hW.cell (i := 2) (hs _ _ (Gh.put_same _ _ _)) rfl)); obtain ⟨a0, a1, a2, a3, a4, a5, a6⟩ := HA.out _ _ hN3.st.holds (sub_left _ _); generalize hG3 : G2.put u'.heap.size (.cells #[.int .i64 nx, .int .i64 0, .int .i64 0, .slice A3 l3 c3, .slice A4 l4 c4] 47) = G3 at *; replace hN3 := Lib.hid hN3; clear hN2 hS2 hs2 hsG hsb hG3))
              | (go_at_call 28; refine (HK.out _).mono ?_; rintro e u2 ⟨rfl, hb2⟩; have hN4 := Lib.hid (hN3.out.step hb2); obtain ⟨r0, r2⟩ := HRp.out _ _ hN4.out.st.holds (sub_left _ _); clear hb2 a0 a1 a2 a3 a4 a5 a6))
            clear r0 r2 hN3
            go_loopw [8, 35] (fun at' i wi => ∃ (j : Nat) (z : Int) (G4 : Gh), j ≤ all.length ∧ i = .int .i64 j ∧ at' = .int .i64 z ∧ Hid (z = if idx < j then (idx : Int) else -1) ∧ NumSt w p (2 * k + 2) M' G4 GO (.slice A9 all.length c9) all wi ∧ Sub G3 G4) (fun _ i _ => all.length - (RowKit.intOf i).toNat)
            case atStart => exact ⟨0, -1, G3, Nat.zero_le _, by simp, rfl, by unfold Hid; simp, hN4.out, Sub.refl _⟩
            case round =>
              obtain ⟨j, z, G4, hj, rfl, rfl, hz, hN5, hs5⟩ := hrel
              by_cases hjn : j = all.length
              · subst hjn
                by_cases hf : idx < all.length
                · skip
                  obtain ⟨q, hq⟩ : ∃ q, all[idx]? = some q := ⟨all[idx]'hf, List.getElem?_eq_getElem _⟩
                  have hqk := (HIdx.out.2 idx q hq).2 rfl
                  obtain ⟨k0, n6⟩ := q
                  dsimp only at hqk
                  subst hqk
                  have hag : aget all x.key = some n6 := aget_of_mem HCt.out.nodup (List.mem_of_getElem? hq)
                  have hn6 : nx = n6 + 1 := by rw [← HNx.out, HCt.out.next, hag]; rfl
                  have hle := nextOf_le HS.out.st.inv x.key
                  rw [HNx.out] at hle
                  have HC7 : Hid (Counts M' (all.set idx (x.key, n6 + 1))) := by
                    have := HAdd.out
                    rw [hag] at this
                    rw [← aput_at HCt.out.nodup hq]
                    exact this
                  subst hn6
                  have hzz : z = (idx : Int) := by have := hz; unfold Hid at this; rw [if_pos (by omega)] at this; exact this
                  subst hzz
                  have hz0 : (0 : Int) ≤ (idx : Int) := Int.natCast_nonneg _
                  have hz1 : (idx : Int) < (all.length : Int) := by omega
                  obtain ⟨g, hA9, ⟨cur, hgc⟩, hcl⟩ := cnt_at hN5.own hq
                  subst hA9
                  have hGO : Holds GO wr := fun b o hb => hN5.st.holds b o (Gh.or_right hN5.ap hb)
                  obtain ⟨d0, d1, d2⟩ := hcl _ hGO
                  have dfz := hGO.frozen (i := idx * 3 + 2) hgc
                  obtain ⟨GO7, hN7⟩ := hN5.count (m := n6 + 1) hq
                  have hAt7 : (all.set idx (x.key, n6 + 1))[idx]? = some (x.key, n6 + 1) := by rw [List.getElem?_set, if_pos rfl]; simp [hf]
                  have HAt7 := Lib.hid hAt7
                  have hlen7 : (all.set idx (x.key, n6 + 1)).length = all.length := List.length_set
                  rw [hlen7] at hN7
                  have HN7 := Lib.hid hN7
                  have HLen7 := Lib.hid hlen7
                  have HS5 := Lib.hid hs5
                  generalize hla : all.length = la at *
                  clear hq hcl hgc hGO hN7 hlen7 hN5 hs5 hz hag hAt7 hN4 HIdx HAdd HNx
                  go_wp2
                  refine World.abs (fun u => NumSt w p (2 * k + 2) M' G4 GO7 (.slice (some ⟨g, 0, none⟩) la c9) (all.set idx (x.key, n6 + 1)) u) HN7.out ?_
                  intro u7 hN8
                  obtain ⟨g', hg', -, hcl7⟩ := cnt_at (c := c9) (all := all.set idx (x.key, n6 + 1)) (by have := hN8.own; rw [← HLen7.out] at this; exact this) HAt7.out
                  injection hg' with hg'
                  injection hg' with hg'
                  subst hg'
                  have z0 := fun m => (HRp.out (u7.drewN m) (G4.or GO7) (hN8.st.holds.drewN m) (HS5.out.trans (sub_left _ _))).1
                  have z1 := fun m => (hcl7 (u7.drewN m) (Holds.drewN (fun b o hb => hN8.st.holds b o (Gh.or_right hN8.ap hb)) m)).2.2
                  have HN8 := Lib.hid hN8
                  clear hN8 hcl7 d0 d1 d2 dfz
                  go_wp2
                  go_quiet (fail)
                  go_wp2
                  go_roundw
                  case rel => exact ⟨k + 1, _, _, _, by omega, by go_num, by rw [HT2.out]; exact (HN8.out.step (Below.of_drewN _ _ _)).mono (by omega), by rw [HT2.out]; exact HC7.out, by rw [HLen7.out]; omega⟩
                  case measure => simp [RowKit.intOf]; omega
                · skip
                  have hag : aget all x.key = none := aget_none.2 fun hm => by
                    obtain ⟨q, hq, e⟩ := List.mem_map.1 hm
                    obtain ⟨i, hi⟩ := List.mem_iff_getElem?.1 hq
                    have := (HIdx.out.2 i q hi).1 e
                    have := (List.getElem?_eq_some_iff.1 hi).1
                    omega
                  have hn6 : nx = 1 := by rw [← HNx.out, HCt.out.next, hag]; rfl
                  have HC7 : Hid (Counts M' ((all ++ [(x.key, (0 : Int))]).set all.length (x.key, 1))) := by
                    have := HAdd.out
                    rw [hag] at this
                    unfold Hid
                    rw [List.set_append_right _ _ (Nat.le_refl _), Nat.sub_self]
                    unfold aput at this
                    rw [if_neg (aget_none.1 hag)] at this
                    exact this
                  subst hn6
                  have hzz : z = -1 := by have := hz; unfold Hid at this; rw [if_neg (by omega)] at this; exact this
                  subst hzz
                  obtain ⟨a0, a1, a2, a3, a4, a5, a6⟩ := HA.out _ _ hN5.st.holds (hs5.trans (sub_left _ _))
                  have HN5 := Lib.hid hN5
                  have HS5 := Lib.hid hs5
                  have hAt0 : (all ++ [(x.key, (0 : Int))])[all.length]? = some (x.key, 0) := by rw [List.getElem?_append_right (Nat.le_refl _), Nat.sub_self]; rfl
                  have hAt7 : ((all ++ [(x.key, (0 : Int))]).set all.length (x.key, 1))[all.length]? = some (x.key, 1) := by rw [List.getElem?_set, if_pos rfl]; simp
                  have hlen7 : ((all ++ [(x.key, (0 : Int))]).set all.length (x.key, 1)).length = all.length + 1 := by rw [List.length_set, List.length_append]; rfl
                  have HL := Lib.hid (And.intro hAt0 (And.intro hAt7 hlen7))
                  have HLit := Lib.hid (hN5.lit (x.key, 0))
                  generalize hla : all.length = la at *
                  have hla1 : (la : Int) < ((la + 1 : Nat) : Int) := by omega
                  have hla0 : (0 : Int) ≤ (la : Int) := Int.natCast_nonneg _
                  clear hag hAt0 hAt7 hlen7 hN5 hs5 hz hN4 HIdx HAdd HNx
                  go_wp2_with (at_builtin; go_loud (obtain ⟨b1, b2, b3, b4⟩ := HLit.out; replace b4 := Lib.hid b4; refine wpList_append_ev rfl _ _ 65 rfl b1 67 i0 _ 3 40 Tryz.underlying65 HINF.out.1 HINF.out.2.1 HINF.out.2.2.1 HINF.out.2.2.2 rfl (by decide) (.slice A9 la c9) la (cntsCells all) rfl b2 (some ⟨wr.heap.size, 0, none⟩) 1 1 _ rfl rfl b3 (by simp) (by simp [Value.oneCell', cntCells]) (by unfold maxLen; omega) (by omega) ?_; intro v' GX w5 happ; have hN6 := b4.out _ _ _ happ; obtain ⟨A10, c10, hv10, -, -⟩ := hN6.own.form; rw [List.length_append, hla] at hv10; simp only [List.length_cons, List.length_nil, Nat.zero_add] at hv10; subst hv10; obtain ⟨g, hA9, ⟨cur, hgc⟩, hcl⟩ := cnt_at (c := c10) (by have := hN6.own; rw [List.length_append, hla] at this ⊢; exact this) HL.out.1; subst hA9; have hGO : Holds GX w5 := fun b o hb => hN6.st.holds b o (Gh.or_right hN6.ap hb); obtain ⟨d0, d1, d2⟩ := hcl _ hGO; have dfz := hGO.frozen (i := la * 3 + 2) hgc; have HN7 := Lib.hid (NumSt.count (c := c10) (m := 1) (by have := hN6; rw [List.length_append, hla]; exact this) HL.out.1); clear happ b1 b2 b3 b4 hN6 hcl hgc hGO a0 a1 a2 a3 a4 a5 a6))
                  obtain ⟨GO7, hN7⟩ := HN7.out
                  rw [HL.out.2.2] at hN7
                  have HN7' := Lib.hid hN7
                  refine World.abs (fun u => NumSt w p (2 * k + 2) M' G4 GO7 (.slice (some ⟨g, 0, none⟩) (la + 1) c10) ((all ++ [(x.key, (0 : Int))]).set la (x.key, 1)) u) HN7'.out ?_
                  intro u7 hN8
                  obtain ⟨g', hg', -, hcl7⟩ := cnt_at (c := c10) (all := (all ++ [(x.key, (0 : Int))]).set la (x.key, 1)) (by have := hN8.own; rw [HL.out.2.2] at this ⊢; exact this) HL.out.2.1
                  injection hg' with hg'
                  injection hg' with hg'
                  subst hg'
                  have z0 := fun m => (HRp.out (u7.drewN m) (G4.or GO7) (hN8.st.holds.drewN m) (HS5.out.trans (sub_left _ _))).1
                  have z1 := fun m => (hcl7 (u7.drewN m) (Holds.drewN (fun b o hb => hN8.st.holds b o (Gh.or_right hN8.ap hb)) m)).2.2
                  have HN8 := Lib.hid hN8
                  clear hN8 hcl7 d0 d1 d2 dfz hN7 HN7 HN7'
                  go_wp2
                  go_quiet (fail)
                  go_wp2
                  go_roundw
                  case rel => exact ⟨k + 1, _, _, _, by omega, by go_num, by rw [HT2.out]; exact (HN8.out.step (Below.of_drewN _ _ _)).mono (by omega), by rw [HT2.out]; exact HC7.out, by rw [HL.out.2.2]; omega⟩
                  case measure => simp [RowKit.intOf]; omega
              · obtain ⟨q, hq⟩ : ∃ q, all[j]? = some q := ⟨all[j]'(by omega), List.getElem?_eq_getElem _⟩
                have hjlt : j < all.length := by omega
                have hj1 : (j : Int) < (all.length : Int) := by omega
                have hj0 : (0 : Int) ≤ (j : Int) := Int.natCast_nonneg _
                obtain ⟨g, hA9, -, hcl⟩ := cnt_at hN5.own hq
                subst hA9
                obtain ⟨d0, d1, d2⟩ := hcl _ (fun b o hb => hN5.st.holds b o (Gh.or_right hN5.ap hb))
                have hN6 := hN5.alloc (.cells #[.string q.1.1, .string q.1.2, .int .i64 q.2] 67)
                obtain ⟨a0, a1, a2, a3, a4, a5, a6⟩ := HA.out _ _ hN6.st.holds ((hs5.trans (Sub.put_new (holds_sub hN5.st.holds (sub_left _ _)) _)).trans (sub_left _ _))
                have hs6 := hs5.trans (Sub.put_new (holds_sub hN5.st.holds (sub_left _ _)) (.cells #[.string q.1.1, .string q.1.2, .int .i64 q.2] 67))
                have HN6 := Lib.hid hN6
                have HS6 := Lib.hid hs6
                have hqi := HIdx.out.2 j q hq
                have HQ := Lib.hid hqi
                generalize hlenA : all.length = la at *
                obtain ⟨⟨k1, k2⟩, n0⟩ := q
                dsimp only at *
                clear hq hcl hN5 hN6 hs5 hs6 hqi hN4 hlenA
                cases f1 : (k1.toList == x.key.1.toList) with
                | true =>
                  cases f2 : (k2.toList == x.key.2.toList) with
                  | true =>
                    have hje : j = idx := HQ.out.1 (by
                      have e1 := toList_inj (a := k1) (b := x.key.1) (by simpa using f1)
                      have e2 := toList_inj (a := k2) (b := x.key.2) (by simpa using f2)
                      rw [e1, e2])
                    have HZ : Hid ((j : Int) = if idx < j + 1 then (idx : Int) else -1) := by unfold Hid; rw [if_pos (by omega), hje]
                    clear hje
                    go_wp2
                    go_roundw
                    case rel => exact ⟨j + 1, _, _, by omega, by go_num, rfl, HZ.out, HN6.out, HS6.out⟩
                    case measure => simp [RowKit.intOf]; omega
                  | false =>
                    have hje : j ≠ idx := fun e => by
                      have e1 := HQ.out.2 e
                      rw [← e1] at f2
                      simp at f2
                    have HZ : Hid (z = if idx < j + 1 then (idx : Int) else -1) := by
                      unfold Hid at *
                      rw [hz]
                      by_cases e : idx < j
                      · rw [if_pos e, if_pos (by omega)]
                      · rw [if_neg e, if_neg (by omega)]
                    clear hje
                    go_wp2
                    go_roundw
                    case rel => exact ⟨j + 1, _, _, by omega, by go_num, rfl, HZ.out, HN6.out, HS6.out⟩
                    case measure => simp [RowKit.intOf]; omega
                | false =>
                  have hje : j ≠ idx := fun e => by
                    have e1 := HQ.out.2 e
                    rw [← e1] at f1
                    simp at f1
                  have HZ : Hid (z = if idx < j + 1 then (idx : Int) else -1) := by
                    unfold Hid at *
                    rw [hz]
                    by_cases e : idx < j
                    · rw [if_pos e, if_pos (by omega)]
                    · rw [if_neg e, if_neg (by omega)]
                  clear hje
                  go_wp2
                  go_roundw
                  case rel => exact ⟨j + 1, _, _, by omega, by go_num, rfl, HZ.out, HN6.out, HS6.out⟩
                  case measure => simp [RowKit.intOf]; omega
          · have HOth := Lib.hid (HCt.out.other hnx)
            have hb1' : (er != 0) = true := by simpa using her
            unfold actVal actObj at *
            go_wp2_with (first
              | (go_at_call 22; go_loud (refine HDoX.out.mono ?_; rintro e u' ⟨A3, l3, c3, A4, l4, c4, G', rfl, hS2, hs2⟩; obtain ⟨G2, hN2, hsG, -⟩ := HS.out.parts hS2 hs2; have hN3 := hN2.alloc (.cells #[.int .i64 nx, .int .i64 0, .int .i64 er, .slice A3 l3 c3, .slice A4 l4 c4] 47); have hsb : Sub (G.put s (actObj x (.slice A0 x.row.length c0))) (G2.put u'.heap.size (.cells #[.int .i64 nx, .int .i64 0, .int .i64 er, .slice A3 l3 c3, .slice A4 l4 c4] 47)) := (hsG.trans (Sub.put_new (holds_sub hN2.st.holds (sub_left _ _)) _)); obtain ⟨a0, a1, a2, a3, a4, a5, a6⟩ := cells7 (G := G) (s := s) (a := x) (rv := .slice A0 x.row.length c0) (holds_sub hN3.st.holds (hsb.trans (sub_left _ _))); have HRp := Lib.hid (fun (W : World) (hW : Holds ((G2.put u'.heap.size (.cells #[.int .i64 nx, .int .i64 0, .int .i64 er, .slice A3 l3 c3, .slice A4 l4 c4] 47)).or GO) W) => hW.cell (i := 2) (sub_left _ _ _ _ (Gh.put_same _ _ _)) rfl); replace hN3 := Lib.hid hN3; clear hN2 hS2 hs2 hsG hsb))
              | (go_at_call 28; refine (HK.out _).mono ?_; rintro e u2 ⟨rfl, hb2⟩; have hN4 := Lib.hid (hN3.out.step hb2); have r2 := HRp.out _ hN4.out.st.holds; clear hb2 a0 a1 a2 a3 a4 a5 a6))
            go_roundw
            case rel => exact ⟨k + 1, _, _, _, by omega, by go_num, by rw [HT2.out]; exact hN4.out.mono (by omega), by rw [HT2.out]; exact HOth.out, by omega⟩
            case measure => simp [RowKit.intOf]; omega
        · have HK := Lib.hid hkd
          have HOth := Lib.hid (HCt.out.other (nextOf_other M x hk00))
          have hb0 : (kindB x.op == 0) = false := by simpa using hk00
          have hb1' : (kindB x.op != 0) = true := by simpa using hk00
          clear hkd
          unfold actVal actObj at *
          go_wp2_with (first
            | (go_at_call 22; go_loud (refine (HDo.out p _ _ _ _ x A0 c0 HS.out.st (by omega) HX.out.1 HX.out.2.1 HX.out.2.2.1 HX.out.2.2.2).mono ?_; rintro e u' ⟨A3, l3, c3, A4, l4, c4, G', rfl, hS2, hs2⟩; obtain ⟨G2, hN2, hsG, -⟩ := HS.out.parts hS2 hs2; have hN3 := hN2.alloc (.cells #[.int .i64 (M.doA x).2.n, .int .i64 (M.doA x).2.m, .int .i64 (M.doA x).2.e, .slice A3 l3 c3, .slice A4 l4 c4] 47); have hsb : Sub (G.put s (actObj x (.slice A0 x.row.length c0))) ((G2.put u'.heap.size (.cells #[.int .i64 (M.doA x).2.n, .int .i64 (M.doA x).2.m, .int .i64 (M.doA x).2.e, .slice A3 l3 c3, .slice A4 l4 c4] 47)).or GO) := (hsG.trans (Sub.put_new (holds_sub hN2.st.holds (sub_left _ _)) _)).trans (sub_left _ _); obtain ⟨a0, a1, a2, a3, a4, a5, a6⟩ := cells7 (G := G) (s := s) (a := x) (rv := .slice A0 x.row.length c0) (holds_sub hN3.st.holds hsb); replace hN3 := Lib.hid hN3; clear hN2 hS2 hs2))
            | (go_at_call 28; refine (HK.out _).mono ?_; rintro e u2 ⟨rfl, hb2⟩; have hN4 := Lib.hid (hN3.out.step hb2); clear hb2))
          go_roundw
          case rel => exact ⟨k + 1, _, _, _, by omega, by go_num, by rw [HT.out]; exact hN4.out.mono (by omega), by rw [HT.out]; exact HOth.out, by omega⟩
          case measure => simp [RowKit.intOf]; omega
end Go.Ju
namespace Go.Proofs.YthdnjokioboehaaGreatDoor
open Go.ChangeShapes Go.WideShapes Go.ChangeAt Go.RowKit

theorem own : ownKnob Tryz.prog.godebug = none := by kernel_rfl
theorem laidOut : laidOutB Tryz.prog = true := by kernel_rfl
/-- The door's own heap meets the condition. -/
theorem door_met (os : Os) (args : Array Value) : laidMetH Tryz.prog [("justiciar/value.Null", Rows.laid_justiciar_value_Null)] ((World.doorLaid Tryz.prog 400 os).forCall (fun _ _ => 0) ⟨#[], args, []⟩).memory :=
  laidMetH_of_parts3 (fuel := 8) (laidMet_of_run' 8 (by kernel_rfl) (by kernel_rfl)) (by kernel_rfl) (by kernel_rfl)

set_option maxRecDepth 100000 in
theorem undoNumbers_lifted (os : Os) (started : os.Started) (H : Type) (enc : TypeId × Value → H) :
    ReturnsInHanded {} Tryz.checked os 10 .any (fun w args => (Rows.undoNumbersSpec.pre enc Tryz.prog Tryz.f10 [] false w args ∧ laidMetH Tryz.prog [("justiciar/value.Null", Rows.laid_justiciar_value_Null)] w) ∧ sizedMet enc Tryz.prog Tryz.f10 (OpenSpec.ofChange Rows.undoNumbersSpec) false w args)
      (Rows.undoNumbersSpec.post enc Tryz.prog Tryz.f10 false true false false) := by
  refine returnsInHanded_of_change_and (C := Tryz.checked) (X := fun w _ => laidMetH Tryz.prog [("justiciar/value.Null", Rows.laid_justiciar_value_Null)] w) (fun _ _ _ hh h => h.of_heap hh) own started (by kernel_rfl) Tryz.func10
    (ChangeSpec.witness_shaped (enc := enc) (C := Tryz.checked) (os := os) (X := fun w _ => laidMetH Tryz.prog [("justiciar/value.Null", Rows.laid_justiciar_value_Null)] w) false (World.doorLaid Tryz.prog 400 os) #[.slice none 0 0] 8 rfl (World.shaped_of_RefB (by kernel_rfl) (by kernel_rfl)) (by kernel_rfl) (by kernel_rfl) (by kernel_rfl) (door_met os _)) ?_
  intro W base args ds gs before hval0 hW _ hsz0 hL _
  have hsz : (DataW.weightsEach Tryz.prog (Tryz.f10.params.toList ++ DataSpec.varTypes Tryz.prog Rows.undoNumbersSpec.plain) (ds ++ gs)).all (· ≤ reachBytes) = true := hsz0
  have hval : ∀ (j : Nat) t v, Tryz.f10.params[j]? = some t → args[j]? = some v → Value.okWide Tryz.prog W .any base t v := hval0
  have hW' := hW
  obtain ⟨p, q, hA0, hV, rfl, hfz, hnd⟩ := hW
  have hA : DataW.TrodAll enc Tryz.prog W 0 (fun _ => true) true Tryz.f10.params.toList args.toList ds p := hA0
  rw [Tryz.params10] at hA hval hsz
  obtain ⟨v0, d0, rfl, rfl, h0⟩ := trodAll_one hA
  obtain ⟨rfl, rfl⟩ := trodVars_none hV
  have hlt : ∀ x ∈ p ++ [], x.block < W.heap.size := fun x hx => by simpa using hW'.lt x hx
  rw [List.all_eq_true] at hsz
  have hw0 : ∀ q ∈ d0.weights Tryz.prog 35, q ≤ reachBytes := fun q hq => of_decide_eq_true (hsz q (DataW.weights_mem_each (j := 0) rfl rfl q hq))
  obtain ⟨l0, hl0⟩ := Ju.open_acts (hval 0 35 v0 rfl rfl) h0 hw0
  have hnul : Ju.Nul W := Ju.nul_cells hL
  refine (Ju.undoNumbers_any W hnul (Ju.oldG_holds W) hl0).mono fun e W' ⟨he, hb⟩ => ?_
  subst he
  refine ⟨_, rfl, _, _, _, [], _, [], hW', trodAll_mk1 (shut_bool Tryz.underlying4 true), trodAll_mk1 (Below.trod laidOut (by kernel_rfl) (of_decide_eq_true (by kernel_rfl)) h0 hb (fun x hx => hlt x (by simp [hx]))), rfl, hb.frame _, fun h => by cases h⟩

theorem undoNumbers_row : Rows.UndoNumbersSaid :=
  OpenClaim.holds_of_wide 10 Tryz.f10 rfl rfl rfl rfl rfl rfl rfl ⟨rfl, rfl, rfl, rfl, rfl⟩ rfl rfl rfl rfl rfl (by kernel_rfl) Tryz.func10 (by kernel_rfl)
    (of_decide_eq_true (by kernel_rfl)) (by unfold Func.isWrapper; first | (rw [if_pos (by decide +kernel)]; kernel_rfl) | (rw [if_neg (by decide +kernel)]; exact ⟨rfl, rfl⟩))
    (fun os started H enc _ => undoNumbers_lifted os started H enc)
theorem undoNumbers_holds : Rows.UndoNumbersCardSaid :=
  Claim7.holds_tied_plain_at .later [] [.data] true (true, "01d81894e8f79c17e99131f106419fb79536ab10904589b1f3322bca63321cb7") false
    undoNumbers_row (fun _ h => by cases h) (by kernel_rfl) (fun _ h => by cases h) undoNumbers_row_tie rfl ⟨rfl, rfl⟩ (by kernel_rfl) rfl
    (fun f fn hf hfn => by
      obtain rfl : f = 10 := Option.some.inj ((show Tryz.prog.funcNamed "justiciar/justiciarlaw16.UndoNumbers" = some 10 by kernel_rfl).symm.trans hf) |>.symm
      obtain rfl : fn = Tryz.f10 := (Option.some.inj (Tryz.func10.symm.trans hfn)).symm
      exact ⟨by kernel_rfl, fun j t ht => by
        rw [Tryz.params10] at ht
        have hm : t ∈ [35] := by simpa using Array.mem_of_getElem? ht
        have hall : ([35].all fun u => !Tryz.prog.wantsStandIn u) = true := by kernel_rfl
        exact (show Tryz.prog.wantsStandIn t = false by simpa using List.all_eq_true.1 hall t hm)⟩)
    (by kernel_rfl)
#print axioms undoNumbers_holds
end Go.Proofs.YthdnjokioboehaaGreatDoor

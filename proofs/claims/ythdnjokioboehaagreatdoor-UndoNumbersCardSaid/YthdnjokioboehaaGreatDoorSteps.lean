/- What the calls do to what is seen. Plain. -/
import Derived.Test.YthdnjokioboehaaGreatDoorVis
namespace Go.Ju
def visO (time txn : Int) (o : Option RowS) : Option (List Val) := o.bind (visR time txn)
def toldO (time txn : Int) (o : Option RowS) : Prop := ∀ r, o = some r → (r.at time txn).2 = true
theorem vis_O (M : St) (k : Key) (time txn id : Int) : M.vis k time txn id = visO time txn (M.row k id) := rfl
theorem told_O (M : St) (k : Key) (time txn : Int) : M.told k time txn ↔ ∀ id, toldO time txn (M.row k id) := ⟨fun h id r hr => h id r hr, fun h id r hr => h id r hr⟩
/-- Open by x only. -/
def ownX (x : Int) (r : RowS) : Prop := r.opn.isSome = true → r.txn = x
theorem not_mine {x y : Int} {r : RowS} (h : ownX x r) (hy : y ≠ x) : r.mine y = false := by
  unfold RowS.mine
  cases ho : r.opn.isSome with
  | false => rfl
  | true =>
    have e := h ho
    rw [Bool.true_and, decide_eq_false_iff_not, e]
    exact fun e => hy e.symm
theorem at_other {time y : Int} {r : RowS} (h : r.mine y = false) : r.at time y = match r.seenOld time with | some v => (some v, true) | none => (none, !r.lost) := by
  unfold RowS.at
  rw [h]
  rfl
theorem at_alike {time y : Int} {a b : RowS} (ha : a.mine y = false) (hb : b.mine y = false) (ho : b.old = a.old) (hl : b.lost = a.lost) : b.at time y = a.at time y := by
  rw [at_other ha, at_other hb]
  unfold RowS.seenOld
  rw [ho, hl]
theorem at_empty {time y : Int} {a : RowS} (ha : a.mine y = false) (ho : a.old = []) (hl : a.lost = false) : a.at time y = (none, true) := by
  rw [at_other ha]
  unfold RowS.seenOld
  rw [ho, hl]
  rfl
/-- All others see the same. -/
def Alike (x : Int) (o o' : Option RowS) : Prop := ∀ y, y ≠ x → ∀ time, visO time y o = visO time y o' ∧ (toldO time y o ↔ toldO time y o')
theorem Alike.refl (x : Int) (o : Option RowS) : Alike x o o := fun _ _ _ => ⟨rfl, Iff.rfl⟩
theorem Alike.trans {x : Int} {o o' o'' : Option RowS} (h : Alike x o o') (h' : Alike x o' o'') : Alike x o o'' := fun y hy t => ⟨(h y hy t).1.trans (h' y hy t).1, (h y hy t).2.trans (h' y hy t).2⟩
theorem Alike.set {x : Int} {a b : RowS} (ho : b.old = a.old) (hl : b.lost = a.lost) (ha : ownX x a) (hb : ownX x b) : Alike x (some a) (some b) := fun y hy t => by
  have e := at_alike (time := t) (not_mine ha hy) (not_mine hb hy) ho hl
  refine ⟨?_, ?_⟩
  · show visR t y a = visR t y b
    unfold visR
    rw [e]
  · constructor
    · rintro h r ⟨⟩; rw [e]; exact h a rfl
    · rintro h r ⟨⟩; rw [← e]; exact h b rfl
theorem Alike.gone {x : Int} {a : RowS} (ho : a.old = []) (hl : a.lost = false) (ha : ownX x a) : Alike x (some a) none := fun y hy t => by
  have e := at_empty (time := t) (not_mine ha hy) ho hl
  refine ⟨?_, ?_⟩
  · show visR t y a = none
    unfold visR
    rw [e]
  · exact ⟨fun _ r hr => (by cases hr), fun _ r hr => (by cases hr; rw [e])⟩
theorem Alike.symm {x : Int} {o o' : Option RowS} (h : Alike x o o') : Alike x o' o := fun y hy t => ⟨(h y hy t).1.symm, (h y hy t).2.symm⟩
/-- The calls of x, before it commits. -/
structure Hush (x : Int) (M M' : St) : Prop where
  time : M'.time = M.time
  rows : ∀ k id, Alike x (M.row k id) (M'.row k id)
theorem Hush.refl (x : Int) (M : St) : Hush x M M := ⟨rfl, fun _ _ => Alike.refl _ _⟩
theorem Hush.trans {x : Int} {M M' M'' : St} (h : Hush x M M') (h' : Hush x M' M'') : Hush x M M'' := ⟨h'.time.trans h.time, fun k id => (h.rows k id).trans (h'.rows k id)⟩
theorem Hush.at {n n' : Nat} {x y : Int} {M M' : St} (h : Hush x M M') (hM : InvC n M) (hM' : InvC n' M') (hy : y ≠ x) (k : Key) (time : Int) : M.atA k time y = M'.atA k time y := by
  refine at_congr hM hM' ?_ (fun id => ?_) ?_
  · unfold St.look; rw [h.time]
  · rw [vis_O, vis_O]; exact (h.rows k id y hy time).1
  · rw [told_O, told_O]
    exact ⟨fun h1 id => (h.rows k id y hy time).2.1 (h1 id), fun h1 id => (h.rows k id y hy time).2.2 (h1 id)⟩
theorem Hush.set {M : St} {k : Key} {x id : Int} {v : Ver} {r : RowS} (hr : M.row k id = some r) (ho : ownX x r) : Hush x M (M.set k x id v) := ⟨set_time, fun k' id' => by
  rw [set_row hr]
  split
  · rename_i e
    rw [e.1, e.2, hr]
    exact Alike.set rfl rfl ho (fun _ => rfl)
  · exact Alike.refl _ _⟩
theorem Hush.grow {n : Nat} {M : St} (h : InvC n M) {k : Key} {x : Int} (hnx : (M.grow k).2 ≠ 1099511627776) : Hush x M (M.grow k).1 := ⟨rfl, fun k' id' => by
  obtain ⟨_, g2, g3⟩ := h.grow hnx
  by_cases e : k' = k ∧ id' = (M.grow k).2
  · rw [e.1, e.2, g2, grow_new h]
    exact (Alike.gone rfl rfl (fun h => by cases h)).symm
  · rw [g3 _ _ e]; exact Alike.refl _ _⟩
theorem Hush.addA {n : Nat} {M : St} (h : Inv n M) (k : Key) (x : Int) (l : List Val) : Hush x M (M.addA k x l).1 := by
  unfold St.addA
  split
  · rcases add_case M k x l with e | ⟨h1, _, e⟩
    · rw [e]; exact Hush.refl _ _
    · rw [e]
      obtain ⟨_, g2, _⟩ := h.core.grow h1
      exact (Hush.grow h.core h1).trans (Hush.set g2 (fun h => by cases h))
  · exact Hush.refl _ _
theorem Hush.change (M : St) (k : Key) (x id : Int) (v : Ver) : Hush x M (M.change k x id v).1 := by
  unfold St.change
  cases hr : M.row k id with
  | none => exact Hush.refl _ _
  | some r =>
    dsimp only
    split
    · exact Hush.refl _ _
    · rename_i e
      split
      · exact Hush.set hr (fun ho => by rw [ho] at e; simpa using e)
      · exact Hush.refl _ _
theorem Hush.putA (M : St) (k : Key) (x id : Int) (l : List Val) : Hush x M (M.putA k x id l).1 := by
  unfold St.putA
  split
  · exact Hush.change _ _ _ _ _
  · exact Hush.refl _ _
theorem Hush.delA (M : St) (k : Key) (x id : Int) : Hush x M (M.delA k x id).1 := by
  unfold St.delA
  split
  · exact Hush.change _ _ _ _ _
  · exact Hush.refl _ _
theorem Hush.undo1 {n : Nat} {x : Int} {M : St} (h : InvC n M) {c : Chg} (hc : c ∈ M.lg x) : Hush x M (M.undo1 c) := by
  refine ⟨(undo1_log M c).2.1, fun k id => ?_⟩
  by_cases hd : c.drops = M.dr c.key
  · obtain ⟨r, hr, hro, hrx⟩ := (h.chain x).row hc hd
    rw [undo1_row hd hr]
    split
    · rename_i e
      rw [e.1, e.2, hr]
      split
      · rename_i e2
        simp only [Bool.and_eq_true, List.isEmpty_iff] at e2
        have hl : r.lost = false := by
          cases hl : r.lost with
          | false => rfl
          | true => exact absurd e2.2 ((h.row _ _ _ hr).lost hl)
        exact Alike.gone e2.2 hl (fun _ => hrx)
      · exact Alike.set rfl rfl (fun _ => hrx) (fun _ => hrx)
    · exact Alike.refl _ _
  · rw [undo1_dead hd]; exact Alike.refl _ _
theorem Hush.backs {n : Nat} {x : Int} (d : List Chg) : ∀ {M : St} {l : List Chg}, Inv n M → M.lg x = l ++ d → Hush x M (d.reverse.foldl St.undo1 M) := by
  induction d using snoc_ind with
  | h0 => intro M l h hl; exact Hush.refl _ _
  | h1 d c ih =>
    intro M l h hl
    rw [← List.append_assoc] at hl
    have hcm : c ∈ M.lg x := by rw [hl]; simp
    have h1 := ih (h.step hl) (show (M.step x (l ++ d) c).lg x = l ++ d by rw [step_lg, if_pos rfl])
    rw [List.reverse_append, List.reverse_cons, List.reverse_nil, List.nil_append, List.singleton_append, List.foldl_cons]
    unfold St.step at h1
    rw [undos_relog] at h1
    exact (Hush.undo1 h.core hcm).trans ⟨h1.time, h1.rows⟩
theorem Hush.back {n : Nat} {M : St} (h : Inv n M) (x : Int) (mark : Nat) : Hush x M (M.back x mark) := by
  have := Hush.backs (x := x) ((M.lg x).drop mark) (l := (M.lg x).take mark) h (by rw [List.take_append_drop])
  exact ⟨this.time, this.rows⟩
theorem Hush.backA {n : Nat} {M : St} (h : Inv n M) (x mark : Int) : Hush x M (M.backA x mark).1 := by
  unfold St.backA
  split
  · exact Hush.refl _ _
  · split
    · exact Hush.refl _ _
    · exact Hush.back h x _
theorem Hush.abortA {n : Nat} {M : St} (h : Inv n M) (x : Int) : Hush x M (M.abortA x).1 := by
  unfold St.abortA
  split
  · exact Hush.refl _ _
  · exact ⟨(Hush.back h x 0).time, (Hush.back h x 0).rows⟩

/-! ### the past -/
/-- What a reader without changes saw at T, it sees, or it can't be told. -/
def Past (T : Int) (o o' : Option RowS) : Prop := toldO T 0 o' → toldO T 0 o ∧ visO T 0 o = visO T 0 o'
theorem Past.refl (T : Int) (o : Option RowS) : Past T o o := fun h => ⟨h, rfl⟩
theorem Past.trans {T : Int} {o o' o'' : Option RowS} (h : Past T o o') (h' : Past T o' o'') : Past T o o'' := fun ht => by
  obtain ⟨h1, h2⟩ := h' ht
  obtain ⟨h3, h4⟩ := h h1
  exact ⟨h3, h4.trans h2⟩
theorem Past.of_alike {x T : Int} {o o' : Option RowS} (h : Alike x o o') (hx : x ≠ 0) : Past T o o' := fun ht => ⟨(h 0 (Ne.symm hx) T).2.2 ht, (h 0 (Ne.symm hx) T).1⟩
structure Later (T : Int) (M M' : St) : Prop where
  time : M.time ≤ M'.time
  rows : ∀ k id, Past T (M.row k id) (M'.row k id)
theorem Later.refl (T : Int) (M : St) : Later T M M := ⟨Int.le_refl _, fun _ _ => Past.refl _ _⟩
theorem Later.trans {T : Int} {M M' M'' : St} (h : Later T M M') (h' : Later T M' M'') : Later T M M'' := ⟨Int.le_trans h.time h'.time, fun k id => (h.rows k id).trans (h'.rows k id)⟩
theorem Later.of_hush {x T : Int} {M M' : St} (h : Hush x M M') (hx : x ≠ 0) : Later T M M' := ⟨by rw [h.time]; exact Int.le_refl _, fun k id => Past.of_alike (h.rows k id) hx⟩
/-- Only a number of a transaction opens a row. -/
theorem Inv.opn_num {n : Nat} {M : St} (h : Inv n M) {k : Key} {id : Int} {r : RowS} (hr : M.row k id = some r) (ho : r.opn.isSome = true) : numB r.txn = true := by
  have h1 := ((h.core.chain r.txn).opn k id).2 ⟨r, hr, ho, rfl⟩
  refine h.core.num r.txn fun e => h1 ?_
  rw [e]
  rfl
theorem numB_ne {x : Int} (h : numB x = true) : x ≠ 0 := fun e => by subst e; exact absurd h (by decide)
theorem seenOld_app (a : RowS) (v : Ver) (T : Int) (hv : ¬ v.time ≤ T) : ((a.old ++ [v]).reverse.find? fun v => decide (v.time ≤ T)) = a.seenOld T := by
  unfold RowS.seenOld
  rw [List.reverse_append, List.reverse_cons, List.reverse_nil, List.nil_append, List.singleton_append, List.find?_cons, decide_eq_false hv]
theorem find_drop {l : List Ver} {p : Ver → Bool} {k : Nat} {v : Ver} (h : (l.drop k).reverse.find? p = some v) : l.reverse.find? p = some v := by
  rw [show l.reverse = (l.drop k).reverse ++ (l.take k).reverse by rw [← List.reverse_append, List.take_append_drop], List.find?_append, h]
  rfl
theorem Past.commit {n : Nat} {M : St} (h : Inv n M) {k : Key} {id : Int} {r : RowS} (hr : M.row k id = some r) (ho : r.opn.isSome = true) {T T' : Int} (hT : T < T') : Past T (some r) (commitF T' r) := by
  have hx := numB_ne (h.opn_num hr ho)
  have hm : r.mine 0 = false := not_mine (x := r.txn) (fun _ => rfl) (Ne.symm hx)
  unfold commitF
  cases hv : r.opn with
  | none => rw [hv] at ho; cases ho
  | some v =>
    dsimp only
    split
    · rename_i e
      simp only [Bool.and_eq_true, List.isEmpty_iff] at e
      have hl : r.lost = false := by
        cases hl : r.lost with
        | false => rfl
        | true => exact absurd e.2 ((h.core.row _ _ _ hr).lost hl)
      exact Past.of_alike (Alike.gone e.2 hl (x := r.txn) (fun _ => rfl)) hx
    · intro ht
      have hb : (r.commit v T').mine 0 = false := by
        unfold RowS.commit
        dsimp only
        split <;> rfl
      have htold := ht _ rfl
      rw [at_other hb] at htold
      have e : (r.commit v T').at T 0 = r.at T 0 := by
        rw [at_other hb, at_other hm]
        unfold RowS.commit at htold ⊢
        dsimp only at htold ⊢
        by_cases hlen : 6 < (r.old ++ [({ v with time := T' } : Ver)]).length
        · rw [if_pos hlen] at htold ⊢
          unfold RowS.seenOld at htold ⊢
          dsimp only at htold ⊢
          cases hf : (List.drop ((r.old ++ [({ v with time := T' } : Ver)]).length - 6) (r.old ++ [({ v with time := T' } : Ver)])).reverse.find? (fun v => decide (v.time ≤ T)) with
          | none => rw [hf] at htold; simp at htold
          | some u =>
            have h2 := find_drop hf
            rw [seenOld_app r _ T (by dsimp only; omega)] at h2
            unfold RowS.seenOld at h2
            rw [h2]
        · rw [if_neg hlen]
          have h2 := seenOld_app r { v with time := T' } T (by dsimp only; omega)
          unfold RowS.seenOld at h2 ⊢
          dsimp only
          rw [h2]
      refine ⟨fun r' hr' => ?_, ?_⟩
      · cases hr'
        rw [← e]
        exact ht _ rfl
      · show visR T 0 r = visR T 0 (r.commit v T')
        unfold visR
        rw [e]
theorem Later.commitA {n : Nat} {M : St} (h : Inv n M) (x : Int) {T : Int} (hT : T ≤ M.time) : Later T M (M.commitA x).1 := by
  unfold St.commitA
  split
  · rcases commit_case M x with ⟨h1, e⟩ | ⟨_, _, e⟩ | ⟨_, h2, e⟩
    · rw [e]
      refine ⟨by rw [commitAt_time]; exact Int.le_refl _, fun k id => ?_⟩
      rw [commitAt_row h.core]
      cases hr : M.row k id with
      | none => exact Past.refl _ _
      | some r =>
        dsimp only
        split
        · rename_i e
          have := (h.core.touched x k id).2 ⟨r, hr, e⟩
          rw [h1] at this
          simp at this
        · exact Past.refl _ _
    · rw [e]; exact Later.refl _ _
    · rw [e]
      refine ⟨by rw [commitAt_time]; omega, fun k id => ?_⟩
      rw [commitAt_row h.core]
      cases hr : M.row k id with
      | none => exact Past.refl _ _
      | some r =>
        dsimp only
        split
        · rename_i e
          exact Past.commit h hr e.1 (by omega)
        · exact Past.refl _ _
  · exact Later.refl _ _
theorem told_now {n : Nat} {M : St} (h : Inv n M) (k : Key) : M.told k M.time 0 := fun id r hr => by
  have hro := h.core.row k id r hr
  have hm : r.mine 0 = false := by
    cases ho : r.opn.isSome with
    | false => unfold RowS.mine; rw [ho]; rfl
    | true => exact not_mine (x := r.txn) (fun _ => rfl) (Ne.symm (numB_ne (h.opn_num hr ho)))
  rw [at_other hm]
  cases hs : r.seenOld M.time with
  | some v => rfl
  | none =>
    cases hl : r.lost with
    | false => rfl
    | true =>
      exfalso
      unfold RowS.seenOld at hs
      rw [List.find?_eq_none] at hs
      obtain ⟨v, hv⟩ := List.exists_mem_of_ne_nil _ (hro.lost hl)
      have := hs v (by simpa using hv)
      simp only [decide_eq_true_eq] at this
      exact this (hro.times v hv).2
theorem Later.at {n n' : Nat} {M M' : St} (h : Inv n M) (h' : Inv n' M') (hl : Later M.time M M') (k : Key) : (M'.atA k M.time 0).2 = 26 ∨ M'.atA k M.time 0 = M.atA k M.time 0 := by
  refine at_old h.core h'.core ?_ (told_now h k) (fun ht id => ?_)
  · unfold St.look
    have := hl.time
    rw [decide_eq_false (show ¬ M.time < M.time by omega), decide_eq_false (show ¬ M'.time < M.time by omega)]
  · rw [vis_O, vis_O]
    exact (hl.rows k id ((told_O M' k M.time 0).1 ht id)).2
end Go.Ju

/- UndoWhole, UndoNumbers: the plain laws. -/
import Derived.Test.YthdnjokioboehaaGreatDoorApartLaw
namespace Go.Ju

/-! ### whose changes there are -/
theorem change_lg {M : St} {k : Key} {x id : Int} {v : Ver} {y : Int} (hy : y ≠ x) : (M.change k x id v).1.lg y = M.lg y := by
  unfold St.change
  cases hr : M.row k id with
  | none => rfl
  | some r =>
    dsimp only
    split
    · rfl
    · split
      · show (M.set k x id v).lg y = _
        rw [set_lg hr, if_neg hy]
      · rfl
theorem grow_lg (M : St) (k : Key) (y : Int) : (M.grow k).1.lg y = M.lg y := rfl
theorem set_lg_other {M : St} {k : Key} {x id : Int} {v : Ver} {y : Int} (hy : y ≠ x) : (M.set k x id v).lg y = M.lg y := by
  cases hr : M.row k id with
  | none => unfold St.set; rw [hr]
  | some r => rw [set_lg hr, if_neg hy]
theorem addA_lg {M : St} {k : Key} {x : Int} {l : List Val} {y : Int} (hy : y ≠ x) : (M.addA k x l).1.lg y = M.lg y := by
  unfold St.addA
  split
  · rcases add_case M k x l with e | ⟨_, _, e⟩
    · rw [e]
    · rw [e]
      show ((M.grow k).1.set k x (M.grow k).2 ⟨0, false, l⟩).lg y = _
      rw [set_lg_other hy, grow_lg]
  · rfl
theorem commitA_lg {M : St} {x y : Int} (hy : y ≠ x) : (M.commitA x).1.lg y = M.lg y := by
  unfold St.commitA
  split
  · rcases commit_case M x with ⟨_, e⟩ | ⟨_, _, e⟩ | ⟨_, _, e⟩
    · rw [e]; exact (commitAt_lg _ _ _ _).trans (if_neg hy)
    · rw [e]
    · rw [e]; exact (commitAt_lg _ _ _ _).trans (if_neg hy)
  · rfl
theorem backA_lg {M : St} {x m y : Int} (hy : y ≠ x) : (M.backA x m).1.lg y = M.lg y := by
  unfold St.backA
  split
  · rfl
  · split
    · rfl
    · exact (lg_back _ _ _ _).trans (if_neg hy)
theorem abortA_lg (M : St) (x y : Int) : (M.abortA x).1.lg y = if y = x ∧ numB x = true then [] else M.lg y := by
  unfold St.abortA
  cases hx : numB x with
  | false => simp
  | true =>
    simp only [Bool.not_true, Bool.false_eq_true, if_false, and_true]
    rw [lg_del]
    split
    · rfl
    · rename_i e; rw [lg_back, if_neg e]
theorem drop_lg (M : St) (k : Key) (y : Int) : (M.dropA k).1.lg y = M.lg y := by
  unfold St.dropA St.drop
  split
  · dsimp only
    split <;> rfl
  · rfl
theorem doA_lg {M : St} {a : ActM} {y : Int} (hy : y ≠ a.txn) : (M.doA a).1.lg y = M.lg y := by
  obtain ⟨h1, h2⟩ := kindB_range a.op
  have h3 : kindB a.op = 0 ∨ kindB a.op = 1 ∨ kindB a.op = 2 ∨ kindB a.op = 3 ∨ kindB a.op = 4 ∨ kindB a.op = 5 ∨ kindB a.op = 6 ∨ kindB a.op = 7 ∨ kindB a.op = 8 ∨ kindB a.op = 9 ∨ kindB a.op = 10 := by omega
  rcases h3 with e | e | e | e | e | e | e | e | e | e | e
  · rw [doA_0 M a e]; exact addA_lg hy
  · rw [doA_1 M a e]
    unfold St.putA
    split
    · exact change_lg hy
    · rfl
  · rw [doA_2 M a e]
    unfold St.delA
    split
    · exact change_lg hy
    · rfl
  · rw [doA_3 M a e]
  · rw [doA_4 M a e]; exact backA_lg hy
  · rw [doA_5 M a e]; exact commitA_lg hy
  · rw [doA_6 M a e]; exact (abortA_lg M _ _).trans (if_neg (fun h => hy h.1))
  · rw [doA_7 M a e]
  · rw [doA_8 M a e]
  · rw [doA_9 M a e]
  · rw [doA_10 M a e]; exact drop_lg _ _ _
theorem runs_lg (l : List ActM) : ∀ {M : St} {y : Int}, (∀ a ∈ l, y ≠ a.txn) → (runs M l).lg y = M.lg y := by
  induction l with
  | nil => intro M y _; rfl
  | cons a l ih =>
    intro M y h
    exact (ih (fun b hb => h b (by simp [hb]))).trans (doA_lg (h a (by simp)))
/-- All transactions but x are aborted. -/
def aborts (x : Int) (M : St) (l : List ActM) : St := l.foldl (fun M a => if a.txn ≠ x ∧ 1 ≤ a.txn then (M.abortA a.txn).1 else M) M
theorem aborts_snoc (x : Int) (M : St) {l : List ActM} {k : Nat} {a : ActM} (h : l[k]? = some a) : aborts x M (l.take (k + 1)) = if a.txn ≠ x ∧ 1 ≤ a.txn then ((aborts x M (l.take k)).abortA a.txn).1 else aborts x M (l.take k) := by
  unfold aborts
  rw [List.take_add_one, h, List.foldl_append]
  rfl
theorem Inv.aborts (x : Int) (l : List ActM) : ∀ {n : Nat} {M : St}, Inv n M → Inv n (Ju.aborts x M l) := by
  induction l with
  | nil => intro n M h; exact h
  | cons a l ih =>
    intro n M h
    show Inv n (Ju.aborts x (if a.txn ≠ x ∧ 1 ≤ a.txn then (M.abortA a.txn).1 else M) l)
    split
    · exact ih (h.abortA _)
    · exact ih h
theorem aborts_lg (x : Int) (l : List ActM) : ∀ {M : St} {y : Int}, M.lg y = [] → (aborts x M l).lg y = [] := by
  induction l with
  | nil => intro M y h; exact h
  | cons a l ih =>
    intro M y h
    show (aborts x (if a.txn ≠ x ∧ 1 ≤ a.txn then (M.abortA a.txn).1 else M) l).lg y = []
    refine ih ?_
    split
    · rw [abortA_lg]; split; rfl; exact h
    · exact h
theorem aborts_gone (x : Int) (l : List ActM) : ∀ {n : Nat} {M : St}, Inv n M → ∀ {y : Int}, y ≠ x → (∃ a ∈ l, y = a.txn) → (aborts x M l).lg y = [] := by
  induction l with
  | nil => intro n M h y _ hy; obtain ⟨a, ha, _⟩ := hy; simp at ha
  | cons a l ih =>
    intro n M h y hyx hy
    show (aborts x (if a.txn ≠ x ∧ 1 ≤ a.txn then (M.abortA a.txn).1 else M) l).lg y = []
    by_cases e : y = a.txn
    · refine aborts_lg x l ?_
      by_cases hn : M.lg y = []
      · split
        · rw [abortA_lg]; split; rfl; exact hn
        · exact hn
      · have hnum := h.core.num y hn
        have h1 : 1 ≤ y := by
          unfold numB at hnum
          simp only [Bool.and_eq_true, decide_eq_true_eq] at hnum
          exact hnum.1
        rw [← e, if_pos ⟨hyx, h1⟩, abortA_lg, if_pos ⟨rfl, hnum⟩]
    · obtain ⟨b, hb, rfl⟩ := hy
      rcases List.mem_cons.1 hb with rfl | hb
      · exact absurd rfl e
      · have h2 : Inv n (if a.txn ≠ x ∧ 1 ≤ a.txn then (M.abortA a.txn).1 else M) := by
          split
          · exact h.abortA _
          · exact h
        exact ih h2 hyx ⟨b, hb, rfl⟩
theorem alone (x : Int) (l : List ActM) {y : Int} (hy : y ≠ x) : (aborts x (runs St.empty l) l).lg y = [] := by
  by_cases h : ∃ a ∈ l, y = a.txn
  · exact aborts_gone x l (Inv.runs l Inv.empty) hy h
  · refine aborts_lg x l ?_
    rw [runs_lg l (fun a ha e => h ⟨a, ha, e⟩)]
    rfl
/-! ### the time -/
theorem Later.time_le {M : St} {a : ActM} : (M.doA a).1.time ≤ M.time + 1 := by
  obtain ⟨h1, h2⟩ := kindB_range a.op
  have h3 : kindB a.op = 0 ∨ kindB a.op = 1 ∨ kindB a.op = 2 ∨ kindB a.op = 3 ∨ kindB a.op = 4 ∨ kindB a.op = 5 ∨ kindB a.op = 6 ∨ kindB a.op = 7 ∨ kindB a.op = 8 ∨ kindB a.op = 9 ∨ kindB a.op = 10 := by omega
  have hch : ∀ (k : Key) (x id : Int) (v : Ver), (M.change k x id v).1.time = M.time := fun k x id v => by
    unfold St.change
    cases hr : M.row k id with
    | none => rfl
    | some r =>
      dsimp only
      split
      · rfl
      · split
        · exact set_time
        · rfl
  have hback : ∀ (x : Int) (m : Nat), (M.back x m).time = M.time := fun x m => by
    have : ∀ (d : List Chg) (N : St), (d.foldl St.undo1 N).time = N.time := fun d => by
      induction d with
      | nil => intro N; rfl
      | cons c d ih => intro N; rw [List.foldl_cons, ih, (undo1_log N c).2.1]
    unfold St.back
    exact this _ _
  rcases h3 with e | e | e | e | e | e | e | e | e | e | e
  · rw [doA_0 M a e]
    dsimp only
    unfold St.addA
    split
    · rcases add_case M a.key a.txn a.row with e | ⟨_, _, e⟩
      · rw [e]; show M.time ≤ _; omega
      · rw [e]; show (St.set _ _ _ _ _).time ≤ _; rw [set_time]; show M.time ≤ _; omega
    · show M.time ≤ _; omega
  · rw [doA_1 M a e]
    dsimp only
    unfold St.putA
    split
    · rw [hch]; omega
    · show M.time ≤ _; omega
  · rw [doA_2 M a e]
    dsimp only
    unfold St.delA
    split
    · rw [hch]; omega
    · show M.time ≤ _; omega
  · rw [doA_3 M a e]; show M.time ≤ _; omega
  · rw [doA_4 M a e]
    dsimp only
    unfold St.backA
    split
    · show M.time ≤ _; omega
    · split
      · show M.time ≤ _; omega
      · show (M.back _ _).time ≤ _; rw [hback]; omega
  · rw [doA_5 M a e]
    dsimp only
    unfold St.commitA
    split
    · rcases commit_case M a.txn with ⟨_, e⟩ | ⟨_, _, e⟩ | ⟨_, _, e⟩
      · rw [e]; show (M.commitAt _ _).time ≤ _; rw [commitAt_time]; omega
      · rw [e]; show M.time ≤ _; omega
      · rw [e]; show (M.commitAt _ _).time ≤ _; rw [commitAt_time]; omega
    · show M.time ≤ _; omega
  · rw [doA_6 M a e]
    dsimp only
    unfold St.abortA
    split
    · show M.time ≤ _; omega
    · show (M.back _ _).time ≤ _; rw [hback]; omega
  · rw [doA_7 M a e]; show M.time ≤ _; omega
  · rw [doA_8 M a e]; show M.time ≤ _; omega
  · rw [doA_9 M a e]; show M.time ≤ _; omega
  · rw [doA_10 M a e]
    dsimp only
    unfold St.dropA St.drop
    split
    · dsimp only
      split
      · show M.time ≤ _; omega
      · show M.time ≤ _; omega
    · show M.time ≤ _; omega
theorem runs_time (l : List ActM) : ∀ {M : St}, (runs M l).time ≤ M.time + l.length := by
  induction l with
  | nil => intro M; show M.time ≤ _; simp
  | cons a l ih =>
    intro M
    have h1 : (runs M (a :: l)).time ≤ (M.doA a).1.time + l.length := ih
    have h2 := Later.time_le (M := M) (a := a)
    rw [List.length_cons]
    omega
theorem aborts_time (x : Int) (l : List ActM) : ∀ {n : Nat} {M : St}, Inv n M → (aborts x M l).time = M.time := by
  induction l with
  | nil => intro n M _; rfl
  | cons a l ih =>
    intro n M h
    show (aborts x (if a.txn ≠ x ∧ 1 ≤ a.txn then (M.abortA a.txn).1 else M) l).time = _
    split
    · rw [ih (h.abortA _), (Hush.abortA h a.txn).time]
    · exact ih h

/-! ### all at once -/
theorem seenOld_all {r : RowS} {T T' : Int} (h : ∀ v, v ∈ r.old → v.time ≤ T) (hT : T ≤ T') : r.seenOld T' = r.seenOld T := by
  unfold RowS.seenOld
  have : ∀ l : List Ver, (∀ v ∈ l, v.time ≤ T) → (l.find? fun v => decide (v.time ≤ T')) = l.find? fun v => decide (v.time ≤ T) := fun l => by
    induction l with
    | nil => intro _; rfl
    | cons v l ih =>
      intro hl
      have h1 := hl v (by simp)
      rw [List.find?_cons, List.find?_cons, decide_eq_true (show v.time ≤ T' by omega), decide_eq_true h1]
  exact this _ (fun v hv => h v (by simpa using hv))
theorem commit_seen (r : RowS) (v : Ver) (T : Int) : (r.commit v T).seenOld T = some { v with time := T } := by
  have h1 : ∀ l : List Ver, ((l ++ [({ v with time := T } : Ver)]).reverse.find? fun u => decide (u.time ≤ T)) = some { v with time := T } := fun l => by
    rw [List.reverse_append, List.reverse_cons, List.reverse_nil, List.nil_append, List.singleton_append, List.find?_cons]
    rw [decide_eq_true (Int.le_refl _)]
  unfold RowS.commit
  dsimp only
  split
  · rename_i hlen
    unfold RowS.seenOld
    dsimp only
    rw [List.drop_append_of_le_length (by simp only [List.length_append, List.length_cons, List.length_nil]; omega)]
    exact h1 _
  · unfold RowS.seenOld
    exact h1 _
theorem whole_row {T T' x : Int} {r : RowS} (hr : RowOK T r) (hT : T ≤ T') (ho : r.opn.isSome = true → r.txn = x) :
    let o' := if r.opn.isSome = true ∧ r.txn = x then commitF T' r else some r
    visO T' 0 o' = visO T x (some r) ∧ (toldO T' 0 o' ↔ toldO T x (some r)) := by
  intro o'
  cases hop : r.opn with
  | none =>
    have e : o' = some r := by show (if _ then _ else _) = _; rw [hop]; simp
    have hm : ∀ y, r.mine y = false := fun y => by unfold RowS.mine; rw [hop]; rfl
    have ha : r.at T' 0 = r.at T x := by
      rw [at_other (hm 0), at_other (hm x), seenOld_all (fun v hv => (hr.times v hv).2) hT]
    rw [e]
    refine ⟨?_, ?_⟩
    · show visR T' 0 r = visR T x r
      unfold visR
      rw [ha]
    · constructor
      · rintro h r' ⟨⟩; rw [← ha]; exact h r rfl
      · rintro h r' ⟨⟩; rw [ha]; exact h r rfl
  | some v =>
    have hi : r.opn.isSome = true := by rw [hop]; rfl
    have htx := ho hi
    have ha : r.at T x = (some v, true) := by
      unfold RowS.at RowS.mine
      rw [hop, htx]
      simp
    have e : o' = commitF T' r := by show (if _ then _ else _) = _; rw [if_pos ⟨hi, htx⟩]
    have hv : visO T x (some r) = if v.gone then none else some v.row := by
      show visR T x r = _
      unfold visR
      rw [ha]
    have ht : toldO T x (some r) := by rintro r' ⟨⟩; rw [ha]
    rw [e, hv]
    unfold commitF
    rw [hop]
    dsimp only
    by_cases hg : (v.gone && r.old.isEmpty) = true
    · rw [if_pos hg]
      rw [Bool.and_eq_true] at hg
      rw [hg.1]
      exact ⟨rfl, fun _ => ht, fun _ r' hr' => by cases hr'⟩
    · rw [if_neg hg]
      have hm : (r.commit v T').mine 0 = false := by
        unfold RowS.commit RowS.mine
        dsimp only
        split <;> rfl
      have h2 : (r.commit v T').at T' 0 = (some { v with time := T' }, true) := by rw [at_other hm, commit_seen]
      refine ⟨?_, fun _ => ht, fun _ r' hr' => by cases hr'; rw [h2]⟩
      show visR T' 0 (r.commit v T') = _
      unfold visR
      rw [h2]
theorem whole_at {n : Nat} {M : St} (h : Inv n M) {x T' : Int} (hx : numB x = true) (ho : ∀ y, y ≠ x → M.lg y = []) (hT : M.time ≤ T') (hT' : T' ≤ 1099511627776) (k : Key) : (M.commitAt x T').atA k T' 0 = M.atA k M.time x := by
  have hx0 : 1 ≤ x ∧ x ≤ 1099511627776 := by
    unfold numB at hx
    simpa only [Bool.and_eq_true, decide_eq_true_eq] using hx
  have hI := h.commitAt (x := x) hT hT'
  have hown : ∀ id r, M.row k id = some r → r.opn.isSome = true → r.txn = x := fun id r hr hop => by
    by_cases e : r.txn = x
    · exact e
    · exfalso
      exact ((h.core.chain r.txn).opn k id).2 ⟨r, hr, hop, rfl⟩ (by rw [ho _ e]; rfl)
  have hrow : ∀ id, visO T' 0 ((M.commitAt x T').row k id) = visO M.time x (M.row k id) ∧ (toldO T' 0 ((M.commitAt x T').row k id) ↔ toldO M.time x (M.row k id)) := fun id => by
    rw [commitAt_row h.core]
    cases hr : M.row k id with
    | none => exact ⟨rfl, ⟨fun _ r hr => (by cases hr), fun _ r hr => (by cases hr)⟩⟩
    | some r => exact whole_row (h.core.row k id r hr) hT (hown id r hr)
  refine at_congr hI.core h.core ?_ (fun id => (hrow id).1) ?_
  · unfold St.look
    rw [commitAt_time]
    have := h.core.time
    rw [decide_eq_false (show ¬ x < 0 by omega), decide_eq_false (show ¬ (1099511627776 : Int) < x by omega), decide_eq_false (show ¬ T' < 0 by omega), decide_eq_false (show ¬ M.time < 0 by omega), decide_eq_false (show ¬ T' < T' by omega), decide_eq_false (show ¬ M.time < M.time by omega)]
    simp
  · rw [told_O, told_O]
    exact ⟨fun h1 id => (hrow id).2.1 (h1 id), fun h1 id => (hrow id).2.2 (h1 id)⟩
theorem whole_law {n : Nat} {M : St} (h : Inv n M) {x : Int} (hx : numB x = true) (ho : ∀ y, y ≠ x → M.lg y = []) (ht : M.time < 1099511627776) :
    (M.commitA x).2.2 = 0 ∧ (M.commitA x).2.1 = (M.commitA x).1.time ∧ ((M.commitA x).1.time = M.time ∨ (M.commitA x).1.time = M.time + 1) ∧
    (∀ k, (M.commitA x).1.atA k (M.commitA x).1.time 0 = M.atA k M.time x) ∧ ∀ k, ((M.commitA x).1.atA k M.time 0).2 = 26 ∨ (M.commitA x).1.atA k M.time 0 = M.atA k M.time 0 := by
  have hlat : ∀ k, ((M.commitA x).1.atA k M.time 0).2 = 26 ∨ (M.commitA x).1.atA k M.time 0 = M.atA k M.time 0 := fun k => Later.at h (h.commitA x) (Later.commitA h x (Int.le_refl _)) k
  refine ⟨?_, ?_, ?_, ?_, hlat⟩ <;> clear hlat <;> unfold St.commitA <;> rw [if_pos hx] <;> rcases commit_case M x with ⟨_, e⟩ | ⟨_, h2, e⟩ | ⟨_, h2, e⟩ <;> rw [e] <;> dsimp only <;> try omega
  · rw [commitAt_time]
  · rw [commitAt_time]
  · left; rw [commitAt_time]
  · right; rw [commitAt_time]
  · intro k; rw [commitAt_time]; exact whole_at h hx ho (Int.le_refl _) (by omega) k
  · intro k; rw [commitAt_time]; exact whole_at h hx ho (by omega) (by omega) k

/-! ### the numbers -/
def nextOf (M : St) (k : Key) : Int := ((aget M.tabs k).map Tab.next).getD 1
theorem nextOf_put {M : St} {k : Key} {t t' : Tab} (ht : aget M.tabs k = some t) (hn : t'.next = t.next) (T : Int) (d : List (Key × Int)) (L : List (Int × List Chg)) (k' : Key) : nextOf ⟨T, aput M.tabs k t', d, L⟩ k' = nextOf M k' := by
  unfold nextOf
  dsimp only
  by_cases e : k' = k
  · subst e; rw [aget_put_same, ht]; simp [hn]
  · rw [aget_put_other _ _ e]
theorem nextOf_putRow (M : St) (k : Key) (id : Int) (r : RowS) (k' : Key) : nextOf (M.putRow k id r) k' = nextOf M k' := by
  unfold St.putRow
  split
  · rfl
  · rename_i t ht; apply nextOf_put ht; rfl
theorem nextOf_delRow (M : St) (k : Key) (id : Int) (k' : Key) : nextOf (M.delRow k id) k' = nextOf M k' := by
  unfold St.delRow
  split
  · rfl
  · rename_i t ht; apply nextOf_put ht; rfl
theorem nextOf_set (M : St) (k : Key) (x id : Int) (v : Ver) (k' : Key) : nextOf (M.set k x id v) k' = nextOf M k' := by
  unfold St.set
  split
  · rfl
  · exact nextOf_putRow _ _ _ _ _
theorem nextOf_undo1 (M : St) (c : Chg) (k' : Key) : nextOf (M.undo1 c) k' = nextOf M k' := by
  unfold St.undo1
  split
  · split
    · rfl
    · split
      · exact nextOf_delRow _ _ _ _
      · exact nextOf_putRow _ _ _ _ _
  · rfl
theorem nextOf_undos (d : List Chg) : ∀ (M : St) (k' : Key), nextOf (d.foldl St.undo1 M) k' = nextOf M k' := by
  induction d with
  | nil => intro M k'; rfl
  | cons c d ih => intro M k'; rw [List.foldl_cons, ih, nextOf_undo1]
theorem nextOf_back (M : St) (x : Int) (m : Nat) (k' : Key) : nextOf (M.back x m) k' = nextOf M k' := nextOf_undos _ _ _
theorem nextOf_commit1 (M : St) (T : Int) (p : Key × Int) (k' : Key) : nextOf (M.commit1 T p) k' = nextOf M k' := by
  unfold St.commit1
  split
  · rfl
  · split
    · rfl
    · split
      · exact nextOf_delRow _ _ _ _
      · exact nextOf_putRow _ _ _ _ _
theorem nextOf_commits (T : Int) (l : List (Key × Int)) : ∀ (M : St) (k' : Key), nextOf (l.foldl (fun N p => N.commit1 T p) M) k' = nextOf M k' := by
  induction l with
  | nil => intro M k'; rfl
  | cons c d ih => intro M k'; rw [List.foldl_cons, ih, nextOf_commit1]
theorem nextOf_commitAt (M : St) (x T : Int) (k' : Key) : nextOf (M.commitAt x T) k' = nextOf M k' := nextOf_commits _ _ _ _
theorem nextOf_change (M : St) (k : Key) (x id : Int) (v : Ver) (k' : Key) : nextOf (M.change k x id v).1 k' = nextOf M k' := by
  unfold St.change
  split
  · rfl
  · split
    · rfl
    · split
      · exact nextOf_set _ _ _ _ _ _
      · rfl
theorem nextOf_other (M : St) (a : ActM) (ha : kindB a.op ≠ 0) (k' : Key) : nextOf (M.doA a).1 k' = nextOf M k' := by
  obtain ⟨h1, h2⟩ := kindB_range a.op
  have h3 : kindB a.op = 1 ∨ kindB a.op = 2 ∨ kindB a.op = 3 ∨ kindB a.op = 4 ∨ kindB a.op = 5 ∨ kindB a.op = 6 ∨ kindB a.op = 7 ∨ kindB a.op = 8 ∨ kindB a.op = 9 ∨ kindB a.op = 10 := by omega
  rcases h3 with e | e | e | e | e | e | e | e | e | e
  · rw [doA_1 M a e]
    dsimp only
    unfold St.putA
    split
    · exact nextOf_change _ _ _ _ _ _
    · rfl
  · rw [doA_2 M a e]
    dsimp only
    unfold St.delA
    split
    · exact nextOf_change _ _ _ _ _ _
    · rfl
  · rw [doA_3 M a e]
  · rw [doA_4 M a e]
    dsimp only
    unfold St.backA
    split
    · rfl
    · split
      · rfl
      · exact nextOf_back _ _ _ _
  · rw [doA_5 M a e]
    dsimp only
    unfold St.commitA
    split
    · rcases commit_case M a.txn with ⟨_, e⟩ | ⟨_, _, e⟩ | ⟨_, _, e⟩
      · rw [e]; exact nextOf_commitAt _ _ _ _
      · rw [e]
      · rw [e]; exact nextOf_commitAt _ _ _ _
    · rfl
  · rw [doA_6 M a e]
    dsimp only
    unfold St.abortA
    split
    · rfl
    · exact nextOf_back _ _ _ _
  · rw [doA_7 M a e]
  · rw [doA_8 M a e]
  · rw [doA_9 M a e]
  · rw [doA_10 M a e]
    dsimp only
    unfold St.dropA St.drop
    split
    · dsimp only
      split
      · rfl
      · rename_i t ht; apply nextOf_put ht; rfl
    · rfl
/-- An Add that goes well gives the next number. -/
theorem nextOf_add (M : St) (k : Key) (x : Int) (l : List Val) : ((M.addA k x l).2.2 = 0 ∧ (M.addA k x l).2.1 = nextOf M k ∧ ∀ k', nextOf (M.addA k x l).1 k' = if k' = k then nextOf M k + 1 else nextOf M k') ∨ ((M.addA k x l).2.2 ≠ 0 ∧ ∀ k', nextOf (M.addA k x l).1 k' = nextOf M k') := by
  unfold St.addA
  split
  · rcases add_case M k x l with e | ⟨_, _, e⟩
    · right; rw [e]; exact ⟨show (3 : Int) ≠ 0 by decide, fun _ => rfl⟩
    · left
      rw [e]
      refine ⟨rfl, ?_, fun k' => ?_⟩
      · unfold St.grow nextOf
        dsimp only
        cases aget M.tabs k <;> rfl
      · show nextOf (St.set _ _ _ _ _) k' = _
        rw [nextOf_set]
        unfold St.grow nextOf
        dsimp only
        split
        · rename_i e; subst e
          rw [aget_put_same]
          cases aget M.tabs k' <;> rfl
        · rename_i e; rw [aget_put_other _ _ e]
  · right
    exact ⟨show (2 : Int) ≠ 0 by decide, fun _ => rfl⟩
/-- Where the count of the rows stands. -/
structure Counts (M : St) (all : List (Key × Int)) : Prop where
  nodup : (all.map Prod.fst).Nodup
  next : ∀ k, nextOf M k = (aget all k).getD 0 + 1
theorem Counts.start : Counts St.empty [] := ⟨by simp, fun _ => rfl⟩
theorem Counts.other {M M' : St} {all : List (Key × Int)} (h : Counts M all) (hn : ∀ k, nextOf M' k = nextOf M k) : Counts M' all := ⟨h.nodup, fun k => (hn k).trans (h.next k)⟩
theorem Counts.add {M M' : St} {all : List (Key × Int)} (h : Counts M all) {k : Key} (hn : ∀ k', nextOf M' k' = if k' = k then nextOf M k + 1 else nextOf M k') : Counts M' (aput all k ((aget all k).getD 0 + 1)) := ⟨aput_nodup h.nodup _ _, fun k' => by
  rw [hn]
  split
  · rename_i e; subst e; rw [aget_put_same, h.next]; rfl
  · rename_i e; rw [aget_put_other _ _ e, h.next]⟩
end Go.Ju

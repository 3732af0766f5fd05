/- What is seen of a table, by its rows: two stores that agree on the rows answer At alike. Plain. -/
import Derived.Test.YthdnjokioboehaaGreatDoorInv
namespace Go.Ju
def visR (time txn : Int) (r : RowS) : Option (List Val) := match (r.at time txn).1 with
  | none => none
  | some v => if v.gone then none else some v.row
def St.vis (M : St) (k : Key) (time txn id : Int) : Option (List Val) := (M.row k id).bind (visR time txn)
def St.told (M : St) (k : Key) (time txn : Int) : Prop := ∀ id r, M.row k id = some r → (r.at time txn).2 = true
theorem heldF_vis (time txn : Int) (p : Int × RowS) : heldF time txn p = (visR time txn p.2).map fun l => (p.1, l) := by
  unfold heldF visR
  cases (p.2.at time txn).1 with
  | none => rfl
  | some v => cases hg : v.gone <;> simp [hg]
/-- The list of what is seen. -/
def seenL (t : Tab) (time txn : Int) : List (Int × List Val) := t.rows.filterMap (heldF time txn)
theorem mem_seenL {n : Nat} {t : Tab} (h : TabOK n t) {time txn : Int} {q : Int × List Val} : q ∈ seenL t time txn ↔ (aget t.rows q.1).bind (visR time txn) = some q.2 := by
  unfold seenL
  rw [List.mem_filterMap]
  constructor
  · rintro ⟨p, hp, hq⟩
    rw [heldF_vis, Option.map_eq_some_iff] at hq
    obtain ⟨l, hl, rfl⟩ := hq
    rw [aget_of_mem h.nodup (show (p.1, p.2) ∈ t.rows from hp)]
    exact hl
  · intro hq
    obtain ⟨r, hr, hl⟩ := Option.bind_eq_some_iff.1 hq
    exact ⟨(q.1, r), aget_mem hr, by rw [heldF_vis, hl]; rfl⟩
theorem seenL_sorted {n : Nat} {t : Tab} (h : TabOK n t) (time txn : Int) : ((seenL t time txn).map Prod.fst).Pairwise (· < ·) := by
  have h1 : ((seenL t time txn).map Prod.fst).Sublist (t.rows.map Prod.fst) := by
    unfold seenL
    have : ∀ l : List (Int × RowS), ((l.filterMap (heldF time txn)).map Prod.fst).Sublist (l.map Prod.fst) := fun l => by
      induction l with
      | nil => simp
      | cons p l ih =>
        rw [List.filterMap_cons, heldF_vis]
        cases visR time txn p.2 with
        | none => exact (ih.cons _)
        | some v => exact ih.cons_cons _
    exact this _
  exact List.Pairwise.sublist h1 h.sorted
theorem sorted_ext {l m : List (Int × List Val)} (hl : (l.map Prod.fst).Pairwise (· < ·)) (hm : (m.map Prod.fst).Pairwise (· < ·)) (h : ∀ q, q ∈ l ↔ q ∈ m) : l = m := by
  have hl' : l.Pairwise (fun a b => a.1 < b.1) := List.pairwise_map.1 hl
  have hm' : m.Pairwise (fun a b => a.1 < b.1) := List.pairwise_map.1 hm
  clear hl hm
  induction l generalizing m with
  | nil =>
    cases m with
    | nil => rfl
    | cons b m => have := (h b).2 (by simp); simp at this
  | cons a l ih =>
    cases m with
    | nil => have := (h a).1 (by simp); simp at this
    | cons b m =>
      obtain ⟨ha, hl2⟩ := List.pairwise_cons.1 hl'
      obtain ⟨hb, hm2⟩ := List.pairwise_cons.1 hm'
      have e : a = b := by
        rcases List.mem_cons.1 ((h a).1 (by simp)) with e | e
        · exact e
        · rcases List.mem_cons.1 ((h b).2 (by simp)) with e' | e'
          · exact e'.symm
          · have := ha b e'; have := hb a e; omega
      subst e
      congr 1
      refine ih (fun q => ?_) hl2 hm2
      constructor
      · intro hq
        rcases List.mem_cons.1 ((h q).1 (by simp [hq])) with e | e
        · subst e; have := ha q hq; omega
        · exact e
      · intro hq
        rcases List.mem_cons.1 ((h q).2 (by simp [hq])) with e | e
        · subst e; have := hb q hq; omega
        · exact e
theorem seen_told (t : Tab) (time txn : Int) : t.seenA time txn = if t.rows.all (fun p => (p.2.at time txn).2) then (seenL t time txn, 0) else ([], 26) := by
  unfold Tab.seenA
  rw [Tab.seen_eq]
  by_cases h : t.rows.all (fun p => (p.2.at time txn).2) = true
  · rw [if_pos h, if_pos h]; rfl
  · rw [if_neg h, if_neg h]
def noTab : Tab := ⟨[], 1⟩
/-- At, by the table or the empty one. -/
theorem atA_tab (M : St) (k : Key) (time txn : Int) : M.atA k time txn = if M.look k time txn ≠ 0 then ([], M.look k time txn) else ((aget M.tabs k).getD noTab).seenA time txn := by
  unfold St.atA
  split
  · rfl
  · cases aget M.tabs k <;> rfl
theorem tab_row (M : St) (k : Key) (id : Int) : M.row k id = aget ((aget M.tabs k).getD noTab).rows id := by
  unfold St.row
  cases aget M.tabs k <;> rfl
theorem noTab_ok (n : Nat) : TabOK n noTab := ⟨by simp [noTab], by simp [noTab], by simp [noTab], by simp [noTab]⟩
theorem InvC.tabD {n : Nat} {M : St} (h : InvC n M) (k : Key) : TabOK n ((aget M.tabs k).getD noTab) := by
  cases ha : aget M.tabs k with
  | none => exact noTab_ok n
  | some t => exact h.tab k t ha
theorem told_all {n : Nat} {M : St} (h : InvC n M) (k : Key) (time txn : Int) : ((aget M.tabs k).getD noTab).rows.all (fun p => (p.2.at time txn).2) = true ↔ M.told k time txn := by
  rw [List.all_eq_true]
  constructor
  · intro hA id r hr
    rw [tab_row] at hr
    exact hA (id, r) (aget_mem hr)
  · intro hT p hp
    exact hT p.1 p.2 (by rw [tab_row]; exact aget_of_mem (h.tabD k).nodup hp)
/-- Two stores that agree on what is seen of a table's rows. -/
theorem at_congr {n n' : Nat} {M M' : St} (h : InvC n M) (h' : InvC n' M') {k : Key} {time txn time' txn' : Int} (hl : M.look k time txn = M'.look k time' txn')
    (hv : ∀ id, M.vis k time txn id = M'.vis k time' txn' id) (ht : M.told k time txn ↔ M'.told k time' txn') : M.atA k time txn = M'.atA k time' txn' := by
  rw [atA_tab, atA_tab, ← hl]
  split
  · rfl
  · rw [seen_told, seen_told]
    have e : seenL ((aget M.tabs k).getD noTab) time txn = seenL ((aget M'.tabs k).getD noTab) time' txn' := by
      refine sorted_ext (seenL_sorted (h.tabD k) _ _) (seenL_sorted (h'.tabD k) _ _) fun q => ?_
      rw [mem_seenL (h.tabD k), mem_seenL (h'.tabD k)]
      have := hv q.1
      unfold St.vis at this
      rw [tab_row, tab_row] at this
      rw [this]
    by_cases hT : M.told k time txn
    · rw [if_pos ((told_all h k time txn).2 hT), if_pos ((told_all h' k time' txn').2 (ht.1 hT)), e]
    · rw [if_neg (fun e => hT ((told_all h k time txn).1 e)), if_neg (fun e => hT (ht.2 ((told_all h' k time' txn').1 e)))]
/-- .. where the second may not be able to tell any more. -/
theorem at_old {n n' : Nat} {M M' : St} (h : InvC n M) (h' : InvC n' M') {k : Key} {time txn time' txn' : Int} (hl : M.look k time txn = M'.look k time' txn')
    (hT : M.told k time txn) (hv : M'.told k time' txn' → ∀ id, M.vis k time txn id = M'.vis k time' txn' id) : (M'.atA k time' txn').2 = 26 ∨ M'.atA k time' txn' = M.atA k time txn := by
  by_cases hT' : M'.told k time' txn'
  · right
    exact (at_congr h h' hl (hv hT') ⟨fun _ => hT', fun _ => hT⟩).symm
  · rw [atA_tab, atA_tab, ← hl]
    split
    · right; rfl
    · left
      rw [seen_told, if_neg (fun e => hT' ((told_all h' k time' txn').1 e))]
end Go.Ju

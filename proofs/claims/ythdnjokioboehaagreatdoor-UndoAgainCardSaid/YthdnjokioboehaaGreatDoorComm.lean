/- Rows are committed in whatever order. No program in sight. -/
import Derived.Test.YthdnjokioboehaaGreatDoorCommitR
namespace Go.Ju

section
variable {κ β : Type} [DecidableEq κ]
theorem aput_old {l : List (κ × β)} {k : κ} (v : β) (h : k ∈ l.map Prod.fst) : aput l k v = l.map (fun p => if p.1 = k then (k, v) else p) := by unfold aput; rw [if_pos h]
theorem aput_comm {l : List (κ × β)} {k k' : κ} (a b : β) (h : k ∈ l.map Prod.fst) (h' : k' ∈ l.map Prod.fst) (hne : k ≠ k') : aput (aput l k a) k' b = aput (aput l k' b) k a := by
  rw [aput_old b (l := aput l k a) (by rw [aput_keys_old a h]; exact h'), aput_old a (l := aput l k' b) (by rw [aput_keys_old b h']; exact h), aput_old a h, aput_old b h', List.map_map, List.map_map]
  apply List.map_congr_left
  intro p _
  simp only [Function.comp]
  by_cases e : p.1 = k
  · have : ¬ p.1 = k' := fun e' => hne (e.symm.trans e')
    simp [e, hne]
  · by_cases e' : p.1 = k'
    · simp [e', Ne.symm hne]
    · simp [e, e']
theorem adel_comm (l : List (κ × β)) (k k' : κ) : adel (adel l k) k' = adel (adel l k') k := by
  unfold adel
  rw [List.filter_filter, List.filter_filter]
  congr 1
  funext p
  exact Bool.and_comm _ _
theorem adel_keys {l : List (κ × β)} {k k' : κ} (h : k ∈ l.map Prod.fst) (hne : k ≠ k') : k ∈ (adel l k').map Prod.fst := by
  obtain ⟨p, hp, rfl⟩ := List.mem_map.1 h
  exact List.mem_map_of_mem (List.mem_filter.2 ⟨hp, by simpa using hne⟩)
theorem adel_aput {l : List (κ × β)} {k k' : κ} (a : β) (h : k ∈ l.map Prod.fst) (hne : k ≠ k') : adel (aput l k a) k' = aput (adel l k') k a := by
  rw [aput_old a h, aput_old a (adel_keys h hne)]
  unfold adel
  rw [List.filter_map]
  congr 1
  apply List.filter_congr
  intro p _
  simp only [Function.comp]
  by_cases e : p.1 = k
  · simp [e]
  · simp [e]
end

/-- What a commit makes of a table's rows; none: nothing. -/
def rowsStep (T : Int) (id : Int) (l : List (Int × RowS)) : Option (List (Int × RowS)) := match aget l id with
  | none => none
  | some r => match r.opn with
    | none => none
    | some v => some (if v.gone && r.old.isEmpty then adel l id else aput l id (r.commit v T))
theorem commit1_eq (M : St) (T : Int) (k : Key) (id : Int) : M.commit1 T (k, id) = match aget M.tabs k with
    | none => M
    | some t => match rowsStep T id t.rows with
      | none => M
      | some l => { M with tabs := aput M.tabs k { t with rows := l } } := by
  unfold St.commit1 St.row rowsStep
  cases ht : aget M.tabs k with
  | none => simp
  | some t =>
    cases hr : aget t.rows id with
    | none => simp [hr]
    | some r =>
      cases ho : r.opn with
      | none => simp [hr, ho]
      | some v =>
        by_cases hd : (v.gone && r.old.isEmpty) = true
        · simp [hr, ho, hd, St.delRow, ht]
        · simp [hr, ho, hd, St.putRow, ht, Tab.putRow]
theorem rowsStep_other {T : Int} {id id' : Int} {l l' : List (Int × RowS)} (h : rowsStep T id l = some l') (hne : id' ≠ id) : aget l' id' = aget l id' := by
  unfold rowsStep at h
  split at h
  · cases h
  · split at h
    · cases h
    · injection h with h
      subst h
      split
      · exact aget_del_other _ hne
      · exact aget_put_other _ _ hne
theorem rowsStep_none {T : Int} {id id' : Int} {l l' : List (Int × RowS)} (h : rowsStep T id l = some l') (h' : rowsStep T id' l = none) (hne : id' ≠ id) : rowsStep T id' l' = none := by
  have h1 := rowsStep_other h hne
  unfold rowsStep at h' ⊢
  rw [h1]
  cases hr : aget l id' with
  | none => rfl
  | some r =>
    rw [hr] at h'
    dsimp only at h' ⊢
    cases ho : r.opn with
    | none => rfl
    | some v => rw [ho] at h'; cases h'
/-- Two rows of one table. -/
theorem rowsStep_comm {T : Int} {id id' : Int} {l a b : List (Int × RowS)} (ha : rowsStep T id l = some a) (hb : rowsStep T id' l = some b) (hne : id ≠ id') : ∃ c, rowsStep T id' a = some c ∧ rowsStep T id b = some c := by
  have h1 := rowsStep_other ha (Ne.symm hne)
  have h2 := rowsStep_other hb hne
  unfold rowsStep at ha hb ⊢
  rw [h1, h2]
  cases hr : aget l id with
  | none => rw [hr] at ha; cases ha
  | some r =>
    rw [hr] at ha
    cases hr' : aget l id' with
    | none => rw [hr'] at hb; cases hb
    | some r' =>
      rw [hr'] at hb
      have k1 : id ∈ l.map Prod.fst := aget_isSome.1 (by rw [hr]; rfl)
      have k2 : id' ∈ l.map Prod.fst := aget_isSome.1 (by rw [hr']; rfl)
      dsimp only at ha hb ⊢
      cases ho : r.opn with
      | none => rw [ho] at ha; cases ha
      | some v =>
        rw [ho] at ha
        cases ho' : r'.opn with
        | none => rw [ho'] at hb; cases hb
        | some v' =>
          rw [ho'] at hb
          injection ha with ha
          injection hb with hb
          subst ha
          subst hb
          refine ⟨_, rfl, ?_⟩
          congr 1
          by_cases d1 : (v.gone && r.old.isEmpty) = true <;> by_cases d2 : (v'.gone && r'.old.isEmpty) = true
          · simp only [if_pos d1, if_pos d2]
            exact congrArg some (adel_comm l id' id)
          · simp only [if_pos d1, if_neg d2]
            exact congrArg some (adel_aput _ k2 (Ne.symm hne))
          · simp only [if_neg d1, if_pos d2]
            exact congrArg some (adel_aput _ k1 hne).symm
          · simp only [if_neg d1, if_neg d2]
            exact congrArg some (aput_comm _ _ k2 k1 (Ne.symm hne))
theorem commit1_comm (M : St) (T : Int) (p q : Key × Int) : (M.commit1 T p).commit1 T q = (M.commit1 T q).commit1 T p := by
  obtain ⟨k, id⟩ := p
  obtain ⟨k', id'⟩ := q
  by_cases hkk : k = k'
  · subst hkk
    by_cases hii : id = id'
    · subst hii; rfl
    · simp only [commit1_eq]
      cases ht : aget M.tabs k with
      | none => simp [ht]
      | some t =>
        dsimp only
        cases ha : rowsStep T id t.rows with
        | none =>
          cases hb : rowsStep T id' t.rows with
          | none => simp [ht, ha, hb]
          | some b =>
            have : rowsStep T id b = none := rowsStep_none hb ha hii
            simp [ht, hb, aget_put_same, this]
        | some a =>
          cases hb : rowsStep T id' t.rows with
          | none =>
            have : rowsStep T id' a = none := rowsStep_none ha hb (Ne.symm hii)
            simp [ht, ha, aget_put_same, this]
          | some b =>
            obtain ⟨c, h1, h2⟩ := rowsStep_comm ha hb hii
            simp [aget_put_same, h1, h2, aput_aput]
  · simp only [commit1_eq]
    cases ht : aget M.tabs k with
    | none =>
      cases aget M.tabs k' with
      | none => simp [ht]
      | some t' =>
        dsimp only
        cases rowsStep T id' t'.rows with
        | none => simp [ht]
        | some b => simp [aget_put_other _ _ hkk, ht]
    | some t =>
      cases ht' : aget M.tabs k' with
      | none =>
        dsimp only
        cases ha : rowsStep T id t.rows with
        | none => simp [ht, ht', ha]
        | some a => simp [aget_put_other _ _ (Ne.symm hkk), ht, ht', ha]
      | some t' =>
        dsimp only
        cases ha : rowsStep T id t.rows with
        | none =>
          cases hb : rowsStep T id' t'.rows with
          | none => simp [ht, ht', ha, hb]
          | some b => simp [aget_put_other _ _ hkk, ht, ht', ha, hb]
        | some a =>
          cases hb : rowsStep T id' t'.rows with
          | none => simp [aget_put_other _ _ (Ne.symm hkk), ht, ht', ha, hb]
          | some b =>
            have k1 : k ∈ M.tabs.map Prod.fst := aget_isSome.1 (by rw [ht]; rfl)
            have k2 : k' ∈ M.tabs.map Prod.fst := aget_isSome.1 (by rw [ht']; rfl)
            simp [aget_put_other _ _ hkk, aget_put_other _ _ (Ne.symm hkk), ht, ht', ha, hb]
            exact aput_comm _ _ k1 k2 hkk
/-- The order in which rows are committed does not matter. -/
theorem commits_perm {T : Int} {l l' : List (Key × Int)} (h : l.Perm l') (M : St) : l.foldl (fun N p => N.commit1 T p) M = l'.foldl (fun N p => N.commit1 T p) M :=
  h.foldl_eq' (fun p _ q _ N => commit1_comm N T p q) M
end Go.Ju

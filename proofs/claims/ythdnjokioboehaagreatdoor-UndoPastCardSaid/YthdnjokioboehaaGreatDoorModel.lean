/- The store as plain data, and what its calls do to it. No program in sight. -/
import Derived.Test.YthdnjokioboehaaGreatDoorKeys
namespace Go.Ju

/-! ### lists of pairs -/
section
variable {κ β : Type} [DecidableEq κ]
def aget (l : List (κ × β)) (k : κ) : Option β := (l.find? fun p => decide (p.1 = k)).map Prod.snd
def aput (l : List (κ × β)) (k : κ) (v : β) : List (κ × β) := if k ∈ l.map Prod.fst then l.map (fun p => if p.1 = k then (k, v) else p) else l ++ [(k, v)]
def adel (l : List (κ × β)) (k : κ) : List (κ × β) := l.filter fun p => decide (p.1 ≠ k)

theorem aget_none {l : List (κ × β)} {k : κ} : aget l k = none ↔ k ∉ l.map Prod.fst := by
  unfold aget
  simp only [Option.map_eq_none_iff, List.find?_eq_none, decide_eq_true_eq, List.mem_map, not_exists, not_and]
theorem aget_mem {l : List (κ × β)} {k : κ} {v : β} (h : aget l k = some v) : (k, v) ∈ l := by
  unfold aget at h
  simp only [Option.map_eq_some_iff] at h
  obtain ⟨p, hp, rfl⟩ := h
  have h1 := List.mem_of_find?_eq_some hp
  have h2 := List.find?_some hp
  simp only [decide_eq_true_eq] at h2
  rw [← h2]
  exact h1
theorem aget_of_mem {l : List (κ × β)} (hn : (l.map Prod.fst).Nodup) {k : κ} {v : β} (h : (k, v) ∈ l) : aget l k = some v := by
  induction l with
  | nil => simp at h
  | cons p r ih =>
    obtain ⟨pk, pv⟩ := p
    simp only [List.map_cons, List.nodup_cons] at hn
    rcases List.mem_cons.1 h with e | e
    · cases e
      simp [aget]
    · have hne : pk ≠ k := fun e' => hn.1 (by rw [e']; exact List.mem_map_of_mem (f := Prod.fst) e)
      have := ih hn.2 e
      unfold aget at this ⊢
      rw [List.find?_cons]
      simp only [hne, decide_false]
      exact this
theorem aget_some_iff {l : List (κ × β)} (hn : (l.map Prod.fst).Nodup) {k : κ} {v : β} : aget l k = some v ↔ (k, v) ∈ l := ⟨aget_mem, aget_of_mem hn⟩
theorem aget_isSome {l : List (κ × β)} {k : κ} : (aget l k).isSome = true ↔ k ∈ l.map Prod.fst := by
  rw [← Decidable.not_iff_not, ← aget_none]
  cases aget l k <;> simp
theorem aput_keys_old {l : List (κ × β)} {k : κ} (v : β) (h : k ∈ l.map Prod.fst) : (aput l k v).map Prod.fst = l.map Prod.fst := by
  unfold aput
  rw [if_pos h, List.map_map]
  apply List.map_congr_left
  intro p _
  simp only [Function.comp]
  split
  · rename_i e; exact e.symm
  · rfl
theorem aput_keys_new {l : List (κ × β)} {k : κ} (v : β) (h : k ∉ l.map Prod.fst) : (aput l k v).map Prod.fst = l.map Prod.fst ++ [k] := by
  unfold aput
  rw [if_neg h]
  simp
theorem aput_nodup {l : List (κ × β)} (hn : (l.map Prod.fst).Nodup) (k : κ) (v : β) : ((aput l k v).map Prod.fst).Nodup := by
  by_cases h : k ∈ l.map Prod.fst
  · rw [aput_keys_old v h]; exact hn
  · rw [aput_keys_new v h, List.nodup_append]
    exact ⟨hn, by simp, fun a ha b hb => by simp only [List.mem_cons, List.not_mem_nil, or_false] at hb; subst hb; exact fun e => h (e ▸ ha)⟩
theorem find_map_put (l : List (κ × β)) (k k' : κ) (v : β) : ((l.map fun p => if p.1 = k then (k, v) else p).find? fun p => decide (p.1 = k')) = (l.find? fun p => decide (p.1 = k')).map fun p => if p.1 = k then (k, v) else p := by
  rw [List.find?_map]
  congr 1
  congr 1
  funext p
  simp only [Function.comp]
  split
  · rename_i e; rw [e]
  · rfl
theorem aget_put_same (l : List (κ × β)) (k : κ) (v : β) : aget (aput l k v) k = some v := by
  unfold aput
  split
  · rename_i h
    unfold aget
    rw [find_map_put]
    obtain ⟨p, hp, hk⟩ := List.mem_map.1 h
    cases hf : l.find? (fun p => decide (p.1 = k)) with
    | none =>
      rw [List.find?_eq_none] at hf
      exact absurd (by simpa using hk) (hf p hp)
    | some q =>
      have := List.find?_some hf
      simp only [decide_eq_true_eq] at this
      simp [this]
  · rename_i h
    unfold aget
    rw [List.find?_append]
    have : l.find? (fun p => decide (p.1 = k)) = none := by
      rw [List.find?_eq_none]
      intro p hp
      simp only [decide_eq_true_eq]
      exact fun e => h (by rw [← e]; exact List.mem_map_of_mem hp)
    rw [this]
    simp
theorem aget_put_other (l : List (κ × β)) {k k' : κ} (v : β) (hne : k' ≠ k) : aget (aput l k v) k' = aget l k' := by
  unfold aput
  split
  · unfold aget
    rw [find_map_put]
    cases hf : l.find? (fun p => decide (p.1 = k')) with
    | none => rfl
    | some q =>
      have := List.find?_some hf
      simp only [decide_eq_true_eq] at this
      simp [this, hne]
  · unfold aget
    rw [List.find?_append]
    cases hf : l.find? (fun p => decide (p.1 = k')) with
    | none => simp [Ne.symm hne]
    | some q => simp
theorem aget_del_same (l : List (κ × β)) (k : κ) : aget (adel l k) k = none := by
  rw [aget_none]
  unfold adel
  simp only [List.mem_map, List.mem_filter, decide_eq_true_eq, not_exists, not_and]
  rintro p ⟨_, h⟩ e
  exact h e
theorem aget_del_other (l : List (κ × β)) {k k' : κ} (hne : k' ≠ k) : aget (adel l k) k' = aget l k' := by
  unfold aget adel
  rw [List.find?_filter]
  congr 1
  congr 1
  funext p
  by_cases h : p.1 = k'
  · simp [h, hne]
  · simp [h]
theorem adel_nodup {l : List (κ × β)} (hn : (l.map Prod.fst).Nodup) (k : κ) : ((adel l k).map Prod.fst).Nodup := (List.Sublist.map _ List.filter_sublist).nodup hn
theorem mem_aput {l : List (κ × β)} {k : κ} {v : β} {p : κ × β} (h : p ∈ aput l k v) : p = (k, v) ∨ (p ∈ l ∧ p.1 ≠ k) := by
  unfold aput at h
  split at h
  · obtain ⟨q, hq, rfl⟩ := List.mem_map.1 h
    split
    · exact .inl rfl
    · exact .inr ⟨hq, by assumption⟩
  · rename_i hn
    rcases List.mem_append.1 h with h | h
    · exact .inr ⟨h, fun e => hn (by rw [← e]; exact List.mem_map_of_mem h)⟩
    · exact .inl (by simpa using h)
theorem mem_adel {l : List (κ × β)} {k : κ} {p : κ × β} (h : p ∈ adel l k) : p ∈ l ∧ p.1 ≠ k := by
  unfold adel at h
  simpa using List.mem_filter.1 h
theorem aput_length_le (l : List (κ × β)) (k : κ) (v : β) : (aput l k v).length ≤ l.length + 1 := by
  unfold aput
  split
  · simp
  · simp
end

/-! ### the store -/
structure Ver where
  time : Int
  gone : Bool
  row : List Val
  deriving Inhabited
structure RowS where
  old : List Ver
  lost : Bool
  opn : Option Ver
  txn : Int
  deriving Inhabited
structure Tab where
  rows : List (Int × RowS)
  next : Int
  deriving Inhabited
structure Chg where
  key : Key
  drops : Int
  id : Int
  before : Option Ver
  deriving Inhabited
structure St where
  time : Int
  tabs : List (Key × Tab)
  drops : List (Key × Int)
  log : List (Int × List Chg)
  deriving Inhabited

def St.empty : St := ⟨0, [], [], []⟩
def there (v : Option Ver) : Bool := match v with | none => false | some x => !x.gone
def RowS.last (r : RowS) : Option Ver := r.old.getLast?
def RowS.mine (r : RowS) (txn : Int) : Bool := r.opn.isSome && decide (r.txn = txn)
def RowS.now (r : RowS) (txn : Int) : Option Ver := if r.mine txn then r.opn else r.last
def RowS.seenOld (r : RowS) (time : Int) : Option Ver := r.old.reverse.find? fun v => decide (v.time ≤ time)
/-- What a transaction sees of a row; whether it can be told. -/
def RowS.at (r : RowS) (time txn : Int) : Option Ver × Bool :=
  if r.mine txn then (r.opn, true) else match r.seenOld time with
    | some v => (some v, true)
    | none => (none, !r.lost)
def RowS.counts (r : RowS) (txn : Int) : Bool := there r.opn || (!r.mine txn && there r.last)
def Tab.full (t : Tab) (txn : Int) : Bool := decide (500 ≤ t.rows.countP fun p => p.2.counts txn)
def St.lg (M : St) (txn : Int) : List Chg := (aget M.log txn).getD []
def St.dr (M : St) (k : Key) : Int := (aget M.drops k).getD 0
def St.row (M : St) (k : Key) (id : Int) : Option RowS := (aget M.tabs k).bind fun t => aget t.rows id
def Tab.putRow (t : Tab) (id : Int) (r : RowS) : Tab := { t with rows := aput t.rows id r }
def St.putRow (M : St) (k : Key) (id : Int) (r : RowS) : St := match aget M.tabs k with
  | none => M
  | some t => { M with tabs := aput M.tabs k (t.putRow id r) }
def St.delRow (M : St) (k : Key) (id : Int) : St := match aget M.tabs k with
  | none => M
  | some t => { M with tabs := aput M.tabs k { t with rows := adel t.rows id } }
/-- set: a row that is there gets an open version. -/
def St.set (M : St) (k : Key) (txn id : Int) (v : Ver) : St := match M.row k id with
  | none => M
  | some r => ({ M with log := aput M.log txn (M.lg txn ++ [(⟨k, M.dr k, id, r.opn⟩ : Chg)]) } : St).putRow k id { r with opn := some v, txn := txn }
/-- The row that Add lays before it gets its version. -/
def St.grow (M : St) (k : Key) : St × Int :=
  let t := (aget M.tabs k).getD ⟨[], 1⟩
  ({ M with tabs := aput M.tabs k ⟨aput t.rows t.next ⟨[], false, none, 0⟩, t.next + 1⟩ }, t.next)
def St.add (M : St) (k : Key) (txn : Int) (row : List Val) : St × Int × Int :=
  if (match aget M.tabs k with | none => false | some t => t.full txn || decide (t.next = 1099511627776)) = true then (M, 0, 3)
  else ((M.grow k).1.set k txn (M.grow k).2 ⟨0, false, row⟩, (M.grow k).2, 0)
def St.change (M : St) (k : Key) (txn id : Int) (v : Ver) : St × Int := match M.row k id with
  | none => (M, 4)
  | some r => if r.opn.isSome && decide (r.txn ≠ txn) then (M, 27) else if there (r.now txn) then (M.set k txn id v, 0) else (M, 4)
def St.undo1 (M : St) (c : Chg) : St := if c.drops = M.dr c.key then match M.row c.key c.id with
  | none => M
  | some r => if c.before.isNone && r.old.isEmpty then M.delRow c.key c.id else M.putRow c.key c.id { r with opn := c.before }
  else M
def St.back (M : St) (txn : Int) (mark : Nat) : St :=
  let M' := ((M.lg txn).drop mark).reverse.foldl St.undo1 M
  { M' with log := aput M'.log txn ((M.lg txn).take mark) }
/-- Each element once. -/
def uniq {α : Type} [DecidableEq α] : List α → List α
  | [] => []
  | a :: l => a :: (uniq l).filter fun b => decide (b ≠ a)
theorem mem_uniq {α : Type} [DecidableEq α] {l : List α} {x : α} : x ∈ uniq l ↔ x ∈ l := by
  induction l with
  | nil => simp [uniq]
  | cons a l ih =>
    simp only [uniq, List.mem_cons, List.mem_filter, ih, decide_eq_true_eq]
    by_cases e : x = a
    · simp [e]
    · simp [e]
theorem nodup_uniq {α : Type} [DecidableEq α] (l : List α) : (uniq l).Nodup := by
  induction l with
  | nil => simp [uniq]
  | cons a l ih =>
    simp only [uniq, List.nodup_cons, List.mem_filter, decide_eq_true_eq]
    exact ⟨fun h => h.2 rfl, List.filter_sublist.nodup ih⟩
def St.touched (M : St) (txn : Int) : List (Key × Int) :=
  uniq (((M.lg txn).filter fun c => decide (c.drops = M.dr c.key) && match M.row c.key c.id with | none => false | some r => r.opn.isSome).map fun c => (c.key, c.id))
def RowS.commit (r : RowS) (v : Ver) (time : Int) : RowS :=
  let l := r.old ++ [{ v with time := time }]
  if 6 < l.length then { r with old := l.drop (l.length - 6), lost := true, opn := none } else { r with old := l, opn := none }
def St.commit1 (M : St) (time : Int) (p : Key × Int) : St := match M.row p.1 p.2 with
  | none => M
  | some r => match r.opn with
    | none => M
    | some v => if v.gone && r.old.isEmpty then M.delRow p.1 p.2 else M.putRow p.1 p.2 (r.commit v time)
def St.commit (M : St) (txn : Int) : St × Int × Int :=
  if M.touched txn = [] then ({ M with log := adel M.log txn }, M.time, 0)
  else if M.time = 1099511627776 then (M, 0, 3)
  else
    let M' := (M.touched txn).foldl (fun N p => N.commit1 (M.time + 1) p) { M with time := M.time + 1 }
    ({ M' with log := adel M'.log txn }, M.time + 1, 0)
def St.drop (M : St) (k : Key) : St := match aget M.tabs k with
  | none => M
  | some t => { M with tabs := aput M.tabs k { t with rows := [] }, drops := aput M.drops k (M.dr k + 1) }
/-- What is seen of a table; none: it cannot be told. -/
def Tab.seen (t : Tab) (time txn : Int) : Option (List (Int × List Val)) :=
  if t.rows.all (fun p => (p.2.at time txn).2) then some (t.rows.filterMap fun p => match (p.2.at time txn).1 with
    | none => none
    | some v => if v.gone then none else some (p.1, v.row))
  else none
end Go.Ju

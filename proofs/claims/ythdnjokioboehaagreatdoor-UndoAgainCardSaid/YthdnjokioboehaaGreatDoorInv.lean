/- The store's invariant: logs and open versions fit. Plain: no program in sight. -/
import Derived.Test.YthdnjokioboehaaGreatDoorSeen
import Derived.Test.YthdnjokioboehaaGreatDoorCommit
namespace Go.Ju

/-! ### what is looked at -/
theorem lg_put (M : St) (x x' : Int) (l : List Chg) : ({ M with log := aput M.log x l } : St).lg x' = if x' = x then l else M.lg x' := by
  unfold St.lg
  dsimp only
  split
  · rename_i e; rw [e, aget_put_same]; rfl
  · rename_i e; rw [aget_put_other _ _ e]
theorem lg_del (M : St) (x x' : Int) : ({ M with log := adel M.log x } : St).lg x' = if x' = x then [] else M.lg x' := by
  unfold St.lg
  dsimp only
  split
  · rename_i e; rw [e, aget_del_same]; rfl
  · rename_i e; rw [aget_del_other _ e]
theorem row_tab {M : St} {k : Key} {t : Tab} (h : aget M.tabs k = some t) (id : Int) : M.row k id = aget t.rows id := by unfold St.row; rw [h]; rfl
theorem row_some {M : St} {k : Key} {id : Int} {r : RowS} (h : M.row k id = some r) : ∃ t, aget M.tabs k = some t ∧ aget t.rows id = some r := by
  unfold St.row at h
  cases ht : aget M.tabs k with
  | none => rw [ht] at h; cases h
  | some t => rw [ht] at h; exact ⟨t, rfl, h⟩
theorem row_tabs (M : St) (k : Key) (t : Tab) (k' : Key) (id' : Int) (L : List (Int × List Chg)) (d : List (Key × Int)) (T : Int) : (⟨T, aput M.tabs k t, d, L⟩ : St).row k' id' = if k' = k then aget t.rows id' else M.row k' id' := by
  unfold St.row
  dsimp only
  split
  · rename_i e; rw [e, aget_put_same]; rfl
  · rename_i e; rw [aget_put_other _ _ e]
theorem putRow_eq {M : St} {k : Key} {t : Tab} (h : aget M.tabs k = some t) (id : Int) (r : RowS) : M.putRow k id r = { M with tabs := aput M.tabs k (t.putRow id r) } := by unfold St.putRow; rw [h]
theorem delRow_eq {M : St} {k : Key} {t : Tab} (h : aget M.tabs k = some t) (id : Int) : M.delRow k id = { M with tabs := aput M.tabs k { t with rows := adel t.rows id } } := by unfold St.delRow; rw [h]
theorem row_putRow {M : St} {k : Key} {t : Tab} (h : aget M.tabs k = some t) (id : Int) (r : RowS) (k' : Key) (id' : Int) : (M.putRow k id r).row k' id' = if k' = k ∧ id' = id then some r else M.row k' id' := by
  rw [putRow_eq h, row_tabs]
  unfold Tab.putRow
  dsimp only
  by_cases e : k' = k
  · subst e
    rw [if_pos rfl]
    by_cases e' : id' = id
    · subst e'; rw [if_pos ⟨rfl, rfl⟩, aget_put_same]
    · rw [if_neg (fun x => e' x.2), aget_put_other _ _ e', row_tab h]
  · rw [if_neg e, if_neg (fun x => e x.1)]
theorem row_delRow {M : St} {k : Key} {t : Tab} (h : aget M.tabs k = some t) (id : Int) (k' : Key) (id' : Int) : (M.delRow k id).row k' id' = if k' = k ∧ id' = id then none else M.row k' id' := by
  rw [delRow_eq h, row_tabs]
  dsimp only
  by_cases e : k' = k
  · subst e
    rw [if_pos rfl]
    by_cases e' : id' = id
    · subst e'; rw [if_pos ⟨rfl, rfl⟩, aget_del_same]
    · rw [if_neg (fun x => e' x.2), aget_del_other _ e', row_tab h]
  · rw [if_neg e, if_neg (fun x => e x.1)]

/-! ### the invariant -/
def openBy (M : St) (x : Int) (k : Key) (id : Int) : Prop := ∃ r, M.row k id = some r ∧ r.opn.isSome = true ∧ r.txn = x
def liveB (d : Int) (k : Key) (id : Int) (c : Chg) : Bool := decide (c.key = k) && decide (c.id = id) && decide (c.drops = d)
def live (M : St) (l : List Chg) (k : Key) (id : Int) : List Chg := l.filter (liveB (M.dr k) k id)
structure Chain (M : St) (x : Int) (l : List Chg) : Prop where
  nth : ∀ k id i c, (live M l k id)[i]? = some c → (c.before.isSome = true ↔ 0 < i)
  opn : ∀ k id, live M l k id ≠ [] ↔ openBy M x k id
structure RowOK (T : Int) (r : RowS) : Prop where
  old : r.old.length ≤ 6
  short : ∀ v, v ∈ r.old ∨ r.opn = some v → v.row.length ≤ 20
  times : ∀ v, v ∈ r.old → 0 ≤ v.time ∧ v.time ≤ T
  lost : r.lost = true → r.old ≠ []
structure TabOK (n : Nat) (t : Tab) : Prop where
  len : t.rows.length ≤ n
  next : 1 ≤ t.next ∧ t.next ≤ 1099511627776
  sorted : (t.rows.map Prod.fst).Pairwise (· < ·)
  ids : ∀ i, i ∈ t.rows.map Prod.fst → 1 ≤ i ∧ i < t.next
structure ChgOK (M : St) (c : Chg) : Prop where
  id : 1 ≤ c.id ∧ c.id ≤ 1099511627776
  drops : c.drops ≤ M.dr c.key
  short : ∀ v, c.before = some v → v.row.length ≤ 20
structure InvC (n : Nat) (M : St) : Prop where
  logs : ∀ x, (M.lg x).length ≤ n
  tab : ∀ k t, aget M.tabs k = some t → TabOK n t
  time : 0 ≤ M.time ∧ M.time ≤ 1099511627776
  tabs : M.tabs.length ≤ n
  drops : ∀ k, 0 ≤ M.dr k ∧ M.dr k ≤ n
  nodupT : (M.tabs.map Prod.fst).Nodup
  nodupD : (M.drops.map Prod.fst).Nodup
  nodupL : (M.log.map Prod.fst).Nodup
  row : ∀ k id r, M.row k id = some r → RowOK M.time r
  chg : ∀ x c, c ∈ M.lg x → ChgOK M c
  num : ∀ x, M.lg x ≠ [] → numB x = true
  chain : ∀ x, Chain M x (M.lg x)
/-- No row without versions. -/
def Full (M : St) : Prop := ∀ k id r, M.row k id = some r → r.old ≠ [] ∨ r.opn.isSome = true
structure Inv (n : Nat) (M : St) : Prop where
  core : InvC n M
  full : Full M

theorem TabOK.nodup {n : Nat} {t : Tab} (h : TabOK n t) : (t.rows.map Prod.fst).Nodup := h.sorted.imp (fun h => by omega)
theorem InvC.fit {n : Nat} {M : St} (h : InvC n M) : Fit n M where
  logs x l hx := by
    have := h.logs x
    unfold St.lg at this
    rw [aget_of_mem h.nodupL hx] at this
    exact this
  rows k t hk := (h.tab k t (aget_of_mem h.nodupT hk)).len
  next k t hk := (h.tab k t (aget_of_mem h.nodupT hk)).next
  old k t hk i r hr := by
    have hk' := aget_of_mem h.nodupT hk
    exact (h.row k i r (by rw [row_tab hk']; exact aget_of_mem (h.tab k t hk').nodup hr)).old
  time := h.time
  tabs := h.tabs
  drops k d hk := by
    have := h.drops k
    unfold St.dr at this
    rw [aget_of_mem h.nodupD hk] at this
    exact this
theorem InvC.reads {n : Nat} {M : St} (h : InvC n M) : Reads M where
  sorted k t hk := (h.tab k t (aget_of_mem h.nodupT hk)).sorted
  fit k t hk i r v hr hv := by
    have hk' := aget_of_mem h.nodupT hk
    have := (h.row k i r (by rw [row_tab hk']; exact aget_of_mem (h.tab k t hk').nodup hr)).short v hv
    omega
theorem live_mem {M : St} {l : List Chg} {k : Key} {id : Int} {c : Chg} : c ∈ live M l k id ↔ c ∈ l ∧ c.key = k ∧ c.id = id ∧ c.drops = M.dr k := by
  unfold live liveB
  rw [List.mem_filter]
  simp only [Bool.and_eq_true, decide_eq_true_eq]
  constructor
  · rintro ⟨h, ⟨h1, h2⟩, h3⟩; exact ⟨h, h1, h2, h3⟩
  · rintro ⟨h, h1, h2, h3⟩; exact ⟨h, ⟨h1, h2⟩, h3⟩
theorem Chain.row {M : St} {x : Int} {l : List Chg} (h : Chain M x l) {c : Chg} (hc : c ∈ l) (hd : c.drops = M.dr c.key) : openBy M x c.key c.id :=
  (h.opn c.key c.id).1 (List.ne_nil_of_mem (live_mem.2 ⟨hc, rfl, rfl, hd⟩))
theorem InvC.logFit {n : Nat} {M : St} (h : InvC n M) (x : Int) : LogFit M x :=
  ⟨fun c hc hd => by
    obtain ⟨r, hr, _⟩ := (h.chain x).row hc hd
    obtain ⟨t, ht, _⟩ := row_some hr
    exact ⟨t, ht⟩, fun c hc => okI_of (by have := (h.chg x c hc).id; omega) (by have := (h.chg x c hc).id; omega)⟩

/-! ### the empty store -/
theorem Inv.empty : Inv 0 St.empty := by
  have hl : ∀ x, St.empty.lg x = [] := fun x => rfl
  have hr : ∀ k id, St.empty.row k id = none := fun k id => rfl
  refine ⟨⟨fun x => by simp [hl], fun k t h => by simp [St.empty, aget] at h, by simp [St.empty], by simp [St.empty], fun k => by simp [St.dr, St.empty, aget], by simp [St.empty], by simp [St.empty], by simp [St.empty], fun k id r h => (by rw [hr] at h; cases h), fun x c h => (by rw [hl] at h; simp at h), fun x h => absurd (hl x) h, fun x => ⟨fun k id i c h => by simp [live, hl] at h, fun k id => ?_⟩⟩, fun k id r h => (by rw [hr] at h; cases h)⟩
  constructor
  · intro h; simp [live, hl] at h
  · rintro ⟨r, h, _⟩; rw [hr] at h; cases h
theorem InvC.mono {n m : Nat} {M : St} (h : InvC n M) (hm : n ≤ m) : InvC m M :=
  { h with
    logs := fun x => Nat.le_trans (h.logs x) hm
    tab := fun k t ht => { h.tab k t ht with len := Nat.le_trans (h.tab k t ht).len hm }
    tabs := Nat.le_trans h.tabs hm
    drops := fun k => ⟨(h.drops k).1, by have := (h.drops k).2; omega⟩ }
theorem Inv.mono {n m : Nat} {M : St} (h : Inv n M) (hm : n ≤ m) : Inv m M := ⟨h.core.mono hm, h.full⟩

/-! ### a row changes -/
/-- A table's rows keep their numbers. -/
theorem TabOK.put {n : Nat} {t : Tab} (h : TabOK n t) {id : Int} {r0 : RowS} (hr : aget t.rows id = some r0) (r : RowS) : TabOK n (t.putRow id r) := by
  have hk : (aput t.rows id r).map Prod.fst = t.rows.map Prod.fst := aput_keys_old r (aget_isSome.1 (by rw [hr]; rfl))
  exact ⟨by have := congrArg List.length hk; simp only [List.length_map] at this; unfold Tab.putRow; dsimp only; rw [this]; exact h.len, h.next, by unfold Tab.putRow; dsimp only; rw [hk]; exact h.sorted, by unfold Tab.putRow; dsimp only; rw [hk]; exact h.ids⟩
theorem TabOK.del {n : Nat} {t : Tab} (h : TabOK n t) (id : Int) : TabOK n { t with rows := adel t.rows id } := by
  have hs : (adel t.rows id).Sublist t.rows := by unfold adel; exact List.filter_sublist
  exact ⟨Nat.le_trans hs.length_le h.len, h.next, h.sorted.sublist (hs.map _), fun i hi => h.ids i ((hs.map _).subset hi)⟩
theorem aput_len_old {κ β : Type} [DecidableEq κ] {l : List (κ × β)} {k : κ} (v : β) (h : k ∈ l.map Prod.fst) : (aput l k v).length = l.length := by
  have := congrArg List.length (aput_keys_old v h)
  simpa using this
/-- What a row's change leaves of the structure. -/
theorem InvC.tabs_put {n : Nat} {M : St} (h : InvC n M) {k : Key} {t t' : Tab} (ht : aget M.tabs k = some t) (ht' : TabOK n t') :
    (∀ k' u, aget (aput M.tabs k t') k' = some u → TabOK n u) ∧ (aput M.tabs k t').length ≤ n ∧ ((aput M.tabs k t').map Prod.fst).Nodup := by
  refine ⟨fun k' u hu => ?_, ?_, aput_nodup h.nodupT _ _⟩
  · by_cases e : k' = k
    · subst e
      rw [aget_put_same] at hu
      cases hu
      exact ht'
    · rw [aget_put_other _ _ e] at hu
      exact h.tab k' u hu
  · rw [aput_len_old _ (aget_isSome.1 (by rw [ht]; rfl))]
    exact h.tabs

theorem live_snoc (M : St) (l : List Chg) (c : Chg) (k : Key) (id : Int) : live M (l ++ [c]) k id = live M l k id ++ if liveB (M.dr k) k id c then [c] else [] := by
  unfold live
  rw [List.filter_append]
  congr 1
  by_cases e : liveB (M.dr k) k id c <;> simp [e]
/-- Chains look at open versions and drops alone. -/
theorem Chain.congr {M M' : St} {x : Int} {l : List Chg} (h : Chain M x l) (hd : ∀ k, M'.dr k = M.dr k) (ho : ∀ k id, openBy M' x k id ↔ openBy M x k id) : Chain M' x l := by
  have hl : ∀ k id, live M' l k id = live M l k id := fun k id => by unfold live; rw [hd]
  exact ⟨fun k id i c hc => h.nth k id i c (by rw [← hl]; exact hc), fun k id => by rw [hl, h.opn, ho]⟩

theorem dr_log (M : St) (L : List (Int × List Chg)) (T : Int) (tb : List (Key × Tab)) (k : Key) : (⟨T, tb, M.drops, L⟩ : St).dr k = M.dr k := rfl

/-! ### set -/
theorem set_eq {M : St} {k : Key} {t : Tab} {x id : Int} {v : Ver} {r : RowS} (ht : aget M.tabs k = some t) (hr : aget t.rows id = some r) :
    M.set k x id v = { M with log := aput M.log x (M.lg x ++ [(⟨k, M.dr k, id, r.opn⟩ : Chg)]), tabs := aput M.tabs k (t.putRow id { r with opn := some v, txn := x }) } := by
  unfold St.set
  rw [row_tab ht, hr]
  dsimp only
  rw [putRow_eq (t := t) (by exact ht)]
theorem set_row {M : St} {k : Key} {x id : Int} {v : Ver} {r : RowS} (hr : M.row k id = some r) (k' : Key) (id' : Int) :
    (M.set k x id v).row k' id' = if k' = k ∧ id' = id then some { r with opn := some v, txn := x } else M.row k' id' := by
  obtain ⟨t, ht, hr'⟩ := row_some hr
  rw [set_eq ht hr', row_tabs]
  unfold Tab.putRow
  dsimp only
  by_cases e : k' = k
  · subst e
    rw [if_pos rfl]
    by_cases e' : id' = id
    · subst e'; rw [if_pos ⟨rfl, rfl⟩, aget_put_same]
    · rw [if_neg (fun x => e' x.2), aget_put_other _ _ e', row_tab ht]
  · rw [if_neg e, if_neg (fun x => e x.1)]
theorem set_lg {M : St} {k : Key} {x id : Int} {v : Ver} {r : RowS} (hr : M.row k id = some r) (x' : Int) :
    (M.set k x id v).lg x' = if x' = x then M.lg x ++ [(⟨k, M.dr k, id, r.opn⟩ : Chg)] else M.lg x' := by
  obtain ⟨t, ht, hr'⟩ := row_some hr
  rw [set_eq ht hr']
  unfold St.lg
  dsimp only
  split
  · rename_i e; rw [e, aget_put_same]; rfl
  · rename_i e; rw [aget_put_other _ _ e]
theorem set_dr {M : St} {k : Key} {x id : Int} {v : Ver} {r : RowS} (hr : M.row k id = some r) (k' : Key) : (M.set k x id v).dr k' = M.dr k' := by
  obtain ⟨t, ht, hr'⟩ := row_some hr
  rw [set_eq ht hr']
  rfl
theorem set_time {M : St} {k : Key} {x id : Int} {v : Ver} : (M.set k x id v).time = M.time := by
  unfold St.set
  split
  · rfl
  · unfold St.putRow
    split <;> rfl
theorem InvC.set {n : Nat} {M : St} (h : InvC n M) {k : Key} {x id : Int} {v : Ver} {r : RowS} (hr : M.row k id = some r) (hx : r.opn.isSome = true → r.txn = x) (hn : numB x = true) (hv : v.row.length ≤ 20) : InvC (n + 1) (M.set k x id v) := by
  obtain ⟨t, ht, hr'⟩ := row_some hr
  have hto := h.tab k t ht
  have hid := hto.ids id (aget_isSome.1 (by rw [hr']; rfl))
  obtain ⟨p1, p2, p3⟩ := h.tabs_put ht (hto.put hr' { r with opn := some v, txn := x })
  have hL := set_lg (x := x) (v := v) hr
  have hR := set_row (x := x) (v := v) hr
  have hD := set_dr (x := x) (v := v) hr
  have hlive : ∀ l k' id', live (M.set k x id v) l k' id' = live M l k' id' := fun l k' id' => by unfold live; rw [hD]
  have hopen : ∀ x' k' id', openBy (M.set k x id v) x' k' id' ↔ (k' = k ∧ id' = id ∧ x' = x) ∨ (¬ (k' = k ∧ id' = id) ∧ openBy M x' k' id') := fun x' k' id' => by
    unfold openBy
    rw [hR]
    by_cases e : k' = k ∧ id' = id
    · rw [if_pos e]
      constructor
      · rintro ⟨r', hr', _, h2⟩
        cases hr'
        exact .inl ⟨e.1, e.2, h2.symm⟩
      · rintro (⟨_, _, h2⟩ | ⟨h2, _⟩)
        · exact ⟨_, rfl, rfl, h2.symm⟩
        · exact absurd e h2
    · rw [if_neg e]
      constructor
      · exact fun h => .inr ⟨e, h⟩
      · rintro (⟨h1, h2, _⟩ | ⟨_, h2⟩)
        · exact absurd ⟨h1, h2⟩ e
        · exact h2
  have hown : ∀ x', openBy M x' k id ↔ (r.opn.isSome = true ∧ x' = x) := fun x' => by
    unfold openBy
    rw [hr]
    constructor
    · rintro ⟨r', h1, h2, h3⟩
      cases h1
      exact ⟨h2, by rw [← h3, hx h2]⟩
    · rintro ⟨h1, h2⟩
      exact ⟨r, rfl, h1, by rw [hx h1, h2]⟩
  refine ⟨fun x' => ?_, ?_, ?_, ?_, fun k' => ?_, ?_, ?_, ?_, fun k' id' r' hr' => ?_, fun x' c hc => ?_, fun x' hx' => ?_, fun x' => ⟨fun k' id' i c hc => ?_, fun k' id' => ?_⟩⟩
  · rw [hL]
    split
    · have := h.logs x; simp; omega
    · have := h.logs x'; omega
  · intro k' u hu
    rw [set_eq ht hr'] at hu
    exact { p1 k' u hu with len := by have := (p1 k' u hu).len; omega }
  · rw [set_time]; exact h.time
  · rw [set_eq ht hr']; dsimp only; omega
  · rw [hD]; have := h.drops k'; omega
  · rw [set_eq ht hr']; exact p3
  · rw [set_eq ht hr']; exact h.nodupD
  · rw [set_eq ht hr']; exact aput_nodup h.nodupL _ _
  · rw [hR] at hr'
    rw [set_time]
    split at hr'
    · cases hr'
      have h0 := h.row k id r hr
      exact ⟨h0.old, fun u hu => by
        rcases hu with hu | hu
        · exact h0.short u (.inl hu)
        · cases hu; exact hv, h0.times, h0.lost⟩
    · exact h.row _ _ _ hr'
  · rw [hL] at hc
    split at hc
    · rcases List.mem_append.1 hc with hc | hc
      · have := h.chg x c hc
        exact ⟨this.id, by rw [hD]; exact this.drops, this.short⟩
      · simp only [List.mem_cons, List.not_mem_nil, or_false] at hc
        subst hc
        exact ⟨by have := hto.next; dsimp only; omega, by rw [hD]; exact Int.le_refl _, fun u hu => (h.row k id r hr).short u (.inr hu)⟩
    · have := h.chg x' c hc
      exact ⟨this.id, by rw [hD]; exact this.drops, this.short⟩
  · rw [hL] at hx'
    split at hx'
    · rename_i e; rw [e]; exact hn
    · exact h.num x' hx'
  · rw [hL, hlive] at hc
    split at hc
    · rename_i e
      rw [live_snoc] at hc
      by_cases e' : liveB (M.dr k') k' id' (⟨k, M.dr k, id, r.opn⟩ : Chg) = true
      · rw [if_pos e'] at hc
        unfold liveB at e'
        simp only [Bool.and_eq_true, decide_eq_true_eq] at e'
        obtain ⟨⟨rfl, rfl⟩, _⟩ := e'
        by_cases hi : i < (live M (M.lg x) k id).length
        · rw [List.getElem?_append_left hi] at hc
          exact (h.chain x).nth k id i c hc
        · rw [List.getElem?_append_right (by omega)] at hc
          obtain ⟨h1, h2⟩ : i - (live M (M.lg x) k id).length = 0 ∧ c = ⟨k, M.dr k, id, r.opn⟩ := by
            cases hj : i - (live M (M.lg x) k id).length with
            | zero => rw [hj] at hc; simp at hc; exact ⟨rfl, hc.symm⟩
            | succ j => rw [hj] at hc; simp at hc
          subst h2
          dsimp only
          have h3 := (h.chain x).opn k id
          rw [hown] at h3
          have hil : i = (live M (M.lg x) k id).length := by omega
          rw [hil, List.length_pos_iff, h3]
          simp
      · rw [if_neg e', List.append_nil] at hc
        exact (h.chain x).nth k' id' i c hc
    · exact (h.chain x').nth k' id' i c hc
  · rw [hopen, hL, hlive]
    by_cases ex : x' = x
    · subst ex
      rw [if_pos rfl, live_snoc]
      by_cases e' : k' = k ∧ id' = id
      · obtain ⟨rfl, rfl⟩ := e'
        simp [liveB]
      · have : liveB (M.dr k') k' id' (⟨k, M.dr k, id, r.opn⟩ : Chg) = false := by
          unfold liveB
          simp only [Bool.and_eq_false_iff, decide_eq_false_iff_not]
          by_cases e1 : k = k'
          · subst e1
            left; right
            exact fun e2 => e' ⟨rfl, e2.symm⟩
          · exact .inl (.inl e1)
        rw [this]
        simp only [Bool.false_eq_true, if_false, List.append_nil, (h.chain x').opn k' id']
        constructor
        · exact fun h => .inr ⟨e', h⟩
        · rintro (⟨h1, h2, _⟩ | ⟨_, h2⟩)
          · exact absurd ⟨h1, h2⟩ e'
          · exact h2
    · rw [if_neg ex, (h.chain x').opn k' id']
      constructor
      · intro h1
        refine .inr ⟨fun e => ?_, h1⟩
        obtain ⟨rfl, rfl⟩ := e
        exact ex ((hown x').1 h1).2
      · rintro (⟨_, _, h2⟩ | ⟨_, h2⟩)
        · exact absurd h2 ex
        · exact h2

/-! ### Add, Put, Delete -/
theorem grow_none {M : St} {k : Key} (h : aget M.tabs k = none) : M.grow k = ({ M with tabs := aput M.tabs k ⟨[(1, ⟨[], false, none, 0⟩)], 2⟩ }, 1) := by
  unfold St.grow
  rw [h]
  rfl
theorem grow_row (M : St) (k k' : Key) (id' : Int) : (M.grow k).1.row k' id' = if k' = k then aget (aput ((aget M.tabs k).getD ⟨[], 1⟩).rows ((aget M.tabs k).getD ⟨[], 1⟩).next ⟨[], false, none, 0⟩) id' else M.row k' id' := by
  unfold St.grow
  exact row_tabs M k _ k' id' _ _ _
theorem InvC.growTab {n : Nat} {M : St} (h : InvC n M) (k : Key) : TabOK n ((aget M.tabs k).getD ⟨[], 1⟩) := by
  cases ht : aget M.tabs k with
  | some t => exact h.tab k t ht
  | none => exact ⟨by simp, by simp, by simp, by simp⟩
theorem grow_new {M : St} {n : Nat} (h : InvC n M) (k : Key) : M.row k (M.grow k).2 = none := by
  unfold St.grow St.row
  dsimp only
  cases ht : aget M.tabs k with
  | none => rfl
  | some t =>
    dsimp only [Option.bind, Option.getD]
    rw [aget_none]
    intro hm
    have := ((h.tab k t ht).ids _ hm).2
    omega
theorem InvC.grow {n : Nat} {M : St} (h : InvC n M) {k : Key} (hnx : (M.grow k).2 ≠ 1099511627776) : InvC (n + 1) (M.grow k).1 ∧ (M.grow k).1.row k (M.grow k).2 = some ⟨[], false, none, 0⟩ ∧ (∀ k' id', ¬ (k' = k ∧ id' = (M.grow k).2) → (M.grow k).1.row k' id' = M.row k' id') := by
  have hT := h.growTab k
  have hnew : ((aget M.tabs k).getD ⟨[], 1⟩).next ∉ ((aget M.tabs k).getD ⟨[], 1⟩).rows.map Prod.fst := fun hm => by have := (hT.ids _ hm).2; omega
  have hR := grow_row M k
  have hrow : ∀ k' id', ¬ (k' = k ∧ id' = (M.grow k).2) → (M.grow k).1.row k' id' = M.row k' id' := fun k' id' e => by
    rw [hR]
    split
    · rename_i ek
      subst ek
      have e' : id' ≠ ((aget M.tabs k').getD ⟨[], 1⟩).next := fun e2 => e ⟨rfl, e2⟩
      rw [aget_put_other _ _ e']
      unfold St.row
      cases ht : aget M.tabs k' with
      | none => rfl
      | some t => rfl
    · rfl
  have hself : (M.grow k).1.row k (M.grow k).2 = some ⟨[], false, none, 0⟩ := by rw [hR, if_pos rfl]; exact aget_put_same _ _ _
  have hD : ∀ k', (M.grow k).1.dr k' = M.dr k' := fun k' => rfl
  have hL : ∀ x, (M.grow k).1.lg x = M.lg x := fun x => rfl
  have hopen : ∀ x k' id', openBy (M.grow k).1 x k' id' ↔ openBy M x k' id' := fun x k' id' => by
    unfold openBy
    by_cases e : k' = k ∧ id' = (M.grow k).2
    · obtain ⟨rfl, rfl⟩ := e
      rw [hself, grow_new h k']
      constructor
      · rintro ⟨r, h1, h2, _⟩; cases h1; cases h2
      · rintro ⟨r, h1, _⟩; cases h1
    · rw [hrow _ _ e]
  refine ⟨⟨fun x => by rw [hL]; have := h.logs x; omega, fun k' u hu => ?_, h.time, ?_, fun k' => by rw [hD]; have := h.drops k'; omega, ?_, h.nodupD, h.nodupL, fun k' id' r hr => ?_, fun x c hc => ?_, fun x hx => h.num x hx, fun x => (h.chain x).congr hD (hopen x)⟩, hself, hrow⟩
  · unfold St.grow at hu
    dsimp only at hu
    by_cases e : k' = k
    · subst e
      rw [aget_put_same] at hu
      cases hu
      have hnx' : ((aget M.tabs k').getD ⟨[], 1⟩).next ≠ 1099511627776 := hnx
      refine ⟨?_, by dsimp only; have := hT.next; omega, ?_, ?_⟩
      · dsimp only
        have := aput_length_le ((aget M.tabs k').getD ⟨[], 1⟩).rows ((aget M.tabs k').getD ⟨[], 1⟩).next (⟨[], false, none, 0⟩ : RowS)
        have := hT.len
        omega
      · dsimp only
        rw [aput_keys_new _ hnew, List.pairwise_append]
        refine ⟨hT.sorted, by simp, fun a ha b hb => ?_⟩
        simp only [List.mem_cons, List.not_mem_nil, or_false] at hb
        subst hb
        exact (hT.ids a ha).2
      · dsimp only
        rw [aput_keys_new _ hnew]
        intro i hi
        rcases List.mem_append.1 hi with h1 | h1
        · have := hT.ids i h1; omega
        · simp only [List.mem_cons, List.not_mem_nil, or_false] at h1
          subst h1
          have := hT.next
          omega
    · rw [aget_put_other _ _ e] at hu
      exact { h.tab k' u hu with len := by have := (h.tab k' u hu).len; omega }
  · unfold St.grow
    dsimp only
    have := aput_length_le M.tabs k (⟨aput ((aget M.tabs k).getD ⟨[], 1⟩).rows ((aget M.tabs k).getD ⟨[], 1⟩).next ⟨[], false, none, 0⟩, ((aget M.tabs k).getD ⟨[], 1⟩).next + 1⟩ : Tab)
    have := h.tabs
    omega
  · exact aput_nodup h.nodupT _ _
  · by_cases e : k' = k ∧ id' = (M.grow k).2
    · obtain ⟨rfl, rfl⟩ := e
      rw [hself] at hr
      cases hr
      exact ⟨by simp, fun v hv => (by simp at hv), fun v hv => (by simp at hv), fun h => (by cases h)⟩
    · rw [hrow _ _ e] at hr
      exact h.row k' id' r hr
  · have := h.chg x c hc
    exact ⟨this.id, this.drops, this.short⟩
theorem rowB_len {l : List Val} (h : rowB l = true) : l.length ≤ 20 := by
  unfold rowB at h
  simp only [Bool.and_eq_true, decide_eq_true_eq] at h
  exact h.1
theorem add_case (M : St) (k : Key) (x : Int) (l : List Val) : (M.add k x l = (M, 0, 3)) ∨ ((M.grow k).2 ≠ 1099511627776 ∧ (∀ t, aget M.tabs k = some t → t.full x = false) ∧ M.add k x l = ((M.grow k).1.set k x (M.grow k).2 ⟨0, false, l⟩, (M.grow k).2, 0)) := by
  unfold St.add
  cases ht : aget M.tabs k with
  | none =>
    right
    refine ⟨?_, fun t h => (by cases h), rfl⟩
    rw [grow_none ht]
    show (1 : Int) ≠ 1099511627776
    decide
  | some t =>
    dsimp only
    split
    · exact .inl rfl
    · rename_i e
      simp only [Bool.or_eq_true, decide_eq_true_eq, not_or] at e
      refine .inr ⟨?_, fun u hu => ?_, rfl⟩
      · unfold St.grow; rw [ht]; exact e.2
      · cases hu; simpa using e.1
theorem Full.set {M : St} {k : Key} {x id : Int} {v : Ver} {r : RowS} (hr : M.row k id = some r) (h : ∀ k' id' r', ¬ (k' = k ∧ id' = id) → M.row k' id' = some r' → r'.old ≠ [] ∨ r'.opn.isSome = true) : Full (M.set k x id v) := fun k' id' r' hr' => by
  rw [set_row hr] at hr'
  split at hr'
  · cases hr'; exact .inr rfl
  · rename_i e; exact h k' id' r' e hr'
theorem Inv.add {n : Nat} {M : St} (h : Inv n M) {k : Key} {x : Int} {l : List Val} (hx : numB x = true) (hl : l.length ≤ 20) : Inv (n + 2) (M.add k x l).1 := by
  rcases add_case M k x l with e | ⟨h1, _, e⟩
  · rw [e]; exact h.mono (by omega)
  · rw [e]
    obtain ⟨g1, g2, g3⟩ := h.core.grow h1
    refine ⟨g1.set g2 (fun h => by cases h) hx hl, Full.set g2 fun k' id' r' e hr' => ?_⟩
    rw [g3 _ _ e] at hr'
    exact h.full k' id' r' hr'
theorem Inv.addA {n : Nat} {M : St} (h : Inv n M) (k : Key) (x : Int) (l : List Val) : Inv (n + 2) (M.addA k x l).1 := by
  unfold St.addA
  split
  · rename_i e
    simp only [Bool.and_eq_true, St.argsB] at e
    exact h.add e.1.2 (rowB_len e.2)
  · exact h.mono (by omega)
theorem Inv.change {n : Nat} {M : St} (h : Inv n M) {k : Key} {x id : Int} {v : Ver} (hx : numB x = true) (hv : v.row.length ≤ 20) : Inv (n + 2) (M.change k x id v).1 := by
  unfold St.change
  cases hr : M.row k id with
  | none => exact h.mono (by omega)
  | some r =>
    dsimp only
    split
    · exact h.mono (by omega)
    · rename_i e
      split
      · exact ⟨(h.core.set hr (fun ho => by rw [ho] at e; simpa using e) hx hv).mono (by omega), Full.set hr fun k' id' r' _ hr' => h.full k' id' r' hr'⟩
      · exact h.mono (by omega)
theorem Inv.putA {n : Nat} {M : St} (h : Inv n M) (k : Key) (x id : Int) (l : List Val) : Inv (n + 2) (M.putA k x id l).1 := by
  unfold St.putA
  split
  · rename_i e
    simp only [Bool.and_eq_true, St.argsB] at e
    exact h.change e.1.2 (rowB_len e.2)
  · exact h.mono (by omega)
theorem Inv.delA {n : Nat} {M : St} (h : Inv n M) (k : Key) (x id : Int) : Inv (n + 2) (M.delA k x id).1 := by
  unfold St.delA
  split
  · rename_i e
    simp only [Bool.and_eq_true, St.argsB] at e
    exact h.change e.2 (by simp)
  · exact h.mono (by omega)

/-! ### undoing -/
/-- The last change of a transaction is undone. -/
def St.step (M : St) (x : Int) (l : List Chg) (c : Chg) : St := { (M.undo1 c) with log := aput M.log x l }
theorem undo1_dead {M : St} {c : Chg} (h : c.drops ≠ M.dr c.key) : M.undo1 c = M := by unfold St.undo1; rw [if_neg h]
theorem undo1_row {M : St} {c : Chg} {r : RowS} (hd : c.drops = M.dr c.key) (hr : M.row c.key c.id = some r) (k : Key) (id : Int) :
    (M.undo1 c).row k id = if k = c.key ∧ id = c.id then (if c.before.isNone && r.old.isEmpty then none else some { r with opn := c.before }) else M.row k id := by
  obtain ⟨t, ht, hr'⟩ := row_some hr
  rw [St.undo1_in hd hr]
  unfold St.undoIn
  split
  · rw [row_delRow ht]
  · rw [row_putRow ht]
theorem step_lg (M : St) (x : Int) (l : List Chg) (c : Chg) (x' : Int) : (M.step x l c).lg x' = if x' = x then l else M.lg x' := by
  have := lg_put M x x' l
  unfold St.step St.lg at *
  exact this
theorem step_row (M : St) (x : Int) (l : List Chg) (c : Chg) (k : Key) (id : Int) : (M.step x l c).row k id = (M.undo1 c).row k id := rfl
theorem step_dr (M : St) (x : Int) (l : List Chg) (c : Chg) (k : Key) : (M.step x l c).dr k = M.dr k := by
  unfold St.step St.dr
  dsimp only
  rw [(undo1_log M c).2.2]
theorem step_tabs (M : St) (c : Chg) (n : Nat) (h : InvC n M) : (∀ k u, aget (M.undo1 c).tabs k = some u → TabOK n u) ∧ (M.undo1 c).tabs.length ≤ n ∧ ((M.undo1 c).tabs.map Prod.fst).Nodup := by
  by_cases hd : c.drops = M.dr c.key
  · cases hr : M.row c.key c.id with
    | none =>
      have : M.undo1 c = M := by unfold St.undo1; rw [if_pos hd, hr]
      rw [this]
      exact ⟨h.tab, h.tabs, h.nodupT⟩
    | some r =>
      obtain ⟨t, ht, hr'⟩ := row_some hr
      rw [St.undo1_in hd hr]
      unfold St.undoIn
      split
      · rw [delRow_eq ht]
        exact h.tabs_put ht ((h.tab _ t ht).del c.id)
      · rw [putRow_eq ht]
        exact h.tabs_put ht ((h.tab _ t ht).put hr' _)
  · rw [undo1_dead hd]
    exact ⟨h.tab, h.tabs, h.nodupT⟩
theorem Inv.step {n : Nat} {M : St} (h : Inv n M) {x : Int} {l : List Chg} {c : Chg} (hl : M.lg x = l ++ [c]) : Inv n (M.step x l c) := by
  have hcm : c ∈ M.lg x := by rw [hl]; simp
  obtain ⟨p1, p2, p3⟩ := step_tabs M c n h.core
  have hL := step_lg M x l c
  have hD := step_dr M x l c
  have hlive : ∀ m k' id', live (M.step x l c) m k' id' = live M m k' id' := fun m k' id' => by unfold live; rw [hD]
  have hnum := h.core.num x (by rw [hl]; simp)
  -- rows behind it
  have hrow : ∀ k id r, (M.undo1 c).row k id = some r → RowOK M.time r ∧ (r.old ≠ [] ∨ r.opn.isSome = true) := fun k id r hr => by
    by_cases hd : c.drops = M.dr c.key
    · obtain ⟨r0, hr0, ho, _⟩ := (h.core.chain x).row hcm hd
      rw [undo1_row hd hr0] at hr
      split at hr
      · split at hr
        · cases hr
        · rename_i e
          cases hr
          have h0 := h.core.row _ _ _ hr0
          refine ⟨⟨h0.old, fun u hu => ?_, h0.times, h0.lost⟩, ?_⟩
          · rcases hu with hu | hu
            · exact h0.short u (.inl hu)
            · exact (h.core.chg x c hcm).short u hu
          · dsimp only
            cases hb : c.before with
            | some b => exact .inr rfl
            | none =>
              rw [hb] at e
              simp only [Option.isNone_none, Bool.true_and, List.isEmpty_iff] at e
              exact .inl e
      · exact ⟨h.core.row _ _ _ hr, h.full _ _ _ hr⟩
    · rw [undo1_dead hd] at hr
      exact ⟨h.core.row _ _ _ hr, h.full _ _ _ hr⟩
  refine ⟨⟨fun x' => ?_, p1, by rw [show (M.step x l c).time = M.time from (undo1_log M c).2.1]; exact h.core.time, p2, fun k => by rw [hD]; exact h.core.drops k, p3, by rw [show (M.step x l c).drops = M.drops from (undo1_log M c).2.2]; exact h.core.nodupD, aput_nodup h.core.nodupL _ _, fun k id r hr => by rw [show (M.step x l c).time = M.time from (undo1_log M c).2.1]; exact (hrow k id r hr).1, fun x' d hdm => ?_, fun x' hx' => ?_, fun x' => ?_⟩, fun k id r hr => (hrow k id r hr).2⟩
  · rw [hL]
    split
    · have := h.core.logs x; rw [hl] at this; simp at this; omega
    · exact h.core.logs x'
  · rw [hL] at hdm
    have hm : ∃ z, d ∈ M.lg z := by
      split at hdm
      · exact ⟨x, by rw [hl]; exact List.mem_append_left _ hdm⟩
      · exact ⟨x', hdm⟩
    obtain ⟨z, hz⟩ := hm
    have := h.core.chg z d hz
    exact ⟨this.id, by rw [hD]; exact this.drops, this.short⟩
  · rw [hL] at hx'
    split at hx'
    · rename_i e; rw [e]; exact hnum
    · exact h.core.num x' hx'
  · -- chains
    have hchx := h.core.chain x
    rw [hl] at hchx
    by_cases hd : c.drops = M.dr c.key
    · obtain ⟨r0, hr0, ho, htx⟩ := (h.core.chain x).row hcm hd
      have hR := undo1_row hd hr0
      have hlc : live M (l ++ [c]) c.key c.id = live M l c.key c.id ++ [c] := by
        rw [live_snoc]
        simp [liveB, hd]
      -- c.before is there just where something stays in the log
      have hbef : c.before.isSome = true ↔ live M l c.key c.id ≠ [] := by
        have := hchx.nth c.key c.id (live M l c.key c.id).length c (by rw [hlc]; simp)
        rw [this, List.length_pos_iff]
      have hopen : ∀ z k id, openBy (M.step x l c) z k id ↔ (k = c.key ∧ id = c.id ∧ z = x ∧ c.before.isSome = true) ∨ (¬ (k = c.key ∧ id = c.id) ∧ openBy M z k id) := fun z k id => by
        unfold openBy
        rw [step_row, hR]
        by_cases e : k = c.key ∧ id = c.id
        · rw [if_pos e]
          constructor
          · rintro ⟨r', h1, h2, h3⟩
            split at h1
            · cases h1
            · cases h1
              exact .inl ⟨e.1, e.2, by rw [← h3, ← htx], h2⟩
          · rintro (⟨_, _, rfl, h2⟩ | ⟨h1, _⟩)
            · rw [if_neg (by simp only [Bool.and_eq_true, not_and]; intro h3; rw [Option.isNone_iff_eq_none] at h3; rw [h3] at h2; cases h2)]
              exact ⟨_, rfl, h2, htx⟩
            · exact absurd e h1
        · rw [if_neg e]
          constructor
          · exact fun h => .inr ⟨e, h⟩
          · rintro (⟨h1, h2, _⟩ | ⟨_, h2⟩)
            · exact absurd ⟨h1, h2⟩ e
            · exact h2
      refine ⟨fun k id i d hdd => ?_, fun k id => ?_⟩
      · rw [hlive, hL] at hdd
        split at hdd
        · refine hchx.nth k id i d ?_
          rw [live_snoc, List.getElem?_append_left (List.getElem?_eq_some_iff.1 hdd).1]
          exact hdd
        · exact (h.core.chain x').nth k id i d hdd
      · rw [hlive, hL, hopen]
        by_cases ex : x' = x
        · subst ex
          rw [if_pos rfl]
          by_cases e : k = c.key ∧ id = c.id
          · obtain ⟨rfl, rfl⟩ := e
            rw [← hbef]
            simp
          · have hll : live M (l ++ [c]) k id = live M l k id := by
              rw [live_snoc]
              have : liveB (M.dr k) k id c = false := by
                unfold liveB
                simp only [Bool.and_eq_false_iff, decide_eq_false_iff_not]
                by_cases e1 : c.key = k
                · left; right
                  exact fun e2 => e ⟨e1.symm, e2.symm⟩
                · exact .inl (.inl e1)
              rw [this]
              simp
            rw [← hll, hchx.opn]
            constructor
            · exact fun h => .inr ⟨e, h⟩
            · rintro (⟨h1, h2, _⟩ | ⟨_, h2⟩)
              · exact absurd ⟨h1, h2⟩ e
              · exact h2
        · rw [if_neg ex, (h.core.chain x').opn]
          constructor
          · intro h1
            refine .inr ⟨fun e => ?_, h1⟩
            obtain ⟨rfl, rfl⟩ := e
            obtain ⟨r1, g1, g2, g3⟩ := h1
            rw [hr0] at g1
            cases g1
            exact ex (by rw [← g3, htx])
          · rintro (⟨_, _, h1, _⟩ | ⟨_, h1⟩)
            · exact absurd h1 ex
            · exact h1
    · have hopen : ∀ z k id, openBy (M.step x l c) z k id ↔ openBy M z k id := fun z k id => by
        unfold openBy
        rw [step_row, undo1_dead hd]
      have hll : ∀ k id, live M (l ++ [c]) k id = live M l k id := fun k id => by
        rw [live_snoc]
        have : liveB (M.dr k) k id c = false := by
          unfold liveB
          simp only [Bool.and_eq_false_iff, decide_eq_false_iff_not]
          by_cases e1 : c.key = k
          · right; subst e1; exact hd
          · exact .inl (.inl e1)
        rw [this]
        simp
      rw [hL]
      split
      · rename_i e
        subst e
        have h0 : Chain M x' l := ⟨fun k id i d hdd => hchx.nth k id i d (by rw [hll]; exact hdd), fun k id => by rw [← hll]; exact hchx.opn k id⟩
        exact h0.congr hD (hopen x')
      · exact (h.core.chain x').congr hD (hopen x')

/-- The log looks the same. -/
theorem Inv.relog {n : Nat} {M : St} (h : Inv n M) {L : List (Int × List Chg)} (hL : ∀ x, ({ M with log := L } : St).lg x = M.lg x) (hn : (L.map Prod.fst).Nodup) : Inv n { M with log := L } :=
  ⟨⟨fun x => by rw [hL]; exact h.core.logs x, h.core.tab, h.core.time, h.core.tabs, h.core.drops, h.core.nodupT, h.core.nodupD, hn, h.core.row, fun x c hc => by
    rw [hL] at hc
    have := h.core.chg x c hc
    exact ⟨this.id, this.drops, this.short⟩, fun x hx => h.core.num x (by rw [← hL]; exact hx), fun x => by
    rw [hL]
    exact (h.core.chain x).congr (fun _ => rfl) (fun _ _ => Iff.rfl)⟩, h.full⟩
theorem undo1_relog (M : St) (L : List (Int × List Chg)) (c : Chg) : ({ M with log := L } : St).undo1 c = { (M.undo1 c) with log := L } := by
  unfold St.undo1
  by_cases hd : c.drops = M.dr c.key
  · rw [if_pos hd, if_pos (by exact hd)]
    change (match M.row c.key c.id with | none => _ | some r => _) = _
    cases hr : M.row c.key c.id with
    | none => rfl
    | some r =>
      dsimp only
      split
      · unfold St.delRow
        dsimp only
        split <;> rfl
      · unfold St.putRow
        dsimp only
        split <;> rfl
  · rw [if_neg hd, if_neg (by exact hd)]
theorem undos_relog (l : List Chg) : ∀ (M : St) (L : List (Int × List Chg)), l.foldl St.undo1 ({ M with log := L } : St) = { (l.foldl St.undo1 M) with log := L } := by
  induction l with
  | nil => intro M L; rfl
  | cons c l ih => intro M L; rw [List.foldl_cons, undo1_relog, ih]; rfl
theorem Inv.backs {n : Nat} {x : Int} (d : List Chg) : ∀ {M : St} {l : List Chg}, Inv n M → M.lg x = l ++ d → Inv n ({ (d.reverse.foldl St.undo1 M) with log := aput (d.reverse.foldl St.undo1 M).log x l } : St) := by
  induction d using snoc_ind with
  | h0 =>
    intro M l h hl
    rw [List.append_nil] at hl
    refine h.relog (fun x' => ?_) (aput_nodup h.core.nodupL _ _)
    have := lg_put M x x' l
    change _ = _
    refine this.trans ?_
    split
    · rename_i e; rw [e, hl]
    · rfl
  | h1 d c ih =>
    intro M l h hl
    rw [← List.append_assoc] at hl
    have h1 := h.step hl
    have h2 := ih h1 (show (M.step x (l ++ d) c).lg x = l ++ d by rw [step_lg, if_pos rfl])
    rw [List.reverse_append, List.reverse_cons, List.reverse_nil, List.nil_append, List.singleton_append, List.foldl_cons]
    unfold St.step at h2
    rw [undos_relog] at h2
    dsimp only at h2
    rw [aput_aput] at h2
    rw [undos_log, (undo1_log M c).1]
    exact h2
theorem Inv.back {n : Nat} {M : St} (h : Inv n M) (x : Int) (mark : Nat) : Inv n (M.back x mark) := by
  have := h.backs (x := x) ((M.lg x).drop mark) (l := (M.lg x).take mark) (by rw [List.take_append_drop])
  unfold St.back
  have e : (((M.lg x).drop mark).reverse.foldl St.undo1 M).lg x = M.lg x := by unfold St.lg; rw [undos_log]
  rw [show (let M' := ((M.lg x).drop mark).reverse.foldl St.undo1 M; ({ M' with log := aput M'.log x ((M.lg x).take mark) } : St)) = ({ (((M.lg x).drop mark).reverse.foldl St.undo1 M) with log := aput (((M.lg x).drop mark).reverse.foldl St.undo1 M).log x ((M.lg x).take mark) } : St) from rfl]
  exact this
theorem Inv.backA {n : Nat} {M : St} (h : Inv n M) (x mark : Int) : Inv n (M.backA x mark).1 := by
  unfold St.backA
  split
  · exact h
  · split
    · exact h
    · exact h.back x _
theorem UndoSafe.relog {l : List Chg} : ∀ {M : St} {L : List (Int × List Chg)}, UndoSafe ({ M with log := L } : St) l → UndoSafe M l := by
  induction l with
  | nil => intro M L h; trivial
  | cons c l ih =>
    intro M L h
    refine ⟨h.1, ?_⟩
    have h2 := h.2
    rw [undo1_relog] at h2
    exact ih h2
theorem Inv.undoSafe {n : Nat} {x : Int} (d : List Chg) : ∀ {M : St} {l : List Chg}, Inv n M → M.lg x = l ++ d → UndoSafe M d.reverse := by
  induction d using snoc_ind with
  | h0 => intro M l h hl; trivial
  | h1 d c ih =>
    intro M l h hl
    rw [← List.append_assoc] at hl
    have hcm : c ∈ M.lg x := by rw [hl]; simp
    have h2 := ih (h.step hl) (show (M.step x (l ++ d) c).lg x = l ++ d by rw [step_lg, if_pos rfl])
    rw [List.reverse_append, List.reverse_cons, List.reverse_nil, List.nil_append, List.singleton_append]
    refine ⟨⟨fun hd => ?_, ?_⟩, h2.relog⟩
    · obtain ⟨r, hr, _⟩ := (h.core.chain x).row hcm hd
      exact ⟨r, hr, by have := (h.core.row _ _ _ hr).old; omega⟩
    · have := (h.core.chg x c hcm).id
      exact okI_of (by omega) (by omega)
theorem Inv.safe {n : Nat} {M : St} (h : Inv n M) (x : Int) (mark : Nat) : UndoSafe M ((M.lg x).drop mark).reverse := h.undoSafe (x := x) _ (l := (M.lg x).take mark) (by rw [List.take_append_drop])
theorem lg_back (M : St) (x : Int) (mark : Nat) (x' : Int) : (M.back x mark).lg x' = if x' = x then (M.lg x).take mark else M.lg x' := by
  unfold St.back
  have := lg_put (((M.lg x).drop mark).reverse.foldl St.undo1 M) x x' ((M.lg x).take mark)
  refine this.trans ?_
  split
  · rfl
  · unfold St.lg; rw [undos_log]
theorem Inv.abortA {n : Nat} {M : St} (h : Inv n M) (x : Int) : Inv n (M.abortA x).1 := by
  unfold St.abortA
  split
  · exact h
  · refine (h.back x 0).relog (fun x' => ?_) (adel_nodup (h.back x 0).core.nodupL x)
    rw [lg_del]
    split
    · rename_i e
      rw [e, lg_back, if_pos rfl]
      rfl
    · rfl

/-! ### committing -/
def commitF (T : Int) (r : RowS) : Option RowS := match r.opn with
  | none => some r
  | some v => if v.gone && r.old.isEmpty then none else some (r.commit v T)
structure TabsOK (n : Nat) (L : List (Key × Tab)) : Prop where
  tab : ∀ k u, aget L k = some u → TabOK n u
  len : L.length ≤ n
  nodup : (L.map Prod.fst).Nodup
theorem InvC.tabsOK {n : Nat} {M : St} (h : InvC n M) : TabsOK n M.tabs := ⟨h.tab, h.tabs, h.nodupT⟩
theorem TabsOK.put {n : Nat} {L : List (Key × Tab)} (h : TabsOK n L) {k : Key} {t t' : Tab} (ht : aget L k = some t) (ht' : TabOK n t') : TabsOK n (aput L k t') := by
  refine ⟨fun k' u hu => ?_, ?_, aput_nodup h.nodup _ _⟩
  · by_cases e : k' = k
    · subst e
      rw [aget_put_same] at hu
      cases hu
      exact ht'
    · rw [aget_put_other _ _ e] at hu
      exact h.tab k' u hu
  · rw [aput_len_old _ (aget_isSome.1 (by rw [ht]; rfl))]
    exact h.len
theorem commit1_tabs {n : Nat} {M : St} (h : TabsOK n M.tabs) (T : Int) (p : Key × Int) : TabsOK n (M.commit1 T p).tabs := by
  unfold St.commit1
  cases hr : M.row p.1 p.2 with
  | none => exact h
  | some r =>
    dsimp only
    obtain ⟨t, ht, hr'⟩ := row_some hr
    cases r.opn with
    | none => exact h
    | some v =>
      dsimp only
      split
      · rw [delRow_eq ht]; exact h.put ht ((h.tab _ t ht).del p.2)
      · rw [putRow_eq ht]; exact h.put ht ((h.tab _ t ht).put hr' _)
theorem commits_tabs {n : Nat} {T : Int} (l : List (Key × Int)) : ∀ {M : St}, TabsOK n M.tabs → TabsOK n (l.foldl (fun N p => N.commit1 T p) M).tabs := by
  induction l with
  | nil => intro M h; exact h
  | cons p l ih => intro M h; rw [List.foldl_cons]; exact ih (commit1_tabs h T p)
theorem commit1_same {M : St} {T : Int} {k : Key} {id : Int} {r : RowS} (hr : M.row k id = some r) : (M.commit1 T (k, id)).row k id = commitF T r := by
  obtain ⟨t, ht, hr'⟩ := row_some hr
  unfold St.commit1 commitF
  dsimp only
  rw [hr]
  dsimp only
  cases ho : r.opn with
  | none => exact hr
  | some v =>
    dsimp only
    split
    · rw [row_delRow ht, if_pos ⟨rfl, rfl⟩]
    · rw [row_putRow ht, if_pos ⟨rfl, rfl⟩]
theorem commits_row_in {T : Int} {l : List (Key × Int)} (hn : l.Nodup) {k : Key} {id : Int} {r : RowS} : ∀ {M : St}, (k, id) ∈ l → M.row k id = some r → (l.foldl (fun N p => N.commit1 T p) M).row k id = commitF T r := by
  induction l with
  | nil => intro M h; simp at h
  | cons p l ih =>
    intro M h hr
    simp only [List.nodup_cons] at hn
    rw [List.foldl_cons]
    rcases List.mem_cons.1 h with e | e
    · subst e
      rw [commits_row hn.1, commit1_same hr]
    · refine ih hn.2 e ?_
      rw [commit1_row _ _ _ (fun e2 => hn.1 (by rw [← e2]; exact e))]
      exact hr
theorem commits_drops {T : Int} (l : List (Key × Int)) (M : St) : (l.foldl (fun N p => N.commit1 T p) M).drops = M.drops := by
  induction l generalizing M with
  | nil => rfl
  | cons p l ih => rw [List.foldl_cons, ih, (commit1_log M T p).2.2]
theorem InvC.touched {n : Nat} {M : St} (h : InvC n M) (x : Int) (k : Key) (id : Int) : (k, id) ∈ M.touched x ↔ openBy M x k id := by
  rw [touched_mem]
  constructor
  · rintro ⟨c, hc, ht, e⟩
    injection e with e1 e2
    subst e1; subst e2
    have hd : c.drops = M.dr c.key := by
      unfold tch at ht
      simp only [Bool.and_eq_true, decide_eq_true_eq] at ht
      exact ht.1
    exact (h.chain x).row hc hd
  · intro ho
    obtain ⟨c, hc⟩ := List.exists_mem_of_ne_nil _ (((h.chain x).opn k id).2 ho)
    obtain ⟨h1, h2, h3, h4⟩ := live_mem.1 hc
    obtain ⟨r, hr, hro, _⟩ := ho
    refine ⟨c, h1, ?_, by rw [h2, h3]⟩
    unfold tch
    rw [h2, h3, hr, h4]
    simp [hro]
theorem touched_nodup (M : St) (x : Int) : (M.touched x).Nodup := by unfold St.touched; exact nodup_uniq _
/-- A commit at time T, whether it is a new one or not. -/
def St.commitAt (M : St) (x T : Int) : St :=
  let N := (M.touched x).foldl (fun N p => N.commit1 T p) { M with time := T }
  { N with log := adel N.log x }
theorem commitAt_row {n : Nat} {M : St} (h : InvC n M) (x T : Int) (k : Key) (id : Int) : (M.commitAt x T).row k id = match M.row k id with
    | none => none
    | some r => if r.opn.isSome = true ∧ r.txn = x then commitF T r else some r := by
  unfold St.commitAt
  dsimp only
  change ((M.touched x).foldl (fun N p => N.commit1 T p) ({ M with time := T } : St)).row k id = _
  by_cases hm : (k, id) ∈ M.touched x
  · obtain ⟨r, hr, h1, h2⟩ := (h.touched x k id).1 hm
    rw [commits_row_in (touched_nodup M x) hm (r := r) (by exact hr), hr]
    dsimp only
    rw [if_pos ⟨h1, h2⟩]
  · rw [commits_row hm]
    change M.row k id = _
    cases hr : M.row k id with
    | none => rfl
    | some r =>
      dsimp only
      rw [if_neg (fun e => hm ((h.touched x k id).2 ⟨r, hr, e⟩))]
theorem commitAt_lg (M : St) (x T : Int) (x' : Int) : (M.commitAt x T).lg x' = if x' = x then [] else M.lg x' := by
  unfold St.commitAt
  dsimp only
  rw [lg_del]
  split
  · rfl
  · unfold St.lg; rw [(commits_log _ _).1]
theorem commitAt_dr (M : St) (x T : Int) (k : Key) : (M.commitAt x T).dr k = M.dr k := by
  unfold St.commitAt St.dr
  dsimp only
  rw [commits_drops]
theorem commitAt_time (M : St) (x T : Int) : (M.commitAt x T).time = T := by
  unfold St.commitAt
  dsimp only
  rw [(commits_log _ _).2]
theorem RowOK.mono {T T' : Int} {r : RowS} (h : RowOK T r) (ht : T ≤ T') : RowOK T' r := { h with times := fun v hv => by have := h.times v hv; omega }
theorem RowOK.commit {T T' : Int} {r r' : RowS} (h : RowOK T r) (ht : T ≤ T') (h0 : 0 ≤ T') (hc : commitF T' r = some r') : RowOK T' r' ∧ (r.opn.isSome = true → r'.old ≠ [] ∧ r'.opn = none) := by
  unfold commitF at hc
  cases ho : r.opn with
  | none => rw [ho] at hc; cases hc; exact ⟨h.mono ht, fun h => by cases h⟩
  | some v =>
    rw [ho] at hc
    dsimp only at hc
    split at hc
    · cases hc
    · cases hc
      have hmem : ∀ u, u ∈ r.old ++ [{ v with time := T' }] → u.row.length ≤ 20 ∧ 0 ≤ u.time ∧ u.time ≤ T' := fun u hu => by
        rcases List.mem_append.1 hu with h1 | h1
        · have := h.times u h1
          exact ⟨h.short u (.inl h1), this.1, by omega⟩
        · simp only [List.mem_cons, List.not_mem_nil, or_false] at h1
          subst h1
          exact ⟨h.short v (.inr ho), h0, Int.le_refl _⟩
      have hlen := h.old
      unfold RowS.commit
      dsimp only
      split
      · rename_i hl
        have hne : (r.old ++ [{ v with time := T' }]).drop ((r.old ++ [{ v with time := T' }]).length - 6) ≠ [] := fun e => by
          have := congrArg List.length e
          rw [List.length_drop, List.length_nil] at this
          omega
        refine ⟨⟨by rw [List.length_drop]; omega, fun u hu => ?_, fun u hu => (hmem u (List.mem_of_mem_drop hu)).2, fun _ => hne⟩, fun _ => ⟨hne, rfl⟩⟩
        rcases hu with hu | hu
        · exact (hmem u (List.mem_of_mem_drop hu)).1
        · cases hu
      · rename_i hl
        refine ⟨⟨Nat.le_of_not_lt hl, fun u hu => ?_, fun u hu => (hmem u hu).2, fun _ => by simp⟩, fun _ => ⟨by simp, rfl⟩⟩
        rcases hu with hu | hu
        · exact (hmem u hu).1
        · cases hu
theorem Inv.commitAt {n : Nat} {M : St} (h : Inv n M) {x T : Int} (ht : M.time ≤ T) (hT : T ≤ 1099511627776) : Inv n (M.commitAt x T) := by
  have hR := commitAt_row h.core x T
  have hL := commitAt_lg M x T
  have hD := commitAt_dr M x T
  have h0 := h.core.time.1
  have htab : TabsOK n (M.commitAt x T).tabs := commits_tabs (M.touched x) (M := { M with time := T }) h.core.tabsOK
  have hopen : ∀ z k id, openBy (M.commitAt x T) z k id ↔ (z ≠ x ∧ openBy M z k id) := fun z k id => by
    unfold openBy
    rw [hR]
    cases hr : M.row k id with
    | none =>
      constructor
      · rintro ⟨r', h1, _⟩; cases h1
      · rintro ⟨_, r', h1, _⟩; cases h1
    | some r =>
      dsimp only
      by_cases e : r.opn.isSome = true ∧ r.txn = x
      · rw [if_pos e]
        constructor
        · rintro ⟨r', h1, h2, _⟩
          have := ((h.core.row k id r hr).commit ht (by omega) h1).2 e.1
          rw [this.2] at h2
          cases h2
        · rintro ⟨h1, r', h2, h3, h4⟩
          cases h2
          exact absurd (by rw [← h4, e.2]) h1
      · rw [if_neg e]
        constructor
        · rintro ⟨r', h1, h2, h3⟩
          cases h1
          exact ⟨fun ez => e ⟨h2, by rw [h3, ez]⟩, r, rfl, h2, h3⟩
        · rintro ⟨_, h2⟩
          exact h2
  have hrow : ∀ k id r', (M.commitAt x T).row k id = some r' → RowOK T r' ∧ (r'.old ≠ [] ∨ r'.opn.isSome = true) := fun k id r' hr' => by
    rw [hR] at hr'
    cases hr : M.row k id with
    | none => rw [hr] at hr'; cases hr'
    | some r =>
      rw [hr] at hr'
      dsimp only at hr'
      split at hr'
      · rename_i e
        have := (h.core.row k id r hr).commit ht (by omega) hr'
        exact ⟨this.1, .inl (this.2 e.1).1⟩
      · rw [Option.some.injEq] at hr'
        subst hr'
        exact ⟨(h.core.row k id r hr).mono ht, h.full k id r hr⟩
  refine ⟨⟨fun x' => ?_, htab.tab, by rw [commitAt_time]; omega, htab.len, fun k => by rw [hD]; exact h.core.drops k, htab.nodup, ?_, ?_, fun k id r hr => by rw [commitAt_time]; exact (hrow k id r hr).1, fun x' c hc => ?_, fun x' hx' => ?_, fun x' => ?_⟩, fun k id r hr => (hrow k id r hr).2⟩
  · rw [hL]
    split
    · simp
    · exact h.core.logs x'
  · change ((((M.touched x).foldl (fun N p => N.commit1 T p) ({ M with time := T } : St)).drops).map Prod.fst).Nodup
    rw [commits_drops]
    exact h.core.nodupD
  · change ((adel ((M.touched x).foldl (fun N p => N.commit1 T p) ({ M with time := T } : St)).log x).map Prod.fst).Nodup
    rw [(commits_log _ _).1]
    exact adel_nodup h.core.nodupL x
  · rw [hL] at hc
    split at hc
    · simp at hc
    · have := h.core.chg x' c hc
      exact ⟨this.id, by rw [hD]; exact this.drops, this.short⟩
  · rw [hL] at hx'
    split at hx'
    · exact absurd rfl hx'
    · exact h.core.num x' hx'
  · have hlive : ∀ m k id, live (M.commitAt x T) m k id = live M m k id := fun m k id => by unfold live; rw [hD]
    rw [hL]
    split
    · rename_i e
      refine ⟨fun k id i c hc => by simp [live] at hc, fun k id => ?_⟩
      rw [hopen]
      constructor
      · intro h; simp [live] at h
      · rintro ⟨h1, _⟩; exact absurd e h1
    · rename_i e
      refine ⟨fun k id i c hc => (h.core.chain x').nth k id i c (by rw [← hlive]; exact hc), fun k id => ?_⟩
      rw [hlive, hopen, (h.core.chain x').opn]
      exact ⟨fun h => ⟨e, h⟩, fun h => h.2⟩
theorem commit_case (M : St) (x : Int) : (M.touched x = [] ∧ M.commit x = (M.commitAt x M.time, M.time, 0)) ∨ (M.touched x ≠ [] ∧ M.time = 1099511627776 ∧ M.commit x = (M, 0, 3)) ∨ (M.touched x ≠ [] ∧ M.time ≠ 1099511627776 ∧ M.commit x = (M.commitAt x (M.time + 1), M.time + 1, 0)) := by
  unfold St.commit
  by_cases h1 : M.touched x = []
  · refine .inl ⟨h1, ?_⟩
    rw [if_pos h1]
    unfold St.commitAt
    rw [h1]
    rfl
  · rw [if_neg h1]
    by_cases h2 : M.time = 1099511627776
    · rw [if_pos h2]; exact .inr (.inl ⟨h1, h2, rfl⟩)
    · rw [if_neg h2]; exact .inr (.inr ⟨h1, h2, rfl⟩)
theorem Inv.commitA {n : Nat} {M : St} (h : Inv n M) (x : Int) : Inv n (M.commitA x).1 := by
  unfold St.commitA
  split
  · rcases commit_case M x with ⟨_, e⟩ | ⟨_, _, e⟩ | ⟨_, h2, e⟩
    · rw [e]; exact h.commitAt (Int.le_refl _) h.core.time.2
    · rw [e]; exact h
    · rw [e]; exact h.commitAt (by omega) (by have := h.core.time; omega)
  · exact h

/-! ### dropping -/
theorem Inv.drop {n : Nat} {M : St} (h : Inv n M) (k : Key) : Inv (n + 1) (M.drop k) := by
  unfold St.drop
  cases ht : aget M.tabs k with
  | none => exact h.mono (by omega)
  | some t =>
    dsimp only
    have hto := h.core.tab k t ht
    obtain ⟨p1, p2, p3⟩ := h.core.tabs_put ht (t' := { t with rows := [] }) ⟨by simp, hto.next, by simp, by simp⟩
    have hD : ∀ k', ({ M with tabs := aput M.tabs k { t with rows := [] }, drops := aput M.drops k (M.dr k + 1) } : St).dr k' = if k' = k then M.dr k + 1 else M.dr k' := fun k' => by
      unfold St.dr
      dsimp only
      split
      · rename_i e; rw [e, aget_put_same]; rfl
      · rename_i e; rw [aget_put_other _ _ e]
    have hR : ∀ k' id', ({ M with tabs := aput M.tabs k { t with rows := [] }, drops := aput M.drops k (M.dr k + 1) } : St).row k' id' = if k' = k then none else M.row k' id' := fun k' id' => by
      rw [row_tabs M k _ k' id' M.log (aput M.drops k (M.dr k + 1)) M.time]
      split <;> rfl
    have hL : ∀ x, ({ M with tabs := aput M.tabs k { t with rows := [] }, drops := aput M.drops k (M.dr k + 1) } : St).lg x = M.lg x := fun x => rfl
    generalize hM : ({ M with tabs := aput M.tabs k { t with rows := [] }, drops := aput M.drops k (M.dr k + 1) } : St) = M' at *
    have htm : M'.time = M.time := by rw [← hM]
    have hta : M'.tabs = aput M.tabs k { t with rows := [] } := by rw [← hM]
    have hdr : M'.drops = aput M.drops k (M.dr k + 1) := by rw [← hM]
    have hlo : M'.log = M.log := by rw [← hM]
    refine ⟨⟨fun x => by rw [hL]; have := h.core.logs x; omega, fun k' u hu => ?_, by rw [htm]; exact h.core.time, by rw [hta]; omega, fun k' => ?_, by rw [hta]; exact p3, by rw [hdr]; exact aput_nodup h.core.nodupD _ _, by rw [hlo]; exact h.core.nodupL, fun k' id' r hr => ?_, fun x c hc => ?_, fun x hx => h.core.num x (by rw [← hL]; exact hx), fun x => ?_⟩, fun k' id' r hr => ?_⟩
    · rw [hta] at hu
      exact { p1 k' u hu with len := by have := (p1 k' u hu).len; omega }
    · rw [hD]
      split
      · have := h.core.drops k; omega
      · have := h.core.drops k'; omega
    · rw [hR] at hr
      rw [htm]
      split at hr
      · cases hr
      · exact h.core.row k' id' r hr
    · rw [hL] at hc
      have := h.core.chg x c hc
      refine ⟨this.id, ?_, this.short⟩
      rw [hD]
      split
      · rename_i e
        have h1 := this.drops
        rw [e] at h1
        omega
      · exact this.drops
    · have hlive : ∀ k' id', live M' (M'.lg x) k' id' = if k' = k then [] else live M (M.lg x) k' id' := fun k' id' => by
        rw [hL]
        split
        · rename_i e
          subst e
          refine List.eq_nil_iff_forall_not_mem.2 fun c hc => ?_
          obtain ⟨h1, h2, h3, h4⟩ := live_mem.1 hc
          rw [hD, if_pos rfl] at h4
          have := (h.core.chg x c h1).drops
          rw [h2] at this
          omega
        · rename_i e
          unfold live
          rw [hD, if_neg e]
      have hopen : ∀ k' id', openBy M' x k' id' ↔ (k' ≠ k ∧ openBy M x k' id') := fun k' id' => by
        unfold openBy
        rw [hR]
        split
        · rename_i e
          constructor
          · rintro ⟨r, h1, _⟩; cases h1
          · rintro ⟨h1, _⟩; exact absurd e h1
        · rename_i e
          exact ⟨fun h => ⟨e, h⟩, fun h => h.2⟩
      refine ⟨fun k' id' i c hc => ?_, fun k' id' => ?_⟩
      · rw [hlive] at hc
        split at hc
        · simp at hc
        · exact (h.core.chain x).nth k' id' i c hc
      · rw [hlive, hopen]
        split
        · rename_i e
          constructor
          · intro h; exact absurd rfl h
          · rintro ⟨h1, _⟩; exact absurd e h1
        · rename_i e
          rw [(h.core.chain x).opn]
          exact ⟨fun h => ⟨e, h⟩, fun h => h.2⟩
    · rw [hR] at hr
      split at hr
      · cases hr
      · exact h.full k' id' r hr
theorem Inv.dropA {n : Nat} {M : St} (h : Inv n M) (k : Key) : Inv (n + 2) (M.dropA k).1 := by
  unfold St.dropA
  split
  · exact (h.drop k).mono (by omega)
  · exact h.mono (by omega)
end Go.Ju

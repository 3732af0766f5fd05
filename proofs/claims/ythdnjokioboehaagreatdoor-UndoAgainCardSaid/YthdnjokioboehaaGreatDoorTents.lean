/- The rows that a log touches: the list of the plain store, and the map of the program. No program in sight. -/
import Derived.Test.YthdnjokioboehaaGreatDoorComm
namespace Go.Ju

theorem snoc_ind {α : Type} {P : List α → Prop} (h0 : P []) (h1 : ∀ l a, P l → P (l ++ [a])) (l : List α) : P l := by
  rw [← List.reverse_reverse l]
  induction l.reverse with
  | nil => exact h0
  | cons a r ih => rw [List.reverse_cons]; exact h1 _ _ ih
theorem tents_mem {y : Lay} {M : St} : ∀ (L : List (Chg × Value)), ∀ e ∈ tents y M L, tch M e.2.1 = true ∧ e.1 = y.rb e.2.1.key e.2.1.id ∧ e.2 ∈ L := by
  intro L
  induction L using snoc_ind with
  | h0 => intro e he; simp [tents] at he
  | h1 L p ih =>
    intro e he
    rw [tents_snoc] at he
    split at he
    · rename_i ht
      rcases mem_aput he with rfl | ⟨h1, _⟩
      · exact ⟨ht, rfl, by simp⟩
      · obtain ⟨a, b, c⟩ := ih e h1
        exact ⟨a, b, List.mem_append_left _ c⟩
    · obtain ⟨a, b, c⟩ := ih e he
      exact ⟨a, b, List.mem_append_left _ c⟩
theorem aput_keys_sub {κ β : Type} [DecidableEq κ] (l : List (κ × β)) (k : κ) (v : β) : (∀ a ∈ l.map Prod.fst, a ∈ (aput l k v).map Prod.fst) ∧ k ∈ (aput l k v).map Prod.fst := by
  by_cases h : k ∈ l.map Prod.fst
  · rw [aput_keys_old v h]; exact ⟨fun _ h => h, h⟩
  · rw [aput_keys_new v h]; exact ⟨fun _ h => List.mem_append_left _ h, by simp⟩
theorem tents_has {y : Lay} {M : St} : ∀ (L : List (Chg × Value)), ∀ p ∈ L, tch M p.1 = true → y.rb p.1.key p.1.id ∈ (tents y M L).map Prod.fst := by
  intro L
  induction L using snoc_ind with
  | h0 => intro p hp; simp at hp
  | h1 L q ih =>
    intro p hp ht
    rw [tents_snoc]
    rcases List.mem_append.1 hp with h | h
    · split
      · exact (aput_keys_sub _ _ _).1 _ (ih p h ht)
      · exact ih p h ht
    · simp only [List.mem_cons, List.not_mem_nil, or_false] at h
      subst h
      rw [if_pos ht]
      exact (aput_keys_sub _ _ _).2
theorem tents_nodup {y : Lay} {M : St} : ∀ (L : List (Chg × Value)), ((tents y M L).map Prod.fst).Nodup := by
  intro L
  induction L using snoc_ind with
  | h0 => simp [tents]
  | h1 L q ih =>
    rw [tents_snoc]
    split
    · exact aput_nodup ih _ _
    · exact ih
theorem nodup_of {α β γ : Type} {f : α → β} {g : α → γ} : ∀ {l : List α}, (l.map f).Nodup → (∀ a ∈ l, ∀ b ∈ l, g a = g b → f a = f b) → (l.map g).Nodup
  | [], _, _ => by simp
  | a :: l, h, hi => by
    simp only [List.map_cons, List.nodup_cons] at h ⊢
    refine ⟨fun hm => ?_, nodup_of h.2 (fun x hx z hz => hi x (by simp [hx]) z (by simp [hz]))⟩
    obtain ⟨b, hb, e⟩ := List.mem_map.1 hm
    exact h.1 (by rw [hi a (by simp) b (by simp [hb]) e.symm]; exact List.mem_map_of_mem hb)
/-- Rows lie at addresses of their own. -/
def RowsApart (y : Lay) (M : St) : Prop := ∀ k i k' i' r r', M.row k i = some r → M.row k' i' = some r' → y.rb k i = y.rb k' i' → k = k' ∧ i = i'
theorem tch_row {M : St} {c : Chg} (h : tch M c = true) : ∃ r v, M.row c.key c.id = some r ∧ r.opn = some v := by
  unfold tch at h
  simp only [Bool.and_eq_true] at h
  obtain ⟨_, h⟩ := h
  cases hr : M.row c.key c.id with
  | none => rw [hr] at h; cases h
  | some r =>
    rw [hr] at h
    obtain ⟨v, hv⟩ := Option.isSome_iff_exists.1 h
    exact ⟨r, v, rfl, hv⟩
theorem touched_mem {M : St} {txn : Int} {q : Key × Int} : q ∈ M.touched txn ↔ ∃ c ∈ M.lg txn, tch M c = true ∧ q = (c.key, c.id) := by
  unfold St.touched
  rw [mem_uniq, List.mem_map]
  constructor
  · rintro ⟨c, hc, rfl⟩
    obtain ⟨h1, h2⟩ := List.mem_filter.1 hc
    exact ⟨c, h1, h2, rfl⟩
  · rintro ⟨c, h1, h2, rfl⟩
    exact ⟨c, List.mem_filter.2 ⟨h1, h2⟩, rfl⟩
theorem tents_perm {y : Lay} {M : St} {txn : Int} {L : List (Chg × Value)} (hL : L.map Prod.fst = M.lg txn) (ha : RowsApart y M) : ((tents y M L).map fun e => (e.2.1.key, e.2.1.id)).Perm (M.touched txn) := by
  refine (List.perm_ext_iff_of_nodup (nodup_of (tents_nodup L) fun a ha' b hb' e => ?_) (by unfold St.touched; exact nodup_uniq _)).2 fun q => ?_
  · injection e with e1 e2
    rw [(tents_mem L a ha').2.1, (tents_mem L b hb').2.1, e1, e2]
  · rw [touched_mem, List.mem_map]
    constructor
    · rintro ⟨e, he, rfl⟩
      obtain ⟨h1, _, h3⟩ := tents_mem L e he
      exact ⟨e.2.1, by rw [← hL]; exact List.mem_map_of_mem h3, h1, rfl⟩
    · rintro ⟨c, hc, h1, rfl⟩
      rw [← hL] at hc
      obtain ⟨p, hp, rfl⟩ := List.mem_map.1 hc
      obtain ⟨e, he, h2⟩ := List.mem_map.1 (tents_has L p hp h1)
      obtain ⟨g1, g2, g3⟩ := tents_mem L e he
      obtain ⟨r, v, hr, _⟩ := tch_row h1
      obtain ⟨r', v', hr', _⟩ := tch_row g1
      obtain ⟨e1, e2⟩ := ha _ _ _ _ _ _ hr' hr (by rw [← g2, h2])
      exact ⟨e, he, by rw [e1, e2]⟩
theorem Walks.both {κ : Type} {enc : κ → Value} {ok : κ → Prop} {G : Gh} {r b : Nat} {left : List (κ × Value)} (h : Walks enc ok G r b left) : ∃ o1 o2, G b = some o1 ∧ G r = some o2 := by
  obtain ⟨es, clk, seen, L, h1, _, h3, _⟩ := h
  exact ⟨_, _, h1, h3⟩
end Go.Ju

/- Load: the plain law. -/
import Derived.Test.YthdnjokioboehaaGreatDoorLoad
import Derived.Test.YthdnjokioboehaaGreatDoorVis
namespace Go.Ju
theorem loadM_tab {i : Img} {k : Key} {t : Tab} (h : aget (loadM i).tabs k = some t) : ∃ s ∈ i.tabs, s.key = k ∧ t = loadTab s := by
  have := aget_mem h
  obtain ⟨s, hs, e⟩ := List.mem_map.1 (show (k, t) ∈ i.tabs.map fun s => (s.key, loadTab s) from this)
  cases e
  exact ⟨s, hs, rfl, rfl⟩
theorem loadM_get {i : Img} (hn : (i.tabs.map StoredM.key).Nodup) {s : StoredM} (hs : s ∈ i.tabs) : aget (loadM i).tabs s.key = some (loadTab s) :=
  aget_of_mem (by show ((loadTabs i.tabs).map Prod.fst).Nodup; rw [loadTabs_keys]; exact hn) (List.mem_map.2 ⟨s, hs, rfl⟩)
theorem loadM_row {i : Img} {k : Key} {id : Int} {r : RowS} (h : (loadM i).row k id = some r) : ∃ s ∈ i.tabs, ∃ p ∈ s.rows, r = rowV p.2 := by
  obtain ⟨t, ht, hr⟩ := row_some h
  obtain ⟨s, hs, _, rfl⟩ := loadM_tab ht
  obtain ⟨p, hp, e⟩ := List.mem_map.1 (show (id, r) ∈ s.rows.map loadRow from aget_mem hr)
  cases e
  exact ⟨s, hs, p, hp, rfl⟩
theorem Inv.load {i : Img} (h : isImageB i = true) (hl : i.tabs.length < 2000) : Inv 2000 (loadM i) := by
  obtain ⟨hT, hgood, hsort⟩ := isImage_parts h
  have hn := keys_nodup hsort
  have hlg : ∀ x, (loadM i).lg x = [] := fun x => rfl
  refine ⟨⟨fun x => by rw [hlg]; simp, fun k t ht => ?_, hT, by show (loadTabs i.tabs).length ≤ 2000; unfold loadTabs; rw [List.length_map]; omega, fun k => by show 0 ≤ (0 : Int) ∧ (0 : Int) ≤ _; omega, by show ((loadTabs i.tabs).map Prod.fst).Nodup; rw [loadTabs_keys]; exact hn, by simp [loadM], by simp [loadM], fun k id r hr => ?_, fun x c hc => (by rw [hlg] at hc; cases hc), fun x hx => absurd (hlg x) hx, fun x => ⟨fun k id j c hc => (by rw [hlg] at hc; simp [live] at hc), fun k id => ?_⟩⟩, fun k id r hr => ?_⟩
  · obtain ⟨s, hs, rfl, rfl⟩ := loadM_tab ht
    have hg := hgood s hs
    obtain ⟨p1, p2⟩ := heldsB_parts hg.rows
    have hnx := hg.next
    unfold numB at hnx
    simp only [Bool.and_eq_true, decide_eq_true_eq] at hnx
    have hfst : (loadTab s).rows.map Prod.fst = s.rows.map Prod.fst := by unfold loadTab; rw [List.map_map]; rfl
    refine ⟨by show (s.rows.map loadRow).length ≤ 2000; rw [List.length_map]; have := hg.len; omega, hnx, by rw [hfst]; exact p2, fun id hid => ?_⟩
    rw [hfst] at hid
    obtain ⟨p, hp, rfl⟩ := List.mem_map.1 hid
    have := p1 p hp
    exact ⟨by omega, this.2.1⟩
  · obtain ⟨s, hs, p, hp, rfl⟩ := loadM_row hr
    have hb := ((heldsB_parts (hgood s hs).rows).1 p hp).2.2
    refine ⟨by simp [rowV], fun v hv => ?_, fun v hv => ?_, fun e => by simp [rowV] at e⟩
    · have := rowB_len hb
      simp only [rowV, List.mem_singleton] at hv
      rcases hv with rfl | hv
      · exact this
      · cases hv
    · simp only [rowV, List.mem_singleton] at hv
      subst hv
      exact ⟨Int.le_refl _, hT.1⟩
  · rw [hlg]
    constructor
    · intro h; exact absurd rfl h
    · rintro ⟨r, hr, ho, _⟩
      obtain ⟨s, hs, p, hp, rfl⟩ := loadM_row hr
      simp [rowV] at ho
  · obtain ⟨s, hs, p, hp, rfl⟩ := loadM_row hr
    left
    simp [rowV]
theorem sortK_self {l : List Key} (h : l.Pairwise (fun a b => ltK a b = true)) : sortK l = l := by
  unfold sortK
  refine List.mergeSort_of_pairwise (h.imp fun {a b} hab => ?_)
  rw [ltK_asymm hab]
  rfl
theorem rowV_at {l : List Val} {T : Int} (hT : 0 ≤ T) : (rowV l).at T 0 = (some ⟨0, false, l⟩, true) := by
  unfold RowS.at RowS.mine rowV RowS.seenOld
  simp [hT]
theorem loadTab_seen {s : StoredM} {T : Int} (hT : 0 ≤ T) : (loadTab s).seenA T 0 = (s.rows, 0) := by
  rw [seen_told]
  have h1 : (loadTab s).rows.all (fun p => (p.2.at T 0).2) = true := by
    rw [List.all_eq_true]
    intro p hp
    obtain ⟨q, _, rfl⟩ := List.mem_map.1 (show p ∈ s.rows.map loadRow from hp)
    show ((rowV q.2).at T 0).2 = true
    rw [rowV_at hT]
  rw [if_pos h1]
  congr 1
  unfold seenL
  show (s.rows.map loadRow).filterMap (heldF T 0) = s.rows
  rw [List.filterMap_map]
  have : ∀ l : List (Int × List Val), l.filterMap (heldF T 0 ∘ loadRow) = l := fun l => by
    induction l with
    | nil => rfl
    | cons q l ih =>
      rw [List.filterMap_cons, ih]
      have : (heldF T 0 ∘ loadRow) q = some q := by
        show heldF T 0 (loadRow q) = some q
        rw [heldF_vis]
        unfold visR
        show (match ((rowV q.2).at T 0).1 with | none => none | some v => if v.gone then none else some v.row).map (fun l => (q.1, l)) = some q
        rw [rowV_at hT]
        rfl
      rw [this]
  exact this _
theorem load_image {i : Img} (h : isImageB i = true) : (loadM i).imageA i.time = (i, 0) := by
  obtain ⟨hT, hgood, hsort⟩ := isImage_parts h
  have hn := keys_nodup hsort
  have hk : (loadM i).tabs.map Prod.fst = i.tabs.map StoredM.key := loadTabs_keys _
  unfold St.imageA
  rw [decide_eq_false (show ¬ i.time < 0 by omega), decide_eq_false (show ¬ (loadM i).time < i.time by show ¬ i.time < i.time; omega), hk, sortK_self hsort]
  have hs : ∀ s ∈ i.tabs, (loadM i).storedF i.time s.key = some s ∧ (loadM i).toldF i.time s.key = true := fun s hs => by
    have hseen := loadTab_seen (s := s) hT.1
    refine ⟨?_, ?_⟩
    · unfold St.storedF
      rw [loadM_get hn hs, Option.map_some, hseen]
      rfl
    · unfold St.toldF
      rw [loadM_get hn hs]
      unfold Tab.seenA at hseen
      cases hx : (loadTab s).seen i.time 0 with
      | none =>
        rw [hx] at hseen
        injection hseen with _ e
        exact absurd e (by decide)
      | some _ => show ((loadTab s).seen i.time 0).isSome = true; rw [hx]; rfl
  have h1 : (i.tabs.map StoredM.key).all ((loadM i).toldF i.time) = true := by
    rw [List.all_eq_true]
    intro k hk
    obtain ⟨s, hs', rfl⟩ := List.mem_map.1 hk
    exact (hs s hs').2
  have h2 : ∀ l : List StoredM, (∀ s ∈ l, s ∈ i.tabs) → (l.map StoredM.key).filterMap ((loadM i).storedF i.time) = l := fun l => by
    induction l with
    | nil => intro _; rfl
    | cons s l ih =>
      intro hl
      rw [List.map_cons, List.filterMap_cons, (hs s (hl s (by simp))).1, ih (fun t ht => hl t (by simp [ht]))]
  simp only [Bool.or_self, Bool.false_eq_true, if_false, h1, if_true]
  rw [h2 _ (fun s hs => hs)]
theorem image_small {i : Img} (h : isImageB i = true) (hl : i.tabs.length < 2000) : ImgSmall i.tabs := by
  obtain ⟨_, hgood, _⟩ := isImage_parts h
  refine ⟨by omega, fun s hs => ⟨by have := (hgood s hs).len; omega, fun p hp => ?_⟩⟩
  have := rowB_len ((heldsB_parts (hgood s hs).rows).1 p hp).2.2
  omega
end Go.Ju

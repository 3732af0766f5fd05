/- A slice of acts that the caller itself makes: 'append(append([]Act{}, more...), l...)'. -/
import Derived.Test.YthdnjokioboehaaGreatDoorView
namespace Go.Ju
open Go.RowKit
open Go.Proofs
open Go.ChangeMaps

/-- What is read along with the row of one's own. -/
theorem Appended.narrow {GO Ga : Gh} {u u' : World} {e size n m : Nat} {v v' : Value} {xs ys : List Value} {GX : Gh} (hO : Own GO e size v n xs) (hGa : Holds Ga u)
    (h : Appended (GO.or Ga) u e size v m ys v' GX u') : ∃ GO', Appended GO u e size v m ys v' GO' u' := by
  obtain ⟨h1, h2, h3, h4, h5⟩ := h
  have hown : ∀ b, some b = v.ownBlock → ∃ o, GO b = some o := fun b hb => by
    rcases hO.2 with ⟨rfl, _⟩ | ⟨g, cap, cur, rfl, hg, _⟩
    · cases hb
    · cases hb; exact ⟨_, hg⟩
  refine ⟨fun b => if some b = v.ownBlock ∨ b = u.heap.size then GX b else GO b, ⟨fun b o hb => ?_, h1.os, h1.tape, h1.output, h1.size, fun b hb hg => ?_, fun b hb => ?_⟩, h2.keep fun b o hb ho => ?_, fun b hb1 hb2 => ?_, h4, h5⟩
  · split at hb
    · exact h1.holds b o hb
    · rename_i e
      exact h1.holds b o (by rw [h3 b (fun e' => e (.inl e')) (fun e' => e (.inr e'))]; exact Gh.or_left _ _ hb)
  · cases hx : (GO.or Ga) b with
    | none => exact h1.keep b hb hx
    | some o =>
      have hga : Ga b = some o := by unfold Gh.or at hx; rw [hg] at hx; exact hx
      have hne : some b ≠ v.ownBlock := fun e => by obtain ⟨o', ho'⟩ := hown b e; rw [hg] at ho'; cases ho'
      rw [h1.holds b o (by rw [h3 b hne (by omega)]; exact hx), hGa b o hga]
  · split at hb
    · rename_i e
      rcases e with e | e
      · obtain ⟨o, ho⟩ := hown b e
        exact .inl (by rw [ho]; simp)
      · exact .inr (by omega)
    · exact .inl hb
  · show (if _ then _ else _) = _
    rcases h4 with h4 | h4
    · rw [if_pos (.inl (by rw [← hb, h4]))]; exact ho
    · rw [h4] at hb
      cases hb
      rw [if_pos (.inr rfl)]; exact ho
  · show (if _ then _ else _) = _
    rw [if_neg (fun e => by rcases e with e | e; exact hb1 e; exact hb2 e)]
/-- Acts in a row of one's own: the cells are in GO, what they lead to in Ga. -/
def OwnActs (GO Ga : Gh) (v : Value) (l : List ActM) : Prop := ∃ css, All2 (ActIs Ga) l css ∧ Own GO 43 7 v l.length css.flatten
theorem OwnActs.acts {GO Ga G : Gh} {v : Value} {l : List ActM} (h : OwnActs GO Ga v l) (hl : l.length ≤ 140737488351232) (h1 : Sub GO G) (h2 : Sub Ga G) : ActsAt G v l := by
  obtain ⟨css, h3, h4⟩ := h
  obtain ⟨A, c, rfl, hc, hs⟩ := h4.form
  refine ⟨css, A, c, h3.imp (fun a cs k => ?_), rfl, hc, hl, hs.sub h1⟩
  obtain ⟨⟨rv, k1, k2⟩, k3, k4, k5, k6, k7, k8, k9⟩ := k
  exact ⟨⟨rv, k1, k2.sub h2⟩, k3, k4, k5, k6, k7, k8, k9⟩
theorem act_cells {Ga : Gh} {l : List ActM} {css : List (List Value)} (h : All2 (ActIs Ga) l css) : css.flatten.length = l.length * 7 ∧ ∀ u ∈ css.flatten, u.oneCell' = true := by
  induction h with
  | nil => exact ⟨by simp, by simp⟩
  | cons h1 _ ih =>
    obtain ⟨⟨rv, e, A, c, e2, _⟩, _⟩ := h1
    subst e2
    subst e
    refine ⟨by simp only [List.flatten_cons, List.length_append, List.length_cons, List.length_nil, ih.1]; omega, fun u hu => ?_⟩
    rw [List.flatten_cons, List.mem_append] at hu
    rcases hu with hu | hu
    · simp only [List.mem_cons, List.not_mem_nil, or_false] at hu
      rcases hu with rfl | rfl | rfl | rfl | rfl | rfl | rfl <;> rfl
    · exact ih.2 u hu
theorem Tryz.infoAct : (Tryz.prog.info? 43).map (fun i => (i.zero, i.size, i.bytes)) = some (some (.agg #[.int .i64 0, .string ⟨#[]⟩, .string ⟨#[]⟩, .int .i64 0, .int .i64 0, .int .i64 0, .slice none 0 0]), 7, 88) := by kernel_rfl
/-- Where a caller's store and its row of acts stand. -/
structure AllSt (w0 : World) (p n : Nat) (M : St) (G GO Ga : Gh) (v : Value) (l : List ActM) (W : World) : Prop where
  st : Stage w0 p n M (G.or GO) W
  ap : Apart G GO
  fr : From w0.heap.size GO
  own : OwnActs GO Ga v l
theorem AllSt.start {w0 W : World} {p n : Nat} {M : St} {G Ga : Gh} (h : Stage w0 p n M G W) (hB : w0.heap.size ≤ W.heap.size) : AllSt w0 p n M G (Gh.nil.put W.heap.size (.cells #[] 43 (0, 0))) Ga (.slice (some ⟨W.heap.size, 0, none⟩) 0 0) [] (W.alloc (.cells #[] 43 (0, 0))) := by
  have hap : Apart G (Gh.nil.put W.heap.size (.cells #[] 43 (0, 0))) := fun b => by
    by_cases e : b = W.heap.size
    · left
      cases hx : G b with
      | none => rfl
      | some o => have := h.holds.lt hx; omega
    · right; rw [Gh.put_other _ _ e]; rfl
  refine ⟨(h.alloc (.cells #[] 43 (0, 0))).weaken (sub_or (fun b o hb => ?_) (fun b o hb => ?_)), hap, fun b hb => ?_, [], .nil, by simp, .inr ⟨_, 0, #[], rfl, Gh.put_same _ _ _, Nat.le_refl _, by simp [maxLen], by simp, by simp⟩⟩
  · rw [Gh.put_other _ _ (by have := h.holds.lt hb; omega)]; exact hb
  · by_cases e : b = W.heap.size
    · subst e; rw [Gh.put_same] at hb ⊢; exact hb
    · rw [Gh.put_other _ _ e] at hb; cases hb
  · by_cases e : b = W.heap.size
    · omega
    · rw [Gh.put_other _ _ e] at hb; exact absurd rfl hb
theorem AllSt.append {w0 W W' : World} {p n : Nat} {M : St} {G GO Ga : Gh} {v v' : Value} {l m : List ActM} {css css' : List (List Value)} (h : AllSt w0 p n M G GO Ga v l W) (hGa : Holds Ga W) (h1 : All2 (ActIs Ga) l css) (h2 : All2 (ActIs Ga) m css')
    (ho : Own GO 43 7 v l.length css.flatten) {GX : Gh} (ha : Appended (GO.or Ga) W 43 7 v (l.length + m.length) (css.flatten ++ css'.flatten) v' GX W') : ∃ GO', AllSt w0 p n M G GO' Ga v' (l ++ m) W' := by
  obtain ⟨GO', hb⟩ := ha.narrow ho hGa
  obtain ⟨h3, h4, h5⟩ := h.st.swap h.ap h.fr hb.1
  exact ⟨GO', h3, h4, h5, css ++ css', h1.append h2, by rw [List.length_append, List.flatten_append]; exact hb.2.1⟩
/-- All that an append of a list that came in asks, and what it gives. -/
theorem AllSt.ready {w0 W : World} {p n : Nat} {M : St} {G GO Ga : Gh} {v : Value} {l : List ActM} (h : AllSt w0 p n M G GO Ga v l W) (hGa0 : Holds Ga w0) {A : Option Addr} {m : List ActM} {k c : Nat} (hk : m.length = k) (hm : ActsAt Ga (.slice A k c) m) :
    ∃ xs ys, Holds (GO.or Ga) W ∧ Own (GO.or Ga) 43 7 v l.length xs ∧ ys.length = k * 7 ∧ Span (GO.or Ga) A ys ∧ (A = none → k = 0) ∧ (∀ u ∈ ys, u.oneCell' = true) ∧
      ∀ v' GX W', Appended (GO.or Ga) W 43 7 v (l.length + k) (xs ++ ys) v' GX W' → ∃ GO', AllSt w0 p n M G GO' Ga v' (l ++ m) W' := by
  subst hk
  have hGa : Holds Ga W := hGa0.below h.st.below
  have hap : Apart GO Ga := fun b => by
    cases hx : GO b with
    | none => exact .inl rfl
    | some o =>
      right
      cases hy : Ga b with
      | none => rfl
      | some z => have := hGa0.lt hy; have := h.fr b (by rw [hx]; simp); omega
  obtain ⟨css, h1, ho⟩ := h.own
  obtain ⟨css', A', c', h2, hv, _, _, hs⟩ := hm
  cases hv
  obtain ⟨k1, k2⟩ := act_cells h2
  have hGO : Holds GO W := fun b o hb => h.st.holds b o (Gh.or_right h.ap hb)
  refine ⟨css.flatten, css'.flatten, (holds_or hGO hGa).1, ho.keep (fun b o _ hb => Gh.or_left _ _ hb), k1, hs.sub (sub_right hap), fun e => ?_, k2, fun v' GX W' ha => h.append hGa h1 h2 ho ha⟩
  subst e
  have := Span.none_nil hs
  rw [this] at k1
  simp only [List.length_nil] at k1
  omega
theorem AllSt.acts {w0 W : World} {p n : Nat} {M : St} {G GO Ga : Gh} {v : Value} {l : List ActM} (h : AllSt w0 p n M G GO Ga v l W) (hGa0 : Holds Ga w0) (hl : l.length ≤ 1000) :
    ∃ A c, v = .slice A l.length c ∧ ActsAt (GO.or Ga) (.slice A l.length c) l := by
  have hap : Apart GO Ga := fun b => by
    cases hx : GO b with
    | none => exact .inl rfl
    | some o =>
      right
      cases hy : Ga b with
      | none => rfl
      | some z => have := hGa0.lt hy; have := h.fr b (by rw [hx]; simp); omega
  have h1 := h.own.acts (G := GO.or Ga) (by omega) (sub_left _ _) (sub_right hap)
  obtain ⟨css, A, c, a1, a2, a3, a4, a5⟩ := h1
  exact ⟨A, c, a2, css, A, c, a1, rfl, a3, a4, a5⟩
/-- A box of the caller's is written. -/
theorem Stage.reset {w0 u : World} {p n s : Nat} {M : St} {G : Gh} {cs cs' : Array Value} {t : TypeId} (h : Stage w0 p n M (G.put s (.cells cs t (0, 0))) u) (hn : w0.heap.size ≤ s) {i : Nat} {v : Value} (he : cs.setIfInBounds i v = cs') :
    Stage w0 p n M (G.put s (.cells cs' t (0, 0))) (u.setCell ⟨s, i, none⟩ v) := by
  have := h.setCell (i := i) (Gh.put_same _ _ _) hn v
  rw [Gh.put_put, he] at this
  exact this
end Go.Ju

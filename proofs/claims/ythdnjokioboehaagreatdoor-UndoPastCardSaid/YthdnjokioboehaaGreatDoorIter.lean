/- 'for k, v := range m' over a map that the loop does not write, the map known as a list ('MapOf'). No program is named. -/
import Derived.Test.YthdnjokioboehaaGreatDoorMaps
import Derived.Maps.RangeWalk
namespace Go.Ju
open Go.MapKept Go.ChangeMaps
open Go.RowKit

section
variable {κ : Type} {P : Program} {enc : κ → Value} {ok : κ → Prop}

/-- Block r of G is an iterator over map b; what is to come is the list 'left', in whatever order. -/
def Walks (enc : κ → Value) (ok : κ → Prop) (G : Gh) (r b : Nat) (left : List (κ × Value)) : Prop :=
  ∃ es clk seen L, G b = some (.map es clk) ∧ MapOf enc ok es clk L ∧ G r = some (.mapIter (some b) clk seen clk) ∧ r ≠ b ∧
    ((leftOf es seen).toList.map fun e => (e.key, e.val)).Perm (left.map fun p => (enc p.1, p.2)) ∧ ∀ p ∈ left, ok p.1

theorem Walks.keep {G G' : Gh} {r b : Nat} {left : List (κ × Value)} (h : Walks enc ok G r b left) (hb : G' b = G b) (hr : G' r = G r) : Walks enc ok G' r b left := by
  obtain ⟨es, clk, seen, L, h1, h2, h3, h4, h5⟩ := h
  exact ⟨es, clk, seen, L, by rw [hb, h1], h2, by rw [hr, h3], h4, h5⟩

theorem leftOf_none (es : Array MapEntry) : leftOf es #[] = es := by
  unfold leftOf
  simp

theorem Walks.start {G : Gh} {w : World} {b : Nat} {es : Array MapEntry} {clk : Nat} {L : List (κ × Value)} (hG : Holds G w) (hb : G b = some (.map es clk)) (h : MapOf enc ok es clk L) :
    Walks enc ok (G.put w.heap.size (.mapIter (some b) clk #[] clk)) w.heap.size b L :=
  ⟨es, clk, #[], L, Gh.put_some G hb (hG.ne_size hb), h, Gh.put_same _ _ _, (hG.ne_size hb).symm, by rw [leftOf_none]; exact h.perm, h.oks⟩

/-- 'next' at an iterator wherever it lies. -/
theorem run_next_at {w : World} {b r clk : Nat} {seen : Array Nat} {es : Array MapEntry} (ty : TypeId) (hb : w.heap[b]? = some (.map es clk)) (hr : w.heap[r]? = some (.mapIter (some b) clk seen clk)) (hold : ∀ x ∈ es.toList, x.born < clk) :
    ((leftOf es seen).size = 0 ∧ (Instr.next (.pointer (some ⟨r, 0, none⟩)) false ty).run P w = .ok (.tuple #[.bool false]) w) ∨
    ∃ e ∈ (leftOf es seen).toList, ∃ n, (Instr.next (.pointer (some ⟨r, 0, none⟩)) false ty).run P w = .ok (.tuple #[.bool true, e.key, e.val]) ((setBlock w r (.mapIter (some b) clk (seen.push e.born) clk)).drewN n) := by
  have g1 : (getObj r).run P w = .ok (.mapIter (some b) clk seen clk) w := run_getObj_any hr (by simp)
  have g2 : (getObj b).run P w = .ok (.map es clk) w := getObj_map hb
  simp only [Instr.next, Sem.run_bind, g1, g2, Result.andThen, next_test_false seen es clk clk hold (Nat.le_refl _), Bool.false_eq_true, if_false]
  unfold leftOf
  have hmem : ∀ x ∈ (Array.filter (fun e => !seen.contains e.born) es).toList, x.born < clk := fun x hx => hold x (by simp at hx ⊢; exact hx.1)
  generalize Array.filter (fun e => !seen.contains e.born) es = L at hmem ⊢
  have e1 : L.filter (fun x => decide (x.born < clk)) = L := Array.filter_eq_self.2 (fun x hx => by simpa using hmem x (by simpa using hx))
  have e2 : L.filter (fun x => decide (x.born ≥ clk)) = #[] := by
    rw [Array.filter_eq_empty_iff]
    intro x hx
    have := hmem x (by simpa using hx)
    simp
    omega
  simp only [e1, e2, Array.append_empty]
  by_cases h0 : L.size = 0
  · left
    have : L = #[] := Array.eq_empty_of_size_eq_zero h0
    subst this
    refine ⟨rfl, ?_⟩
    simp [choose, Sem.run, Question.forced]
  · right
    have hne : L.isEmpty = false := by simp [Array.isEmpty, h0]
    simp only [hne, Bool.false_eq_true, if_false, Array.empty_append, Array.size_map]
    have hch : ∃ (j n : Nat), j < L.size ∧ (choose (Question.mapNext L.size)).run P w = .ok j (w.drewN n) := by
      by_cases hf : L.size ≤ 1
      · exact ⟨0, 0, by omega, by simp [choose, Sem.run, Question.forced, hf]; rfl⟩
      · exact ⟨_, 1, Nat.mod_lt _ (by omega), by
          simp only [choose, Sem.run, Question.forced, decide_eq_true_eq, hf, if_false, Question.cut]
          rfl⟩
    obtain ⟨j, n, hj, hrun⟩ := hch
    refine ⟨L[j], by simp, n, ?_⟩
    have hset : ∀ o', (setObj r o').run P (w.drewN n) = .ok () (setBlock (w.drewN n) r o') := fun o' => run_setObj_any (w := w.drewN n) (o := .mapIter (some b) clk seen clk) (by simpa using hr) (by simp) o'
    simp only [hrun, Array.getElem?_map, Array.getElem?_eq_getElem hj, Option.map_some, Sem.run_bind, hset, Result.andThen]
    rfl

theorem run_entry_at {w : World} {b r since clk : Nat} {seen : Array Nat} {es : Array MapEntry} {e : MapEntry} (hb : w.heap[b]? = some (.map es clk)) (hr : w.heap[r]? = some (.mapIter (some b) since (seen.push e.born) clk)) (he : e ∈ es.toList) (hn : (es.toList.map (·.born)).Nodup) :
    (Instr.entry (.pointer (some ⟨r, 0, none⟩))).run P w = .ok (.tuple #[e.key, e.val]) w := by
  have g1 : (getObj r).run P w = .ok (.mapIter (some b) since (seen.push e.born) clk) w := run_getObj_any hr (by simp)
  have g2 : (getObj b).run P w = .ok (.map es clk) w := getObj_map hb
  have hf : es.find? (·.born == e.born) = some e := by rw [← Array.find?_toList]; exact find_born e es.toList hn he
  simp only [Instr.entry, Sem.run_bind, g1, g2, Result.andThen, Array.back?_push, bne_self_eq_false, Bool.false_eq_true, if_false, hf]
  rfl

theorem left_erase {es : Array MapEntry} {seen : Array Nat} {e : MapEntry} (hn : (es.toList.map (·.born)).Nodup) (he : e ∈ (leftOf es seen).toList) :
    (leftOf es seen).toList.Perm (e :: (leftOf es (seen.push e.born)).toList) := by
  have h1 : (leftOf es (seen.push e.born)).toList = (leftOf es seen).toList.filter (fun x => decide (x.born ≠ e.born)) := by
    unfold leftOf
    rw [Array.toList_filter, Array.toList_filter, List.filter_filter]
    apply List.filter_congr
    intro x _
    by_cases hx : x.born = e.born
    · simp [hx]
    · simp [hx]
  have hsub : (leftOf es seen).toList.Sublist es.toList := by
    unfold leftOf
    rw [Array.toList_filter]
    exact List.filter_sublist
  have hn' : ((leftOf es seen).toList.map (·.born)).Nodup := (hsub.map _).nodup hn
  rw [h1]
  generalize (leftOf es seen).toList = l at he hn'
  induction l with
  | nil => simp at he
  | cons x r ih =>
    simp only [List.map_cons, List.nodup_cons] at hn'
    rcases List.mem_cons.1 he with rfl | he'
    · have : r.filter (fun x => decide (x.born ≠ e.born)) = r := List.filter_eq_self.2 (fun y hy => by
        simp only [ne_eq, decide_eq_true_eq]
        exact fun e' => hn'.1 (by rw [← e']; exact List.mem_map_of_mem hy))
      rw [List.filter_cons, if_neg (by simp), this]
    · have hne : x.born ≠ e.born := fun e' => hn'.1 (by rw [e']; exact List.mem_map_of_mem he')
      rw [List.filter_cons, if_pos (by simpa using hne)]
      exact ((ih he' hn'.2).cons x).trans (List.Perm.swap _ _ _)

/-- THE STEP. -/
theorem wpList_next_walks {w : World} {ops : Array Oper} {rest : List Oper} {o : Oper} {a : Act} {Q : Exit → Act → World → Prop} (hg : o.guard = none) (it : Operand) (hop : o.op = Op.next it false)
    (G : Gh) (r b : Nat) (left : List (κ × Value)) (hit : a.eval it = .pointer (some ⟨r, 0, none⟩)) (hG : Holds G w) (h : Walks enc ok G r b left)
    (hDone : left = [] → wpList P ops Q rest (a.put o.dst (.tuple #[.bool false])) w)
    (hMore : ∀ (p : κ × Value) (left' : List (κ × Value)) (x : Obj) (w' : World), left.Perm (p :: left') → ok p.1 → Ev G w (G.put r x) w' → w'.heap.size = w.heap.size → Walks enc ok (G.put r x) r b left' →
      (Instr.entry (.pointer (some ⟨r, 0, none⟩))).run P w' = .ok (.tuple #[enc p.1, p.2]) w' → wpList P ops Q rest (a.put o.dst (.tuple #[.bool true, enc p.1, p.2])) w') :
    wpList P ops Q (o :: rest) a w := by
  refine wpList_plain hg fun K' hK' => ?_
  obtain ⟨es, clk, seen, L, h1, h2, h3, h4, h5, h6⟩ := h
  unfold Oper.wp
  rcases run_next_at (P := P) o.type (hG b _ h1) (hG r _ h3) h2.born.1 with ⟨h0, hrun⟩ | ⟨e, he, n, hrun⟩
  · simp [execOp, hop, hit, hrun, Result.andThen]
    refine hK' _ _ (hDone ?_)
    have : (leftOf es seen).toList = [] := by
      rw [← Array.length_toList] at h0
      exact List.eq_nil_of_length_eq_zero h0
    rw [this] at h5
    have hl := h5.length_eq
    simp at hl
    exact List.eq_nil_of_length_eq_zero hl.symm
  · have hmem : (e.key, e.val) ∈ left.map (fun p => (enc p.1, p.2)) := h5.mem_iff.1 (List.mem_map_of_mem he)
    obtain ⟨p, hp, hpe⟩ := List.mem_map.1 hmem
    simp only [Prod.mk.injEq] at hpe
    obtain ⟨left1, left2, rfl⟩ := List.append_of_mem hp
    have hperm : (left1 ++ p :: left2).Perm (p :: (left1 ++ left2)) := List.perm_middle
    have hes : e ∈ es.toList := by
      unfold leftOf at he
      rw [Array.toList_filter] at he
      exact (List.mem_filter.1 he).1
    have hok : ok p.1 := h6 p hp
    simp [execOp, hop, hit, hrun, Result.andThen]
    refine hK' _ _ ?_
    rw [← hpe.1, ← hpe.2]
    have hev : Ev G w (G.put r (.mapIter (some b) clk (seen.push e.born) clk)) ((setBlock w r (.mapIter (some b) clk (seen.push e.born) clk)).drewN n) := ((Ev.refl hG).setBlock h3 _).drewN n
    refine hMore p (left1 ++ left2) _ _ hperm hok hev (by simp [setBlock]) ⟨es, clk, seen.push e.born, L, Gh.put_some G h1 h4.symm, h2, Gh.put_same _ _ _, h4, ?_, fun q hq => h6 q (hperm.mem_iff.2 (List.mem_cons_of_mem _ hq))⟩ ?_
    · have h7 := (((left_erase h2.born.2 he).map fun e => (e.key, e.val)).symm.trans h5).trans (hperm.map fun p => (enc p.1, p.2))
      simp only [List.map_cons, hpe.1, hpe.2] at h7
      exact h7.cons_inv
    · rw [hpe.1, hpe.2]
      exact run_entry_at (hev.holds b _ (Gh.put_some G h1 h4.symm)) (hev.holds r _ (Gh.put_same _ _ _)) hes h2.born.2

/-- 'range m'. -/
theorem wpList_range_walks {w : World} {ops : Array Oper} {rest : List Oper} {o : Oper} {a : Act} {Q : Exit → Act → World → Prop} (hg : o.guard = none) (m : Operand) (t : TypeId) (hop : o.op = Op.range t m) (k e : TypeId) (ht : P.underlying t = some (.map k e))
    (G : Gh) (b : Nat) (es : Array MapEntry) (clk : Nat) (hm : a.eval m = .map (some b)) (hG : Holds G w) (hb : G b = some (.map es clk))
    (hK : wpList P ops Q rest (a.put o.dst (.pointer (some ⟨w.heap.size, 0, none⟩))) (w.alloc (.mapIter (some b) clk #[] clk))) :
    wpList P ops Q (o :: rest) a w := by
  refine wpList_plain hg fun K' hK' => ?_
  unfold Oper.wp
  simp [execOp, hop, hm, run_range_map w t k e b es clk ht (hG b _ hb), Result.andThen]
  exact hK' _ _ hK
end
end Go.Ju

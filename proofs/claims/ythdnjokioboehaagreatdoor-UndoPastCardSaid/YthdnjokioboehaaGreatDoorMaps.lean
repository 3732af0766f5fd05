/- A map's block as a list of its entries in whatever order ('MapOf'), and what look-ups, stores, deletes and ranges come to. No program is named. -/
import Derived.Test.YthdnjokioboehaaGreatDoorBase
import Derived.Maps.Keyed
import Derived.Carry
namespace Go.Ju
open Go.MapKept Go.ChangeMaps
open Go.RowKit

/-- Keys of κ, written by enc, in worlds of W, are keys of type kt. -/
structure KL {κ : Type} (P : Program) (kt : TypeId) (enc : κ → Value) (ok : κ → Prop) (W : World → Prop) : Prop where
  inj : ∀ {a b : κ}, ok a → ok b → enc a = enc b → a = b
  check : ∀ w, W w → ∀ (em : Bool) (k : κ), ok k → (Instr.checkKey em 10000 kt (enc k)).run P w = .ok () w
  find : ∀ w, W w → ∀ k : κ, ok k → ∀ es : List MapEntry, (∀ e ∈ es, ∃ k' : κ, ok k' ∧ e.key = enc k') →
    ((Instr.findKey kt (enc k) es).run P w = .ok none w ∧ ∀ e ∈ es, e.key ≠ enc k) ∨ ∃ j e, (Instr.findKey kt (enc k) es).run P w = .ok (some (j, e.val)) w ∧ es[j]? = some e ∧ e.key = enc k
  stays : ∀ (w : World) (k : κ), ok k → (Instr.keyThatStays (enc k) (enc k)).run P w = .ok (enc k) w

/-- Out of the library's own bundle. -/
theorem KL.of_keyed {κ : Type} {P : Program} {kt : TypeId} {enc : κ → Value} {ok : κ → Prop} (K : Maps.Keyed P kt) (hinj : ∀ {a b : κ}, ok a → ok b → enc a = enc b → a = b)
    (hk : ∀ k, ok k → ∃ l, keyOf P kt (enc k) = some l) : KL P kt enc ok (fun _ => True) where
  inj := hinj
  check w _ em k h := by obtain ⟨l, hl⟩ := hk k h; exact K.check w em hl
  find w _ k h es hes := by
    obtain ⟨l, hl⟩ := hk k h
    exact K.find w hl es (fun e he => by
      obtain ⟨k', h', e'⟩ := hes e he
      obtain ⟨l', hl'⟩ := hk k' h'
      exact ⟨l', by rw [e']; exact hl'⟩)
  stays w k h := by obtain ⟨l, hl⟩ := hk k h; exact K.stays w hl

section
variable {P : Program} {w : World} {b : Nat}
theorem run_getObj_any {o : Obj} (hb : w.heap[b]? = some o) (hc : ∀ c t fr, o ≠ .cells c t fr) : (getObj b).run P w = .ok o w := by
  cases o with
  | cells c t fr => exact absurd rfl (hc c t fr)
  | _ => simp [getObj, Sem.run, hb]

theorem run_setObj_any {o : Obj} (hb : w.heap[b]? = some o) (hc : ∀ c t fr, o ≠ .cells c t fr) (x : Obj) : (setObj b x).run P w = .ok () (setBlock w b x) := by
  cases o with
  | cells c t fr => exact absurd rfl (hc c t fr)
  | _ => simp [setObj, Sem.run, hb, setBlock]

theorem getObj_map {es : Array MapEntry} {clk : Nat} (hb : w.heap[b]? = some (.map es clk)) : (getObj b).run P w = .ok (.map es clk) w := run_getObj_any hb (by simp)
theorem setObj_map {es : Array MapEntry} {clk : Nat} (hb : w.heap[b]? = some (.map es clk)) (x : Obj) : (setObj b x).run P w = .ok () (setBlock w b x) := run_setObj_any hb (by simp) x
end

section
variable {κ : Type} [DecidableEq κ] {P : Program} {kt : TypeId} {enc : κ → Value} {ok : κ → Prop} {W : World → Prop}

/-- The entries es are, in some order, the list L. -/
structure MapOf (enc : κ → Value) (ok : κ → Prop) (es : Array MapEntry) (clk : Nat) (L : List (κ × Value)) : Prop where
  perm : (es.toList.map fun e => (e.key, e.val)).Perm (L.map fun p => (enc p.1, p.2))
  oks : ∀ p ∈ L, ok p.1
  nodup : (L.map Prod.fst).Nodup
  born : (∀ x ∈ es.toList, x.born < clk) ∧ (es.toList.map (·.born)).Nodup

omit [DecidableEq κ] in
theorem MapOf.empty (clk : Nat) : MapOf enc ok #[] clk [] := ⟨by simp, by simp, by simp, by simp, by simp⟩

omit [DecidableEq κ] in
theorem MapOf.congr {es : Array MapEntry} {clk : Nat} {L L' : List (κ × Value)} (h : MapOf enc ok es clk L) (hp : L.Perm L') : MapOf enc ok es clk L' :=
  ⟨h.perm.trans (hp.map _), fun p hp' => h.oks p (hp.mem_iff.2 hp'), (hp.map Prod.fst).nodup_iff.1 h.nodup, h.born⟩

omit [DecidableEq κ] in
theorem MapOf.size {es : Array MapEntry} {clk : Nat} {L : List (κ × Value)} (h : MapOf enc ok es clk L) : es.size = L.length := by
  have := h.perm.length_eq
  simpa using this

omit [DecidableEq κ] in
theorem MapOf.keys {es : Array MapEntry} {clk : Nat} {L : List (κ × Value)} (h : MapOf enc ok es clk L) : ∀ e ∈ es.toList, ∃ p ∈ L, e.key = enc p.1 ∧ e.val = p.2 := fun e he => by
  have h1 : (e.key, e.val) ∈ es.toList.map (fun e => (e.key, e.val)) := List.mem_map_of_mem he
  have h2 := h.perm.mem_iff.1 h1
  obtain ⟨p, hp, e'⟩ := List.mem_map.1 h2
  simp only [Prod.mk.injEq] at e'
  exact ⟨p, hp, e'.1.symm, e'.2.symm⟩

omit [DecidableEq κ] in
theorem MapOf.has {es : Array MapEntry} {clk : Nat} {L : List (κ × Value)} (h : MapOf enc ok es clk L) {p : κ × Value} (hp : p ∈ L) : ∃ e ∈ es.toList, e.key = enc p.1 ∧ e.val = p.2 := by
  have h1 : (enc p.1, p.2) ∈ L.map (fun p => (enc p.1, p.2)) := List.mem_map_of_mem hp
  have h2 := h.perm.mem_iff.2 h1
  obtain ⟨e, he, e'⟩ := List.mem_map.1 h2
  simp only [Prod.mk.injEq] at e'
  exact ⟨e, he, e'.1, e'.2⟩

omit [DecidableEq κ] in
theorem nodup_val {L : List (κ × Value)} (h : (L.map Prod.fst).Nodup) {k : κ} {v v' : Value} (h1 : (k, v) ∈ L) (h2 : (k, v') ∈ L) : v = v' := by
  induction L with
  | nil => simp at h1
  | cons p r ih =>
    obtain ⟨pk, pv⟩ := p
    simp only [List.map_cons, List.nodup_cons] at h
    rcases List.mem_cons.1 h1 with e1 | e1 <;> rcases List.mem_cons.1 h2 with e2 | e2
    · cases e1; cases e2; rfl
    · cases e1; exact absurd (List.mem_map_of_mem (f := Prod.fst) e2) h.1
    · cases e2; exact absurd (List.mem_map_of_mem (f := Prod.fst) e1) h.1
    · exact ih h.2 e1 e2

omit [DecidableEq κ] in
/-- What is looked for is found, or is not there. -/
theorem MapOf.find (K : KL P kt enc ok W) {w : World} (hw : W w) {es : Array MapEntry} {clk : Nat} {L : List (κ × Value)} (h : MapOf enc ok es clk L) {k : κ} (hk : ok k) :
    ((Instr.findKey kt (enc k) es.toList).run P w = .ok none w ∧ k ∉ L.map Prod.fst) ∨
    ∃ j e v, (Instr.findKey kt (enc k) es.toList).run P w = .ok (some (j, v)) w ∧ es.toList[j]? = some e ∧ e.key = enc k ∧ e.val = v ∧ (k, v) ∈ L := by
  rcases K.find w hw k hk es.toList (fun e he => by obtain ⟨p, hp, h1, _⟩ := h.keys e he; exact ⟨p.1, h.oks p hp, h1⟩) with ⟨hr, hn⟩ | ⟨j, e, hr, hj, he⟩
  · refine .inl ⟨hr, fun hm => ?_⟩
    obtain ⟨p, hp, rfl⟩ := List.mem_map.1 hm
    obtain ⟨e, he, h1, _⟩ := h.has hp
    exact hn e he h1
  · refine .inr ⟨j, e, e.val, hr, hj, he, rfl, ?_⟩
    obtain ⟨p, hp, h1, h2⟩ := h.keys e (List.mem_of_getElem? hj)
    have : p.1 = k := K.inj (h.oks p hp) hk (by rw [← h1, he])
    rw [← this, h2]
    exact hp

omit [DecidableEq κ] in
theorem MapOf.unique (K : KL P kt enc ok W) {es : Array MapEntry} {clk : Nat} {L : List (κ × Value)} (h : MapOf enc ok es clk L) {i j : Nat} {x y : MapEntry} {z : Value} (hi : es.toList[i]? = some x) (hj : es.toList[j]? = some y) (hx : x.key = z) (hy : y.key = z) : i = j := by
  have hn : (es.toList.map (·.key)).Nodup := by
    have h1 : (es.toList.map (·.key)).Perm (L.map fun p => enc p.1) := by
      have := h.perm.map Prod.fst
      simpa [List.map_map, Function.comp_def] using this
    refine h1.nodup_iff.2 ?_
    have h2 := h.nodup
    have h3 := h.oks
    clear h h1 hi hj
    induction L with
    | nil => simp
    | cons p r ih =>
      simp only [List.map_cons, List.nodup_cons] at h2 ⊢
      refine ⟨fun hm => ?_, ih h2.2 (fun q hq => h3 q (by simp [hq]))⟩
      obtain ⟨q, hq, e⟩ := List.mem_map.1 hm
      exact h2.1 (by rw [← K.inj (h3 q (by simp [hq])) (h3 p (by simp)) e]; exact List.mem_map_of_mem hq)
  have hi' : (es.toList.map (·.key))[i]? = some z := by rw [List.getElem?_map, hi]; simp [hx]
  have hj' : (es.toList.map (·.key))[j]? = some z := by rw [List.getElem?_map, hj]; simp [hy]
  have hli := (List.getElem?_eq_some_iff.1 hi').1
  exact (List.getElem?_inj hli hn).1 (by rw [hi', hj'])

section
variable {w : World} {t e : TypeId} {b : Nat} {es : Array MapEntry} {clk : Nat} {L : List (κ × Value)} {k : κ} {v z : Value}

omit [DecidableEq κ] in
theorem run_lookup_there (K : KL P kt enc ok W) (ht : P.underlying t = some (.map kt e)) (hw : W w) (hb : w.heap[b]? = some (.map es clk)) (h : MapOf enc ok es clk L) (hk : ok k) (hv : (k, v) ∈ L) :
    (Instr.lookup t (.map (some b)) (enc k) false).run P w = .ok v w := by
  rcases h.find K hw hk with ⟨_, hn⟩ | ⟨j, e0, v0, hr, _, _, _, hm⟩
  · exact absurd (List.mem_map_of_mem (f := Prod.fst) hv) hn
  · have e1 := nodup_val h.nodup hm hv
    subst e1
    simp [Instr.lookup, run_underlying ht, getObj_map hb, K.check w hw _ k hk, hr, Result.andThen]

omit [DecidableEq κ] in
theorem run_lookup_gone (K : KL P kt enc ok W) (ht : P.underlying t = some (.map kt e)) (hw : W w) (hb : w.heap[b]? = some (.map es clk)) (h : MapOf enc ok es clk L) (hk : ok k) (hv : k ∉ L.map Prod.fst) (hz : (zeroValue e).run P w = .ok z w) :
    (Instr.lookup t (.map (some b)) (enc k) false).run P w = .ok z w := by
  rcases h.find K hw hk with ⟨hr, _⟩ | ⟨j, e0, v0, hr, _, _, _, hm⟩
  · simp [Instr.lookup, run_underlying ht, getObj_map hb, K.check w hw _ k hk, hr, hz, Result.andThen]
  · exact absurd (List.mem_map_of_mem (f := Prod.fst) hm) hv

omit [DecidableEq κ] in
theorem set_self {α : Type} {l : List α} {j : Nat} {e : α} (h : l[j]? = some e) : l.set j e = l := by
  obtain ⟨hlt, rfl⟩ := List.getElem?_eq_some_iff.1 h
  exact List.set_getElem_self hlt

theorem upd_perm {L : List (κ × Value)} (h : (L.map Prod.fst).Nodup) {k : κ} {v0 v : Value} (hm : (k, v0) ∈ L) :
    (L.map fun p => if p.1 = k then (k, v) else p).Perm ((k, v) :: L.filter (fun p => decide (p.1 ≠ k))) := by
  induction L with
  | nil => simp at hm
  | cons p r ih =>
    simp only [List.map_cons, List.nodup_cons] at h
    by_cases e : p.1 = k
    · have hr : ∀ q ∈ r, q.1 ≠ k := fun q hq e' => h.1 (by rw [e, ← e']; exact List.mem_map_of_mem hq)
      have h1 : r.map (fun p => if p.1 = k then (k, v) else p) = r := by
        rw [List.map_congr_left (g := id)]
        · simp
        · intro q hq; simp [hr q hq]
      have h2 : r.filter (fun p => decide (p.1 ≠ k)) = r := List.filter_eq_self.2 (fun q hq => by simpa using hr q hq)
      simp only [List.map_cons, e, if_true, h1, List.filter_cons, ne_eq, not_true_eq_false, decide_false, Bool.false_eq_true, if_false]
      rw [show r.filter (fun p => decide (¬ p.1 = k)) = r from h2]
    · rcases List.mem_cons.1 hm with e1 | e1
      · exact absurd (by rw [← e1]) e
      · have := ih h.2 e1
        simp only [List.map_cons, e, if_false, List.filter_cons, ne_eq, not_false_eq_true, decide_true, if_true]
        exact (this.cons p).trans (List.Perm.swap _ _ _)

omit [DecidableEq κ] in
theorem run_keyThat {P : Program} (K : KL P kt enc ok W) (w : World) {k : κ} (hk : ok k) {j : Nat} {e0 : MapEntry} (hj : es.toList[j]? = some e0) (he : e0.key = enc k) :
    (Instr.keyThatStays (((es[j]?).map (·.key)).getD (enc k)) (enc k)).run P w = .ok (enc k) w := by
  have : es[j]? = some e0 := by simpa using hj
  rw [this]
  simp only [Option.map_some, Option.getD_some, he]
  exact K.stays w k hk

omit [DecidableEq κ] in
theorem run_update_new (K : KL P kt enc ok W) (ht : P.underlying t = some (.map kt e)) (hw : W w) (_hb : w.heap[b]? = some (.map es clk)) (h : MapOf enc ok es clk L) (hk : ok k) (hv : k ∉ L.map Prod.fst) (v : Value) :
    ∃ es', (∀ w', W w' → w'.heap[b]? = some (.map es clk) → (Instr.mapUpdate t (.map (some b)) (enc k) v).run P w' = .ok () (setBlock w' b (.map es' (clk + 1)))) ∧ MapOf enc ok es' (clk + 1) ((k, v) :: L) := by
  rcases h.find K hw hk with ⟨_, _⟩ | ⟨j, e0, v0, hr, _, _, _, hm⟩
  · refine ⟨es.push { key := enc k, val := v, born := clk }, fun w hw hb => ?_, ?_⟩
    · rcases h.find K hw hk with ⟨hr, _⟩ | ⟨j, e0, v0, hr, _, _, _, hm⟩
      case inr => exact absurd (List.mem_map_of_mem (f := Prod.fst) hm) hv
      simp [Instr.mapUpdate, run_underlying ht, getObj_map hb, K.check w hw _ k hk, hr, setObj_map hb, Result.andThen]
    · refine ⟨?_, ?_, ?_, ?_, ?_⟩
      · simp only [Array.toList_push, List.map_append, List.map_cons, List.map_nil]
        exact (List.perm_append_comm.trans (h.perm.cons _))
      · intro p hp
        rcases List.mem_cons.1 hp with rfl | hp
        · exact hk
        · exact h.oks p hp
      · simp only [List.map_cons, List.nodup_cons]
        exact ⟨hv, h.nodup⟩
      · intro x hx
        simp only [Array.toList_push, List.mem_append, List.mem_cons, List.not_mem_nil, or_false] at hx
        rcases hx with hx | rfl
        · exact Nat.lt_succ_of_lt (h.born.1 x hx)
        · exact Nat.lt_succ_self _
      · simp only [Array.toList_push, List.map_append, List.map_cons, List.map_nil]
        rw [List.nodup_append]
        refine ⟨h.born.2, by simp, fun a ha b hb' => ?_⟩
        obtain ⟨x, hx, rfl⟩ := List.mem_map.1 ha
        simp only [List.mem_cons, List.not_mem_nil, or_false] at hb'
        have := h.born.1 x hx
        omega
  · exact absurd (List.mem_map_of_mem (f := Prod.fst) hm) hv

theorem run_update_old (K : KL P kt enc ok W) (ht : P.underlying t = some (.map kt e)) (hw : W w) (_hb : w.heap[b]? = some (.map es clk)) (h : MapOf enc ok es clk L) (hk : ok k) {v0 : Value} (hv : (k, v0) ∈ L) (v : Value) :
    ∃ es', (∀ w', W w' → w'.heap[b]? = some (.map es clk) → (Instr.mapUpdate t (.map (some b)) (enc k) v).run P w' = .ok () (setBlock w' b (.map es' clk))) ∧ MapOf enc ok es' clk (L.map fun p => if p.1 = k then (k, v) else p) := by
  rcases h.find K hw hk with ⟨_, hn⟩ | ⟨j, e0, v1, _, hj, hke, _, hm⟩
  · exact absurd (List.mem_map_of_mem (f := Prod.fst) hv) hn
  · have hlt : j < es.toList.length := (List.getElem?_eq_some_iff.1 hj).1
    have hset : (es.modify j fun x => { x with key := enc k, val := v }).toList = es.toList.set j { e0 with key := enc k, val := v } := by
      rw [Array.toList_modify]
      exact modify_eq_set _ _ _ _ hj
    refine ⟨es.modify j fun x => { x with key := enc k, val := v }, fun w hw hb => ?_, ?_⟩
    · rcases h.find K hw hk with ⟨_, hn⟩ | ⟨j', e0', v1', hr, hj', hke', _, _⟩
      case inl => exact absurd (List.mem_map_of_mem (f := Prod.fst) hv) hn
      obtain rfl := h.unique K hj' hj hke' hke
      have hst := run_keyThat (P := P) K w hk hj' hke'
      simp [Instr.mapUpdate, run_underlying ht, getObj_map hb, K.check w hw _ k hk, hr, hst, setObj_map hb, Result.andThen]
    · have hsetm : ((es.toList.set j { e0 with key := enc k, val := v }).map fun e => (e.key, e.val)).Perm ((enc k, v) :: (es.toList.eraseIdx j).map fun e => (e.key, e.val)) := by
        have := (set_perm es.toList j hlt { e0 with key := enc k, val := v }).map (fun e => (e.key, e.val))
        simpa using this
      have hLp : (es.toList.map fun e => (e.key, e.val)).Perm ((enc k, v1) :: (es.toList.eraseIdx j).map fun e => (e.key, e.val)) := by
        have h0 : es.toList.set j e0 = es.toList := set_self hj
        have := (set_perm es.toList j hlt e0).map (fun e => (e.key, e.val))
        rw [h0] at this
        have hv1 : e0.val = v1 := by assumption
        simpa [hke, hv1] using this
      have hLf : L.Perm ((k, v1) :: L.filter (fun p => decide (p.1 ≠ k))) := by
        have h1 := upd_perm h.nodup (v := v1) hm
        have h2 : (L.map fun p => if p.1 = k then (k, v1) else p) = L := by
          rw [List.map_congr_left (g := id)]
          · simp
          · intro p hp
            by_cases e' : p.1 = k
            · have : p.2 = v1 := nodup_val h.nodup (by rw [← e']; exact hp) hm
              simp only [e', if_true, id]
              rw [← this, ← e']
            · simp [e']
        rw [h2] at h1
        exact h1
      have hrest : ((es.toList.eraseIdx j).map fun e => (e.key, e.val)).Perm ((L.filter (fun p => decide (p.1 ≠ k))).map fun p => (enc p.1, p.2)) := by
        have h1 := (hLp.symm.trans h.perm).trans (hLf.map fun p => (enc p.1, p.2))
        simp only [List.map_cons] at h1
        exact h1.cons_inv
      refine ⟨?_, ?_, ?_, ?_, ?_⟩
      · rw [hset]
        refine hsetm.trans ?_
        refine ((hrest.cons (enc k, v))).trans ?_
        have := ((upd_perm h.nodup (v := v) hv).map fun p => (enc p.1, p.2)).symm
        simpa using this
      · intro p hp
        obtain ⟨q, hq, rfl⟩ := List.mem_map.1 hp
        split
        · exact hk
        · exact h.oks q hq
      · have : (L.map fun p => if p.1 = k then (k, v) else p).map Prod.fst = L.map Prod.fst := by
          rw [List.map_map]
          apply List.map_congr_left
          intro p _
          simp only [Function.comp]
          split
          · rename_i e'; exact e'.symm
          · rfl
        rw [this]
        exact h.nodup
      · intro x hx
        rw [hset] at hx
        rcases List.mem_or_eq_of_mem_set hx with hx | rfl
        · exact h.born.1 x hx
        · exact h.born.1 e0 (List.mem_of_getElem? hj)
      · rw [hset, List.map_set]
        have : (es.toList.map (·.born)).set j ({ e0 with key := enc k, val := v } : MapEntry).born = es.toList.map (·.born) := by
          exact set_self (by rw [List.getElem?_map, hj]; rfl)
        rw [this]
        exact h.born.2

theorem run_delete_any (K : KL P kt enc ok W) (ht : P.underlying t = some (.map kt e)) (hw : W w) (_hb : w.heap[b]? = some (.map es clk)) (h : MapOf enc ok es clk L) (hk : ok k) (u ty : TypeId) :
    ∃ es', (∀ w', W w' → w'.heap[b]? = some (.map es clk) → (Builtin.delete_ #[t, u] ty #[.map (some b), enc k]).run P w' = .ok (.tuple #[]) (setBlock w' b (.map es' clk))) ∧ MapOf enc ok es' clk (L.filter fun p => decide (p.1 ≠ k)) := by
  rcases h.find K hw hk with ⟨_, hn⟩ | ⟨j, e0, v1, _, hj, hke, hv1, hm⟩
  · refine ⟨es, fun w hw hb => ?_, ?_⟩
    · rcases h.find K hw hk with ⟨hr, _⟩ | ⟨j, e0, v1, hr, hj, hke, hv1, hm⟩
      case inr => exact absurd (List.mem_map_of_mem (f := Prod.fst) hm) hn
      simp [Builtin.delete_, run_underlying ht, getObj_map hb, K.check w hw _ k hk, hr, setObj_map hb, Result.andThen]
    · have : (L.filter fun p => decide (p.1 ≠ k)) = L := List.filter_eq_self.2 (fun p hp => by
        simp only [decide_eq_true_eq]
        exact fun e' => hn (by rw [← e']; exact List.mem_map_of_mem hp))
      rw [this]
      exact h
  · have hlt : j < es.toList.length := (List.getElem?_eq_some_iff.1 hj).1
    have herase : (es.eraseIdxIfInBounds j).toList = es.toList.eraseIdx j := by
      have hj' : j < es.size := by simpa using hlt
      simp [Array.eraseIdxIfInBounds, hj']
    refine ⟨es.eraseIdxIfInBounds j, fun w hw hb => ?_, ?_⟩
    · rcases h.find K hw hk with ⟨_, hn⟩ | ⟨j', e0', v1', hr, hj', hke', _, _⟩
      case inl => exact absurd (List.mem_map_of_mem (f := Prod.fst) hm) hn
      obtain rfl := h.unique K hj' hj hke' hke
      simp [Builtin.delete_, run_underlying ht, getObj_map hb, K.check w hw _ k hk, hr, setObj_map hb, Result.andThen]
    · have hLp : (es.toList.map fun e => (e.key, e.val)).Perm ((enc k, v1) :: (es.toList.eraseIdx j).map fun e => (e.key, e.val)) := by
        have h0 : es.toList.set j e0 = es.toList := set_self hj
        have := (set_perm es.toList j hlt e0).map (fun e => (e.key, e.val))
        rw [h0] at this
        simpa [hke, hv1] using this
      have hLf : L.Perm ((k, v1) :: L.filter (fun p => decide (p.1 ≠ k))) := by
        have h1 := upd_perm h.nodup (v := v1) hm
        have h2 : (L.map fun p => if p.1 = k then (k, v1) else p) = L := by
          rw [List.map_congr_left (g := id)]
          · simp
          · intro p hp
            by_cases e' : p.1 = k
            · have : p.2 = v1 := nodup_val h.nodup (by rw [← e']; exact hp) hm
              simp only [e', if_true, id]
              rw [← this, ← e']
            · simp [e']
        rw [h2] at h1
        exact h1
      refine ⟨?_, ?_, ?_, ?_, ?_⟩
      · rw [herase]
        have h1 := (hLp.symm.trans h.perm).trans (hLf.map fun p => (enc p.1, p.2))
        simp only [List.map_cons] at h1
        exact h1.cons_inv
      · exact fun p hp => h.oks p (List.mem_filter.1 hp).1
      · exact (List.Sublist.map _ List.filter_sublist).nodup h.nodup
      · intro x hx
        rw [herase] at hx
        exact h.born.1 x (List.mem_of_mem_eraseIdx hx)
      · rw [herase]
        exact (List.Sublist.map _ (List.eraseIdx_sublist _ _)).nodup h.born.2

end
end
end Go.Ju

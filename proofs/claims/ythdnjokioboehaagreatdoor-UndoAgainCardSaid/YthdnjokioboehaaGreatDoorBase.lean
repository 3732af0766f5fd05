/- What a call knows of the heap: a part of it, block by block ('Gh'), and how that part and the world go on together ('Ev'). No program is named. -/
import Derived.WalkKit
import Derived.WalkLawsBesides
import Derived.WalkSpells
import Derived.Deep.Draws
import Derived.ChangeMaps5
import Derived.Maps.Keyed
import Derived.Carry
import Derived.Maps.RangeWalk
import Derived.Laws.AppendOwn
import Derived.OwnWalk
namespace Go.Ju
open Go.RowKit

/-! ### a part of the heap -/
abbrev Gh := Nat → Option Obj

def Gh.put (G : Gh) (b : Nat) (o : Obj) : Gh := fun k => if k = b then some o else G k
def Gh.nil : Gh := fun _ => none

@[simp] theorem Gh.put_same (G : Gh) (b : Nat) (o : Obj) : G.put b o b = some o := by simp [Gh.put]
theorem Gh.put_other (G : Gh) {b k : Nat} (o : Obj) (h : k ≠ b) : G.put b o k = G k := by simp [Gh.put, h]
theorem Gh.put_some (G : Gh) {b k : Nat} {o x : Obj} (h : G k = some x) (hne : k ≠ b) : G.put b o k = some x := by rw [Gh.put_other G o hne, h]

def Holds (G : Gh) (w : World) : Prop := ∀ b o, G b = some o → w.heap[b]? = some o

theorem Holds.lt {G : Gh} {w : World} (h : Holds G w) {b : Nat} {o : Obj} (hb : G b = some o) : b < w.heap.size := by
  have := h b o hb
  exact (Array.getElem?_eq_some_iff.1 this).1
theorem Holds.nil (w : World) : Holds Gh.nil w := fun _ _ h => by cases h
theorem Holds.drewN {G : Gh} {w : World} (h : Holds G w) (n : Nat) : Holds G (w.drewN n) := h
theorem Holds.drew {G : Gh} {w : World} (h : Holds G w) : Holds G w.drew := h
theorem Holds.fresh {G : Gh} {w : World} (h : Holds G w) : G w.heap.size = none := by
  cases hg : G w.heap.size with
  | none => rfl
  | some o => exact absurd (h.lt hg) (by omega)
theorem Holds.ne_size {G : Gh} {w : World} (h : Holds G w) {b : Nat} {o : Obj} (hb : G b = some o) : b ≠ w.heap.size := Nat.ne_of_lt (h.lt hb)
theorem Holds.cell {G : Gh} {w : World} (h : Holds G w) {b i : Nat} {cs : Array Value} {t : TypeId} {fr : Nat × Nat} {v : Value} (hb : G b = some (.cells cs t fr)) (hi : cs[i]? = some v) : w.cell? ⟨b, i, none⟩ = some v := by
  rw [cell_of_row w b i cs t fr (h b _ hb), hi]
theorem Holds.frozen {G : Gh} {w : World} (h : Holds G w) {b i : Nat} {cs : Array Value} {t : TypeId} (hb : G b = some (.cells cs t (0, 0))) : w.frozen? ⟨b, i, none⟩ = false := by
  simp [World.frozen?, h b _ hb]
theorem Holds.alloc {G : Gh} {w : World} (h : Holds G w) (o : Obj) : Holds (G.put w.heap.size o) (w.alloc o) := by
  intro b x hb
  by_cases e : b = w.heap.size
  · subst e
    rw [Gh.put_same] at hb
    cases hb
    exact heap_alloc_new w _
  · rw [Gh.put_other G o e] at hb
    rw [Below.heap_alloc w o b (h.lt hb)]
    exact h b x hb
theorem heap_setCell_same (w : World) (b i : Nat) (v : Value) {cs : Array Value} {t : TypeId} {fr : Nat × Nat} (hb : w.heap[b]? = some (.cells cs t fr)) :
    (w.setCell ⟨b, i, none⟩ v).heap[b]? = some (.cells (cs.setIfInBounds i v) t fr) := by
  simp [World.setCell, Array.getElem?_modify, hb]

/-- From w, of which G is known, the call has come to w', of which G' is known: outside G nothing that was there has turned; what is known anew is new. -/
structure Ev (G : Gh) (w : World) (G' : Gh) (w' : World) : Prop where
  holds : Holds G' w'
  os : w'.os = w.os
  tape : w'.tape = w.tape
  output : w'.output = w.output
  size : w.heap.size ≤ w'.heap.size
  keep : ∀ b, b < w.heap.size → G b = none → w'.heap[b]? = w.heap[b]?
  fresh : ∀ b, G' b ≠ none → G b ≠ none ∨ w.heap.size ≤ b

section
variable {G G' G'' : Gh} {w w' w'' : World}
theorem Ev.refl (h : Holds G w) : Ev G w G w := ⟨h, rfl, rfl, rfl, Nat.le_refl _, fun _ _ _ => rfl, fun _ h => .inl h⟩
theorem Ev.trans (h : Ev G w G' w') (k : Ev G' w' G'' w'') : Ev G w G'' w'' :=
  ⟨k.holds, k.os.trans h.os, k.tape.trans h.tape, k.output.trans h.output, Nat.le_trans h.size k.size,
   fun b hb hg => (k.keep b (Nat.lt_of_lt_of_le hb h.size) (by
     cases hg' : G' b with
     | none => rfl
     | some o =>
       rcases h.fresh b (by simp [hg']) with h1 | h1
       · exact absurd hg h1
       · omega)).trans (h.keep b hb hg),
   fun b hb => by
     rcases k.fresh b hb with h1 | h1
     · exact h.fresh b h1
     · exact .inr (Nat.le_trans h.size h1)⟩
theorem Ev.drewN (h : Ev G w G' w') (n : Nat) : Ev G w G' (w'.drewN n) := ⟨h.holds, h.os, h.tape, h.output, h.size, h.keep, h.fresh⟩
theorem Ev.drew (h : Ev G w G' w') : Ev G w G' w'.drew := ⟨h.holds, h.os, h.tape, h.output, h.size, h.keep, h.fresh⟩
/-- Less may be known. -/
theorem Ev.weaken (h : Ev G w G' w') (hs : ∀ b o, G'' b = some o → G' b = some o) : Ev G w G'' w' :=
  ⟨fun b o hb => h.holds b o (hs b o hb), h.os, h.tape, h.output, h.size, h.keep, fun b hb => by
    cases hg : G'' b with
    | none => exact absurd hg hb
    | some o => exact h.fresh b (by rw [hs b o hg]; simp)⟩
/-- From a world that differs in draws alone. -/
theorem Ev.from_drewN {n : Nat} (h : Ev G (w.drewN n) G' w') : Ev G w G' w' := ⟨h.holds, h.os, h.tape, h.output, h.size, h.keep, h.fresh⟩
theorem Ev.alloc (h : Ev G w G' w') (o : Obj) : Ev G w (G'.put w'.heap.size o) (w'.alloc o) :=
  ⟨h.holds.alloc o, h.os, h.tape, h.output, Nat.le_trans h.size (by simp), fun b hb hg => (Below.heap_alloc w' o b (Nat.lt_of_lt_of_le hb h.size)).trans (h.keep b hb hg), fun b hb => by
    by_cases e : b = w'.heap.size
    · exact .inr (by rw [e]; exact h.size)
    · rw [Gh.put_other _ _ e] at hb
      exact h.fresh b hb⟩
theorem Ev.setCell (h : Ev G w G' w') {b i : Nat} {cs : Array Value} {t : TypeId} {fr : Nat × Nat} (hb : G' b = some (.cells cs t fr)) (v : Value) :
    Ev G w (G'.put b (.cells (cs.setIfInBounds i v) t fr)) (w'.setCell ⟨b, i, none⟩ v) := by
  refine ⟨fun k o hk => ?_, h.os, h.tape, h.output, by simpa [World.setCell] using h.size, fun k hk hg => ?_, fun k hk => ?_⟩
  · by_cases e : k = b
    · subst e
      rw [Gh.put_same] at hk
      cases hk
      exact heap_setCell_same w' k i v (h.holds k _ hb)
    · rw [Gh.put_other _ _ e] at hk
      rw [Below.heap_setCell w' ⟨b, i, none⟩ v k e]
      exact h.holds k o hk
  · by_cases e : k = b
    · subst e
      rcases h.fresh k (by simp [hb]) with h1 | h1
      · exact absurd hg h1
      · omega
    · rw [Below.heap_setCell w' ⟨b, i, none⟩ v k e]
      exact h.keep k hk hg
  · by_cases e : k = b
    · subst e
      exact h.fresh k (by simp [hb])
    · rw [Gh.put_other _ _ e] at hk
      exact h.fresh k hk
/-- A whole block written anew (a map, an iterator). -/
theorem Ev.setBlock (h : Ev G w G' w') {b : Nat} {o : Obj} (hb : G' b = some o) (x : Obj) : Ev G w (G'.put b x) (ChangeMaps.setBlock w' b x) := by
  have hlt := h.holds.lt hb
  refine ⟨fun k y hk => ?_, h.os, h.tape, h.output, by simpa [ChangeMaps.setBlock] using h.size, fun k hk hg => ?_, fun k hk => ?_⟩
  · by_cases e : k = b
    · subst e
      rw [Gh.put_same] at hk
      cases hk
      simp [ChangeMaps.setBlock, hlt]
    · rw [Gh.put_other _ _ e] at hk
      have := h.holds k y hk
      simpa [ChangeMaps.setBlock, Array.getElem?_setIfInBounds, Ne.symm e] using this
  · by_cases e : k = b
    · subst e
      rcases h.fresh k (by simp [hb]) with h1 | h1
      · exact absurd hg h1
      · omega
    · have := h.keep k hk hg
      simpa [ChangeMaps.setBlock, Array.getElem?_setIfInBounds, Ne.symm e] using this
  · by_cases e : k = b
    · subst e
      exact h.fresh k (by simp [hb])
    · rw [Gh.put_other _ _ e] at hk
      exact h.fresh k hk

/-! ### two parts -/
def Apart (G1 G2 : Gh) : Prop := ∀ b, G1 b = none ∨ G2 b = none
theorem Apart.symm {G1 G2 : Gh} (h : Apart G1 G2) : Apart G2 G1 := fun b => (h b).symm
theorem Ev.frame (h : Ev G w G' w') {G2 : Gh} (h2 : Holds G2 w) (ha : Apart G G2) : Holds G2 w' := fun b o hb => by
  rcases ha b with h1 | h1
  · rw [h.keep b (h2.lt hb) h1]
    exact h2 b o hb
  · rw [h1] at hb; cases hb
theorem Ev.apart (h : Ev G w G' w') {G2 : Gh} (h2 : Holds G2 w) (ha : Apart G G2) : Apart G' G2 := fun b => by
  cases hg : G' b with
  | none => exact .inl rfl
  | some o =>
    rcases h.fresh b (by simp [hg]) with h1 | h1
    · rcases ha b with h3 | h3
      · exact absurd h3 h1
      · exact .inr h3
    · refine .inr ?_
      cases hg2 : G2 b with
      | none => rfl
      | some x => have := h2.lt hg2; omega
def Gh.or (G1 G2 : Gh) : Gh := fun b => (G1 b).or (G2 b)
theorem Gh.or_left (G1 G2 : Gh) {b : Nat} {o : Obj} (h : G1 b = some o) : G1.or G2 b = some o := by simp [Gh.or, h]
theorem Gh.or_right {G1 G2 : Gh} (ha : Apart G1 G2) {b : Nat} {o : Obj} (h : G2 b = some o) : G1.or G2 b = some o := by
  rcases ha b with h1 | h1
  · simp [Gh.or, h1, h]
  · rw [h1] at h; cases h
theorem Holds.or {G1 G2 : Gh} (h1 : Holds G1 w) (h2 : Holds G2 w) : Holds (G1.or G2) w := fun b o hb => by
  unfold Gh.or at hb
  cases hg : G1 b with
  | some x => rw [hg] at hb; exact h1 b o (by rw [hg]; exact hb)
  | none => rw [hg] at hb; exact h2 b o hb
/-- What holds of nothing known: what was there stays. -/
theorem Ev.below (h : Ev G w G' w') {B : Nat} (hB : B ≤ w.heap.size) (hG : ∀ b, b < B → G b = none) : Below B w w' :=
  ⟨h.os, h.tape, h.output, h.size, fun k hk => h.keep k (by omega) (hG k hk)⟩
/-- A callee that leaves all that was there, as an 'Ev' at whatever is known. -/
theorem Ev.of_below (hG : Holds G w) (hb : Below w.heap.size w w') : Ev G w G w' :=
  ⟨fun b o h => (hb.block b (hG.lt h)).trans (hG b o h), hb.os, hb.tape, hb.output, hb.size, fun b h _ => hb.block b h, fun _ h => .inl h⟩
/-- .. and makes new blocks that are known. -/
theorem Ev.of_below_new (hG : Holds G w) (hb : Below w.heap.size w w') {Gr : Gh} (hr : Holds Gr w') (hf : ∀ b, Gr b ≠ none → w.heap.size ≤ b) : Ev G w (G.or Gr) w' :=
  ⟨(Holds.or (fun b o h => (hb.block b (hG.lt h)).trans (hG b o h)) hr), hb.os, hb.tape, hb.output, hb.size, fun b h _ => hb.block b h, fun b h => by
    cases hg : G b with
    | some o => exact .inl (by simp)
    | none => exact .inr (hf b (by simpa [Gh.or, hg] using h))⟩
end

/-! ### cells from an address on -/
/-- The cells xs lie from address A on, in one block of G. -/
def Span (G : Gh) (A : Option Addr) (xs : List Value) : Prop :=
  xs = [] ∨ ∃ b o cs t fr, A = some ⟨b, o, none⟩ ∧ G b = some (.cells cs t fr) ∧ ∀ j u, xs[j]? = some u → cs[o + j]? = some u

theorem Span.nil (G : Gh) (A : Option Addr) : Span G A [] := .inl rfl
theorem Span.mono {G G' : Gh} {A : Option Addr} {xs : List Value} (h : Span G A xs) (hs : ∀ b o, A.map (·.block) = some b → G b = some o → G' b = some o) : Span G' A xs := by
  rcases h with h | ⟨b, o, cs, t, fr, rfl, hb, hc⟩
  · exact .inl h
  · exact .inr ⟨b, o, cs, t, fr, rfl, hs b _ rfl hb, hc⟩
theorem Span.sub {G G' : Gh} {A : Option Addr} {xs : List Value} (h : Span G A xs) (hs : ∀ b o, G b = some o → G' b = some o) : Span G' A xs := h.mono fun b o _ => hs b o
theorem Span.cell {G : Gh} {w : World} {A : Option Addr} {xs : List Value} (h : Span G A xs) (hG : Holds G w) {j : Nat} {u : Value} (hj : xs[j]? = some u) :
    ∃ b o, A = some ⟨b, o, none⟩ ∧ w.cell? ⟨b, o + j, none⟩ = some u := by
  rcases h with rfl | ⟨b, o, cs, t, fr, rfl, hb, hc⟩
  · simp at hj
  · exact ⟨b, o, rfl, hG.cell hb (hc j u hj)⟩
theorem Span.take {G : Gh} {A : Option Addr} {xs : List Value} (h : Span G A xs) (n : Nat) : Span G A (xs.take n) := by
  rcases h with rfl | ⟨b, o, cs, t, fr, rfl, hb, hc⟩
  · exact .inl (by simp)
  · refine .inr ⟨b, o, cs, t, fr, rfl, hb, fun j u hj => hc j u ?_⟩
    rw [List.getElem?_take] at hj
    split at hj
    · exact hj
    · cases hj
theorem Span.drop {G : Gh} {b o : Nat} {xs : List Value} (h : Span G (some ⟨b, o, none⟩) xs) (n : Nat) : Span G (some ⟨b, o + n, none⟩) (xs.drop n) := by
  rcases h with rfl | ⟨b', o', cs, t, fr, e, hb, hc⟩
  · exact .inl (by simp)
  · cases e
    refine .inr ⟨b, o + n, cs, t, fr, rfl, hb, fun j u hj => ?_⟩
    rw [List.getElem?_drop] at hj
    have := hc (n + j) u hj
    rw [Nat.add_assoc]
    exact this
end Go.Ju

/- A map's block as a list of its entries in whatever order ('MapOf'), and what look-ups, stores, deletes and ranges come to. No program is named. -/
namespace Go.Ju
open Go.MapKept Go.ChangeMaps
open Go.RowKit

/-- Keys of κ, written by enc, in worlds of W, are keys of type kt. -/
structure KL {κ : Type} (P : Program) (kt : TypeId) (enc : κ → Value) (ok : κ → Prop) (W : World → Prop) : Prop where
  inj : ∀ {a b : κ}, ok a → ok b → enc a = enc b → a = b
  check : ∀ w, W w → ∀ (em : Bool) (k : κ), ok k → (Instr.checkKey em 10000 kt (enc k)).run P w = .ok () w
  find : ∀ w, W w → ∀ k : κ, ok k → ∀ es : List MapEntry, (∀ e ∈ es, ∃ k' : κ, ok k' ∧ e.key = enc k') →
    ((Instr.findKey kt (enc k) es).run P w = .ok none w ∧ ∀ e ∈ es, e.key ≠ enc k) ∨ ∃ j e, (Instr.findKey kt (enc k) es).run P w = .ok (some (j, e.val)) w ∧ es[j]? = some e ∧ e.key = enc k
  stays : ∀ (w : World) (k : κ), ok k → (Instr.keyThatStays (enc k) (enc k)).run P w = .ok (enc k) w

/-- Out of the library's own bundle. -/
theorem KL.of_keyed {κ : Type} {P : Program} {kt : TypeId} {enc : κ → Value} {ok : κ → Prop} (K : Maps.Keyed P kt) (hinj : ∀ {a b : κ}, ok a → ok b → enc a = enc b → a = b)
    (hk : ∀ k, ok k → ∃ l, keyOf P kt (enc k) = some l) : KL P kt enc ok (fun _ => True) where
  inj := hinj
  check w _ em k h := by obtain ⟨l, hl⟩ := hk k h; exact K.check w em hl
  find w _ k h es hes := by
    obtain ⟨l, hl⟩ := hk k h
    exact K.find w hl es (fun e he => by
      obtain ⟨k', h', e'⟩ := hes e he
      obtain ⟨l', hl'⟩ := hk k' h'
      exact ⟨l', by rw [e']; exact hl'⟩)
  stays w k h := by obtain ⟨l, hl⟩ := hk k h; exact K.stays w hl

section
variable {P : Program} {w : World} {b : Nat}
theorem run_getObj_any {o : Obj} (hb : w.heap[b]? = some o) (hc : ∀ c t fr, o ≠ .cells c t fr) : (getObj b).run P w = .ok o w := by
  cases o with
  | cells c t fr => exact absurd rfl (hc c t fr)
  | _ => simp [getObj, Sem.run, hb]

theorem run_setObj_any {o : Obj} (hb : w.heap[b]? = some o) (hc : ∀ c t fr, o ≠ .cells c t fr) (x : Obj) : (setObj b x).run P w = .ok () (setBlock w b x) := by
  cases o with
  | cells c t fr => exact absurd rfl (hc c t fr)
  | _ => simp [setObj, Sem.run, hb, setBlock]

theorem getObj_map {es : Array MapEntry} {clk : Nat} (hb : w.heap[b]? = some (.map es clk)) : (getObj b).run P w = .ok (.map es clk) w := run_getObj_any hb (by simp)
theorem setObj_map {es : Array MapEntry} {clk : Nat} (hb : w.heap[b]? = some (.map es clk)) (x : Obj) : (setObj b x).run P w = .ok () (setBlock w b x) := run_setObj_any hb (by simp) x
end

section
variable {κ : Type} [DecidableEq κ] {P : Program} {kt : TypeId} {enc : κ → Value} {ok : κ → Prop} {W : World → Prop}

/-- The entries es are, in some order, the list L. -/
structure MapOf (enc : κ → Value) (ok : κ → Prop) (es : Array MapEntry) (clk : Nat) (L : List (κ × Value)) : Prop where
  perm : (es.toList.map fun e => (e.key, e.val)).Perm (L.map fun p => (enc p.1, p.2))
  oks : ∀ p ∈ L, ok p.1
  nodup : (L.map Prod.fst).Nodup
  born : (∀ x ∈ es.toList, x.born < clk) ∧ (es.toList.map (·.born)).Nodup

omit [DecidableEq κ] in
theorem MapOf.empty (clk : Nat) : MapOf enc ok #[] clk [] := ⟨by simp, by simp, by simp, by simp, by simp⟩

omit [DecidableEq κ] in
theorem MapOf.congr {es : Array MapEntry} {clk : Nat} {L L' : List (κ × Value)} (h : MapOf enc ok es clk L) (hp : L.Perm L') : MapOf enc ok es clk L' :=
  ⟨h.perm.trans (hp.map _), fun p hp' => h.oks p (hp.mem_iff.2 hp'), (hp.map Prod.fst).nodup_iff.1 h.nodup, h.born⟩

omit [DecidableEq κ] in
theorem MapOf.size {es : Array MapEntry} {clk : Nat} {L : List (κ × Value)} (h : MapOf enc ok es clk L) : es.size = L.length := by
  have := h.perm.length_eq
  simpa using this

omit [DecidableEq κ] in
theorem MapOf.keys {es : Array MapEntry} {clk : Nat} {L : List (κ × Value)} (h : MapOf enc ok es clk L) : ∀ e ∈ es.toList, ∃ p ∈ L, e.key = enc p.1 ∧ e.val = p.2 := fun e he => by
  have h1 : (e.key, e.val) ∈ es.toList.map (fun e => (e.key, e.val)) := List.mem_map_of_mem he
  have h2 := h.perm.mem_iff.1 h1
  obtain ⟨p, hp, e'⟩ := List.mem_map.1 h2
  simp only [Prod.mk.injEq] at e'
  exact ⟨p, hp, e'.1.symm, e'.2.symm⟩

omit [DecidableEq κ] in
theorem MapOf.has {es : Array MapEntry} {clk : Nat} {L : List (κ × Value)} (h : MapOf enc ok es clk L) {p : κ × Value} (hp : p ∈ L) : ∃ e ∈ es.toList, e.key = enc p.1 ∧ e.val = p.2 := by
  have h1 : (enc p.1, p.2) ∈ L.map (fun p => (enc p.1, p.2)) := List.mem_map_of_mem hp
  have h2 := h.perm.mem_iff.2 h1
  obtain ⟨e, he, e'⟩ := List.mem_map.1 h2
  simp only [Prod.mk.injEq] at e'
  exact ⟨e, he, e'.1, e'.2⟩

omit [DecidableEq κ] in
theorem nodup_val {L : List (κ × Value)} (h : (L.map Prod.fst).Nodup) {k : κ} {v v' : Value} (h1 : (k, v) ∈ L) (h2 : (k, v') ∈ L) : v = v' := by
  induction L with
  | nil => simp at h1
  | cons p r ih =>
    obtain ⟨pk, pv⟩ := p
    simp only [List.map_cons, List.nodup_cons] at h
    rcases List.mem_cons.1 h1 with e1 | e1 <;> rcases List.mem_cons.1 h2 with e2 | e2
    · cases e1; cases e2; rfl
    · cases e1; exact absurd (List.mem_map_of_mem (f := Prod.fst) e2) h.1
    · cases e2; exact absurd (List.mem_map_of_mem (f := Prod.fst) e1) h.1
    · exact ih h.2 e1 e2

omit [DecidableEq κ] in
/-- What is looked for is found, or is not there. -/
theorem MapOf.find (K : KL P kt enc ok W) {w : World} (hw : W w) {es : Array MapEntry} {clk : Nat} {L : List (κ × Value)} (h : MapOf enc ok es clk L) {k : κ} (hk : ok k) :
    ((Instr.findKey kt (enc k) es.toList).run P w = .ok none w ∧ k ∉ L.map Prod.fst) ∨
    ∃ j e v, (Instr.findKey kt (enc k) es.toList).run P w = .ok (some (j, v)) w ∧ es.toList[j]? = some e ∧ e.key = enc k ∧ e.val = v ∧ (k, v) ∈ L := by
  rcases K.find w hw k hk es.toList (fun e he => by obtain ⟨p, hp, h1, _⟩ := h.keys e he; exact ⟨p.1, h.oks p hp, h1⟩) with ⟨hr, hn⟩ | ⟨j, e, hr, hj, he⟩
  · refine .inl ⟨hr, fun hm => ?_⟩
    obtain ⟨p, hp, rfl⟩ := List.mem_map.1 hm
    obtain ⟨e, he, h1, _⟩ := h.has hp
    exact hn e he h1
  · refine .inr ⟨j, e, e.val, hr, hj, he, rfl, ?_⟩
    obtain ⟨p, hp, h1, h2⟩ := h.keys e (List.mem_of_getElem? hj)
    have : p.1 = k := K.inj (h.oks p hp) hk (by rw [← h1, he])
    rw [← this, h2]
    exact hp

omit [DecidableEq κ] in
theorem MapOf.unique (K : KL P kt enc ok W) {es : Array MapEntry} {clk : Nat} {L : List (κ × Value)} (h : MapOf enc ok es clk L) {i j : Nat} {x y : MapEntry} {z : Value} (hi : es.toList[i]? = some x) (hj : es.toList[j]? = some y) (hx : x.key = z) (hy : y.key = z) : i = j := by
  have hn : (es.toList.map (·.key)).Nodup := by
    have h1 : (es.toList.map (·.key)).Perm (L.map fun p => enc p.1) := by
      have := h.perm.map Prod.fst
      simpa [List.map_map, Function.comp_def] using this
    refine h1.nodup_iff.2 ?_
    have h2 := h.nodup
    have h3 := h.oks
    clear h h1 hi hj
    induction L with
    | nil => simp
    | cons p r ih =>
      simp only [List.map_cons, List.nodup_cons] at h2 ⊢
      refine ⟨fun hm => ?_, ih h2.2 (fun q hq => h3 q (by simp [hq]))⟩
      obtain ⟨q, hq, e⟩ := List.mem_map.1 hm
      exact h2.1 (by rw [← K.inj (h3 q (by simp [hq])) (h3 p (by simp)) e]; exact List.mem_map_of_mem hq)
  have hi' : (es.toList.map (·.key))[i]? = some z := by rw [List.getElem?_map, hi]; simp [hx]
  have hj' : (es.toList.map (·.key))[j]? = some z := by rw [List.getElem?_map, hj]; simp [hy]
  have hli := (List.getElem?_eq_some_iff.1 hi').1
  exact (List.getElem?_inj hli hn).1 (by rw [hi', hj'])

section
variable {w : World} {t e : TypeId} {b : Nat} {es : Array MapEntry} {clk : Nat} {L : List (κ × Value)} {k : κ} {v z : Value}

omit [DecidableEq κ] in
theorem run_lookup_there (K : KL P kt enc ok W) (ht : P.underlying t = some (.map kt e)) (hw : W w) (hb : w.heap[b]? = some (.map es clk)) (h : MapOf enc ok es clk L) (hk : ok k) (hv : (k, v) ∈ L) :
    (Instr.lookup t (.map (some b)) (enc k) false).run P w = .ok v w := by
  rcases h.find K hw hk with ⟨_, hn⟩ | ⟨j, e0, v0, hr, _, _, _, hm⟩
  · exact absurd (List.mem_map_of_mem (f := Prod.fst) hv) hn
  · have e1 := nodup_val h.nodup hm hv
    subst e1
    simp [Instr.lookup, run_underlying ht, getObj_map hb, K.check w hw _ k hk, hr, Result.andThen]

omit [DecidableEq κ] in
theorem run_lookup_gone (K : KL P kt enc ok W) (ht : P.underlying t = some (.map kt e)) (hw : W w) (hb : w.heap[b]? = some (.map es clk)) (h : MapOf enc ok es clk L) (hk : ok k) (hv : k ∉ L.map Prod.fst) (hz : (zeroValue e).run P w = .ok z w) :
    (Instr.lookup t (.map (some b)) (enc k) false).run P w = .ok z w := by
  rcases h.find K hw hk with ⟨hr, _⟩ | ⟨j, e0, v0, hr, _, _, _, hm⟩
  · simp [Instr.lookup, run_underlying ht, getObj_map hb, K.check w hw _ k hk, hr, hz, Result.andThen]
  · exact absurd (List.mem_map_of_mem (f := Prod.fst) hm) hv

omit [DecidableEq κ] in
theorem set_self {α : Type} {l : List α} {j : Nat} {e : α} (h : l[j]? = some e) : l.set j e = l := by
  obtain ⟨hlt, rfl⟩ := List.getElem?_eq_some_iff.1 h
  exact List.set_getElem_self hlt

theorem upd_perm {L : List (κ × Value)} (h : (L.map Prod.fst).Nodup) {k : κ} {v0 v : Value} (hm : (k, v0) ∈ L) :
    (L.map fun p => if p.1 = k then (k, v) else p).Perm ((k, v) :: L.filter (fun p => decide (p.1 ≠ k))) := by
  induction L with
  | nil => simp at hm
  | cons p r ih =>
    simp only [List.map_cons, List.nodup_cons] at h
    by_cases e : p.1 = k
    · have hr : ∀ q ∈ r, q.1 ≠ k := fun q hq e' => h.1 (by rw [e, ← e']; exact List.mem_map_of_mem hq)
      have h1 : r.map (fun p => if p.1 = k then (k, v) else p) = r := by
        rw [List.map_congr_left (g := id)]
        · simp
        · intro q hq; simp [hr q hq]
      have h2 : r.filter (fun p => decide (p.1 ≠ k)) = r := List.filter_eq_self.2 (fun q hq => by simpa using hr q hq)
      simp only [List.map_cons, e, if_true, h1, List.filter_cons, ne_eq, not_true_eq_false, decide_false, Bool.false_eq_true, if_false]
      rw [show r.filter (fun p => decide (¬ p.1 = k)) = r from h2]
    · rcases List.mem_cons.1 hm with e1 | e1
      · exact absurd (by rw [← e1]) e
      · have := ih h.2 e1
        simp only [List.map_cons, e, if_false, List.filter_cons, ne_eq, not_false_eq_true, decide_true, if_true]
        exact (this.cons p).trans (List.Perm.swap _ _ _)

omit [DecidableEq κ] in
theorem run_keyThat {P : Program} (K : KL P kt enc ok W) (w : World) {k : κ} (hk : ok k) {j : Nat} {e0 : MapEntry} (hj : es.toList[j]? = some e0) (he : e0.key = enc k) :
    (Instr.keyThatStays (((es[j]?).map (·.key)).getD (enc k)) (enc k)).run P w = .ok (enc k) w := by
  have : es[j]? = some e0 := by simpa using hj
  rw [this]
  simp only [Option.map_some, Option.getD_some, he]
  exact K.stays w k hk

omit [DecidableEq κ] in
theorem run_update_new (K : KL P kt enc ok W) (ht : P.underlying t = some (.map kt e)) (hw : W w) (_hb : w.heap[b]? = some (.map es clk)) (h : MapOf enc ok es clk L) (hk : ok k) (hv : k ∉ L.map Prod.fst) (v : Value) :
    ∃ es', (∀ w', W w' → w'.heap[b]? = some (.map es clk) → (Instr.mapUpdate t (.map (some b)) (enc k) v).run P w' = .ok () (setBlock w' b (.map es' (clk + 1)))) ∧ MapOf enc ok es' (clk + 1) ((k, v) :: L) := by
  rcases h.find K hw hk with ⟨_, _⟩ | ⟨j, e0, v0, hr, _, _, _, hm⟩
  · refine ⟨es.push { key := enc k, val := v, born := clk }, fun w hw hb => ?_, ?_⟩
    · rcases h.find K hw hk with ⟨hr, _⟩ | ⟨j, e0, v0, hr, _, _, _, hm⟩
      case inr => exact absurd (List.mem_map_of_mem (f := Prod.fst) hm) hv
      simp [Instr.mapUpdate, run_underlying ht, getObj_map hb, K.check w hw _ k hk, hr, setObj_map hb, Result.andThen]
    · refine ⟨?_, ?_, ?_, ?_, ?_⟩
      · simp only [Array.toList_push, List.map_append, List.map_cons, List.map_nil]
        exact (List.perm_append_comm.trans (h.perm.cons _))
      · intro p hp
        rcases List.mem_cons.1 hp with rfl | hp
        · exact hk
        · exact h.oks p hp
      · simp only [List.map_cons, List.nodup_cons]
        exact ⟨hv, h.nodup⟩
      · intro x hx
        simp only [Array.toList_push, List.mem_append, List.mem_cons, List.not_mem_nil, or_false] at hx
        rcases hx with hx | rfl
        · exact Nat.lt_succ_of_lt (h.born.1 x hx)
        · exact Nat.lt_succ_self _
      · simp only [Array.toList_push, List.map_append, List.map_cons, List.map_nil]
        rw [List.nodup_append]
        refine ⟨h.born.2, by simp, fun a ha b hb' => ?_⟩
        obtain ⟨x, hx, rfl⟩ := List.mem_map.1 ha
        simp only [List.mem_cons, List.not_mem_nil, or_false] at hb'
        have := h.born.1 x hx
        omega
  · exact absurd (List.mem_map_of_mem (f := Prod.fst) hm) hv

theorem run_update_old (K : KL P kt enc ok W) (ht : P.underlying t = some (.map kt e)) (hw : W w) (_hb : w.heap[b]? = some (.map es clk)) (h : MapOf enc ok es clk L) (hk : ok k) {v0 : Value} (hv : (k, v0) ∈ L) (v : Value) :
    ∃ es', (∀ w', W w' → w'.heap[b]? = some (.map es clk) → (Instr.mapUpdate t (.map (some b)) (enc k) v).run P w' = .ok () (setBlock w' b (.map es' clk))) ∧ MapOf enc ok es' clk (L.map fun p => if p.1 = k then (k, v) else p) := by
  rcases h.find K hw hk with ⟨_, hn⟩ | ⟨j, e0, v1, _, hj, hke, _, hm⟩
  · exact absurd (List.mem_map_of_mem (f := Prod.fst) hv) hn
  · have hlt : j < es.toList.length := (List.getElem?_eq_some_iff.1 hj).1
    have hset : (es.modify j fun x => { x with key := enc k, val := v }).toList = es.toList.set j { e0 with key := enc k, val := v } := by
      rw [Array.toList_modify]
      exact modify_eq_set _ _ _ _ hj
    refine ⟨es.modify j fun x => { x with key := enc k, val := v }, fun w hw hb => ?_, ?_⟩
    · rcases h.find K hw hk with ⟨_, hn⟩ | ⟨j', e0', v1', hr, hj', hke', _, _⟩
      case inl => exact absurd (List.mem_map_of_mem (f := Prod.fst) hv) hn
      obtain rfl := h.unique K hj' hj hke' hke
      have hst := run_keyThat (P := P) K w hk hj' hke'
      simp [Instr.mapUpdate, run_underlying ht, getObj_map hb, K.check w hw _ k hk, hr, hst, setObj_map hb, Result.andThen]
    · have hsetm : ((es.toList.set j { e0 with key := enc k, val := v }).map fun e => (e.key, e.val)).Perm ((enc k, v) :: (es.toList.eraseIdx j).map fun e => (e.key, e.val)) := by
        have := (set_perm es.toList j hlt { e0 with key := enc k, val := v }).map (fun e => (e.key, e.val))
        simpa using this
      have hLp : (es.toList.map fun e => (e.key, e.val)).Perm ((enc k, v1) :: (es.toList.eraseIdx j).map fun e => (e.key, e.val)) := by
        have h0 : es.toList.set j e0 = es.toList := set_self hj
        have := (set_perm es.toList j hlt e0).map (fun e => (e.key, e.val))
        rw [h0] at this
        have hv1 : e0.val = v1 := by assumption
        simpa [hke, hv1] using this
      have hLf : L.Perm ((k, v1) :: L.filter (fun p => decide (p.1 ≠ k))) := by
        have h1 := upd_perm h.nodup (v := v1) hm
        have h2 : (L.map fun p => if p.1 = k then (k, v1) else p) = L := by
          rw [List.map_congr_left (g := id)]
          · simp
          · intro p hp
            by_cases e' : p.1 = k
            · have : p.2 = v1 := nodup_val h.nodup (by rw [← e']; exact hp) hm
              simp only [e', if_true, id]
              rw [← this, ← e']
            · simp [e']
        rw [h2] at h1
        exact h1
      have hrest : ((es.toList.eraseIdx j).map fun e => (e.key, e.val)).Perm ((L.filter (fun p => decide (p.1 ≠ k))).map fun p => (enc p.1, p.2)) := by
        have h1 := (hLp.symm.trans h.perm).trans (hLf.map fun p => (enc p.1, p.2))
        simp only [List.map_cons] at h1
        exact h1.cons_inv
      refine ⟨?_, ?_, ?_, ?_, ?_⟩
      · rw [hset]
        refine hsetm.trans ?_
        refine ((hrest.cons (enc k, v))).trans ?_
        have := ((upd_perm h.nodup (v := v) hv).map fun p => (enc p.1, p.2)).symm
        simpa using this
      · intro p hp
        obtain ⟨q, hq, rfl⟩ := List.mem_map.1 hp
        split
        · exact hk
        · exact h.oks q hq
      · have : (L.map fun p => if p.1 = k then (k, v) else p).map Prod.fst = L.map Prod.fst := by
          rw [List.map_map]
          apply List.map_congr_left
          intro p _
          simp only [Function.comp]
          split
          · rename_i e'; exact e'.symm
          · rfl
        rw [this]
        exact h.nodup
      · intro x hx
        rw [hset] at hx
        rcases List.mem_or_eq_of_mem_set hx with hx | rfl
        · exact h.born.1 x hx
        · exact h.born.1 e0 (List.mem_of_getElem? hj)
      · rw [hset, List.map_set]
        have : (es.toList.map (·.born)).set j ({ e0 with key := enc k, val := v } : MapEntry).born = es.toList.map (·.born) := by
          exact set_self (by rw [List.getElem?_map, hj]; rfl)
        rw [this]
        exact h.born.2

theorem run_delete_any (K : KL P kt enc ok W) (ht : P.underlying t = some (.map kt e)) (hw : W w) (_hb : w.heap[b]? = some (.map es clk)) (h : MapOf enc ok es clk L) (hk : ok k) (u ty : TypeId) :
    ∃ es', (∀ w', W w' → w'.heap[b]? = some (.map es clk) → (Builtin.delete_ #[t, u] ty #[.map (some b), enc k]).run P w' = .ok (.tuple #[]) (setBlock w' b (.map es' clk))) ∧ MapOf enc ok es' clk (L.filter fun p => decide (p.1 ≠ k)) := by
  rcases h.find K hw hk with ⟨_, hn⟩ | ⟨j, e0, v1, _, hj, hke, hv1, hm⟩
  · refine ⟨es, fun w hw hb => ?_, ?_⟩
    · rcases h.find K hw hk with ⟨hr, _⟩ | ⟨j, e0, v1, hr, hj, hke, hv1, hm⟩
      case inr => exact absurd (List.mem_map_of_mem (f := Prod.fst) hm) hn
      simp [Builtin.delete_, run_underlying ht, getObj_map hb, K.check w hw _ k hk, hr, setObj_map hb, Result.andThen]
    · have : (L.filter fun p => decide (p.1 ≠ k)) = L := List.filter_eq_self.2 (fun p hp => by
        simp only [decide_eq_true_eq]
        exact fun e' => hn (by rw [← e']; exact List.mem_map_of_mem hp))
      rw [this]
      exact h
  · have hlt : j < es.toList.length := (List.getElem?_eq_some_iff.1 hj).1
    have herase : (es.eraseIdxIfInBounds j).toList = es.toList.eraseIdx j := by
      have hj' : j < es.size := by simpa using hlt
      simp [Array.eraseIdxIfInBounds, hj']
    refine ⟨es.eraseIdxIfInBounds j, fun w hw hb => ?_, ?_⟩
    · rcases h.find K hw hk with ⟨_, hn⟩ | ⟨j', e0', v1', hr, hj', hke', _, _⟩
      case inl => exact absurd (List.mem_map_of_mem (f := Prod.fst) hm) hn
      obtain rfl := h.unique K hj' hj hke' hke
      simp [Builtin.delete_, run_underlying ht, getObj_map hb, K.check w hw _ k hk, hr, setObj_map hb, Result.andThen]
    · have hLp : (es.toList.map fun e => (e.key, e.val)).Perm ((enc k, v1) :: (es.toList.eraseIdx j).map fun e => (e.key, e.val)) := by
        have h0 : es.toList.set j e0 = es.toList := set_self hj
        have := (set_perm es.toList j hlt e0).map (fun e => (e.key, e.val))
        rw [h0] at this
        simpa [hke, hv1] using this
      have hLf : L.Perm ((k, v1) :: L.filter (fun p => decide (p.1 ≠ k))) := by
        have h1 := upd_perm h.nodup (v := v1) hm
        have h2 : (L.map fun p => if p.1 = k then (k, v1) else p) = L := by
          rw [List.map_congr_left (g := id)]
          · simp
          · intro p hp
            by_cases e' : p.1 = k
            · have : p.2 = v1 := nodup_val h.nodup (by rw [← e']; exact hp) hm
              simp only [e', if_true, id]
              rw [← this, ← e']
            · simp [e']
        rw [h2] at h1
        exact h1
      refine ⟨?_, ?_, ?_, ?_, ?_⟩
      · rw [herase]
        have h1 := (hLp.symm.trans h.perm).trans (hLf.map fun p => (enc p.1, p.2))
        simp only [List.map_cons] at h1
        exact h1.cons_inv
      · exact fun p hp => h.oks p (List.mem_filter.1 hp).1
      · exact (List.Sublist.map _ List.filter_sublist).nodup h.nodup
      · intro x hx
        rw [herase] at hx
        exact h.born.1 x (List.mem_of_mem_eraseIdx hx)
      · rw [herase]
        exact (List.Sublist.map _ (List.eraseIdx_sublist _ _)).nodup h.born.2

end
end
end Go.Ju

/- 'for k, v := range m' over a map that the loop does not write, the map known as a list ('MapOf'). No program is named. -/
namespace Go.Ju
open Go.MapKept Go.ChangeMaps
open Go.RowKit

section
variable {κ : Type} {P : Program} {enc : κ → Value} {ok : κ → Prop}

/-- Block r of G is an iterator over map b; what is to come is the list 'left', in whatever order. -/
def Walks (enc : κ → Value) (ok : κ → Prop) (G : Gh) (r b : Nat) (left : List (κ × Value)) : Prop :=
  ∃ es clk seen L, G b = some (.map es clk) ∧ MapOf enc ok es clk L ∧ G r = some (.mapIter (some b) clk seen clk) ∧ r ≠ b ∧
    ((leftOf es seen).toList.map fun e => (e.key, e.val)).Perm (left.map fun p => (enc p.1, p.2)) ∧ ∀ p ∈ left, ok p.1

theorem Walks.keep {G G' : Gh} {r b : Nat} {left : List (κ × Value)} (h : Walks enc ok G r b left) (hb : G' b = G b) (hr : G' r = G r) : Walks enc ok G' r b left := by
  obtain ⟨es, clk, seen, L, h1, h2, h3, h4, h5⟩ := h
  exact ⟨es, clk, seen, L, by rw [hb, h1], h2, by rw [hr, h3], h4, h5⟩

theorem leftOf_none (es : Array MapEntry) : leftOf es #[] = es := by
  unfold leftOf
  simp

theorem Walks.start {G : Gh} {w : World} {b : Nat} {es : Array MapEntry} {clk : Nat} {L : List (κ × Value)} (hG : Holds G w) (hb : G b = some (.map es clk)) (h : MapOf enc ok es clk L) :
    Walks enc ok (G.put w.heap.size (.mapIter (some b) clk #[] clk)) w.heap.size b L :=
  ⟨es, clk, #[], L, Gh.put_some G hb (hG.ne_size hb), h, Gh.put_same _ _ _, (hG.ne_size hb).symm, by rw [leftOf_none]; exact h.perm, h.oks⟩

/-- 'next' at an iterator wherever it lies. -/
theorem run_next_at {w : World} {b r clk : Nat} {seen : Array Nat} {es : Array MapEntry} (ty : TypeId) (hb : w.heap[b]? = some (.map es clk)) (hr : w.heap[r]? = some (.mapIter (some b) clk seen clk)) (hold : ∀ x ∈ es.toList, x.born < clk) :
    ((leftOf es seen).size = 0 ∧ (Instr.next (.pointer (some ⟨r, 0, none⟩)) false ty).run P w = .ok (.tuple #[.bool false]) w) ∨
    ∃ e ∈ (leftOf es seen).toList, ∃ n, (Instr.next (.pointer (some ⟨r, 0, none⟩)) false ty).run P w = .ok (.tuple #[.bool true, e.key, e.val]) ((setBlock w r (.mapIter (some b) clk (seen.push e.born) clk)).drewN n) := by
  have g1 : (getObj r).run P w = .ok (.mapIter (some b) clk seen clk) w := run_getObj_any hr (by simp)
  have g2 : (getObj b).run P w = .ok (.map es clk) w := getObj_map hb
  simp only [Instr.next, Sem.run_bind, g1, g2, Result.andThen, next_test_false seen es clk clk hold (Nat.le_refl _), Bool.false_eq_true, if_false]
  unfold leftOf
  have hmem : ∀ x ∈ (Array.filter (fun e => !seen.contains e.born) es).toList, x.born < clk := fun x hx => hold x (by simp at hx ⊢; exact hx.1)
  generalize Array.filter (fun e => !seen.contains e.born) es = L at hmem ⊢
  have e1 : L.filter (fun x => decide (x.born < clk)) = L := Array.filter_eq_self.2 (fun x hx => by simpa using hmem x (by simpa using hx))
  have e2 : L.filter (fun x => decide (x.born ≥ clk)) = #[] := by
    rw [Array.filter_eq_empty_iff]
    intro x hx
    have := hmem x (by simpa using hx)
    simp
    omega
  simp only [e1, e2, Array.append_empty]
  by_cases h0 : L.size = 0
  · left
    have : L = #[] := Array.eq_empty_of_size_eq_zero h0
    subst this
    refine ⟨rfl, ?_⟩
    simp [choose, Sem.run, Question.forced]
  · right
    have hne : L.isEmpty = false := by simp [Array.isEmpty, h0]
    simp only [hne, Bool.false_eq_true, if_false, Array.empty_append, Array.size_map]
    have hch : ∃ (j n : Nat), j < L.size ∧ (choose (Question.mapNext L.size)).run P w = .ok j (w.drewN n) := by
      by_cases hf : L.size ≤ 1
      · exact ⟨0, 0, by omega, by simp [choose, Sem.run, Question.forced, hf]; rfl⟩
      · exact ⟨_, 1, Nat.mod_lt _ (by omega), by
          simp only [choose, Sem.run, Question.forced, decide_eq_true_eq, hf, if_false, Question.cut]
          rfl⟩
    obtain ⟨j, n, hj, hrun⟩ := hch
    refine ⟨L[j], by simp, n, ?_⟩
    have hset : ∀ o', (setObj r o').run P (w.drewN n) = .ok () (setBlock (w.drewN n) r o') := fun o' => run_setObj_any (w := w.drewN n) (o := .mapIter (some b) clk seen clk) (by simpa using hr) (by simp) o'
    simp only [hrun, Array.getElem?_map, Array.getElem?_eq_getElem hj, Option.map_some, Sem.run_bind, hset, Result.andThen]
    rfl

theorem run_entry_at {w : World} {b r since clk : Nat} {seen : Array Nat} {es : Array MapEntry} {e : MapEntry} (hb : w.heap[b]? = some (.map es clk)) (hr : w.heap[r]? = some (.mapIter (some b) since (seen.push e.born) clk)) (he : e ∈ es.toList) (hn : (es.toList.map (·.born)).Nodup) :
    (Instr.entry (.pointer (some ⟨r, 0, none⟩))).run P w = .ok (.tuple #[e.key, e.val]) w := by
  have g1 : (getObj r).run P w = .ok (.mapIter (some b) since (seen.push e.born) clk) w := run_getObj_any hr (by simp)
  have g2 : (getObj b).run P w = .ok (.map es clk) w := getObj_map hb
  have hf : es.find? (·.born == e.born) = some e := by rw [← Array.find?_toList]; exact find_born e es.toList hn he
  simp only [Instr.entry, Sem.run_bind, g1, g2, Result.andThen, Array.back?_push, bne_self_eq_false, Bool.false_eq_true, if_false, hf]
  rfl

theorem left_erase {es : Array MapEntry} {seen : Array Nat} {e : MapEntry} (hn : (es.toList.map (·.born)).Nodup) (he : e ∈ (leftOf es seen).toList) :
    (leftOf es seen).toList.Perm (e :: (leftOf es (seen.push e.born)).toList) := by
  have h1 : (leftOf es (seen.push e.born)).toList = (leftOf es seen).toList.filter (fun x => decide (x.born ≠ e.born)) := by
    unfold leftOf
    rw [Array.toList_filter, Array.toList_filter, List.filter_filter]
    apply List.filter_congr
    intro x _
    by_cases hx : x.born = e.born
    · simp [hx]
    · simp [hx]
  have hsub : (leftOf es seen).toList.Sublist es.toList := by
    unfold leftOf
    rw [Array.toList_filter]
    exact List.filter_sublist
  have hn' : ((leftOf es seen).toList.map (·.born)).Nodup := (hsub.map _).nodup hn
  rw [h1]
  generalize (leftOf es seen).toList = l at he hn'
  induction l with
  | nil => simp at he
  | cons x r ih =>
    simp only [List.map_cons, List.nodup_cons] at hn'
    rcases List.mem_cons.1 he with rfl | he'
    · have : r.filter (fun x => decide (x.born ≠ e.born)) = r := List.filter_eq_self.2 (fun y hy => by
        simp only [ne_eq, decide_eq_true_eq]
        exact fun e' => hn'.1 (by rw [← e']; exact List.mem_map_of_mem hy))
      rw [List.filter_cons, if_neg (by simp), this]
    · have hne : x.born ≠ e.born := fun e' => hn'.1 (by rw [e']; exact List.mem_map_of_mem he')
      rw [List.filter_cons, if_pos (by simpa using hne)]
      exact ((ih he' hn'.2).cons x).trans (List.Perm.swap _ _ _)

/-- THE STEP. -/
theorem wpList_next_walks {w : World} {ops : Array Oper} {rest : List Oper} {o : Oper} {a : Act} {Q : Exit → Act → World → Prop} (hg : o.guard = none) (it : Operand) (hop : o.op = Op.next it false)
    (G : Gh) (r b : Nat) (left : List (κ × Value)) (hit : a.eval it = .pointer (some ⟨r, 0, none⟩)) (hG : Holds G w) (h : Walks enc ok G r b left)
    (hDone : left = [] → wpList P ops Q rest (a.put o.dst (.tuple #[.bool false])) w)
    (hMore : ∀ (p : κ × Value) (left' : List (κ × Value)) (x : Obj) (w' : World), left.Perm (p :: left') → ok p.1 → Ev G w (G.put r x) w' → w'.heap.size = w.heap.size → Walks enc ok (G.put r x) r b left' →
      (Instr.entry (.pointer (some ⟨r, 0, none⟩))).run P w' = .ok (.tuple #[enc p.1, p.2]) w' → wpList P ops Q rest (a.put o.dst (.tuple #[.bool true, enc p.1, p.2])) w') :
    wpList P ops Q (o :: rest) a w := by
  refine wpList_plain hg fun K' hK' => ?_
  obtain ⟨es, clk, seen, L, h1, h2, h3, h4, h5, h6⟩ := h
  unfold Oper.wp
  rcases run_next_at (P := P) o.type (hG b _ h1) (hG r _ h3) h2.born.1 with ⟨h0, hrun⟩ | ⟨e, he, n, hrun⟩
  · simp [execOp, hop, hit, hrun, Result.andThen]
    refine hK' _ _ (hDone ?_)
    have : (leftOf es seen).toList = [] := by
      rw [← Array.length_toList] at h0
      exact List.eq_nil_of_length_eq_zero h0
    rw [this] at h5
    have hl := h5.length_eq
    simp at hl
    exact List.eq_nil_of_length_eq_zero hl.symm
  · have hmem : (e.key, e.val) ∈ left.map (fun p => (enc p.1, p.2)) := h5.mem_iff.1 (List.mem_map_of_mem he)
    obtain ⟨p, hp, hpe⟩ := List.mem_map.1 hmem
    simp only [Prod.mk.injEq] at hpe
    obtain ⟨left1, left2, rfl⟩ := List.append_of_mem hp
    have hperm : (left1 ++ p :: left2).Perm (p :: (left1 ++ left2)) := List.perm_middle
    have hes : e ∈ es.toList := by
      unfold leftOf at he
      rw [Array.toList_filter] at he
      exact (List.mem_filter.1 he).1
    have hok : ok p.1 := h6 p hp
    simp [execOp, hop, hit, hrun, Result.andThen]
    refine hK' _ _ ?_
    rw [← hpe.1, ← hpe.2]
    have hev : Ev G w (G.put r (.mapIter (some b) clk (seen.push e.born) clk)) ((setBlock w r (.mapIter (some b) clk (seen.push e.born) clk)).drewN n) := ((Ev.refl hG).setBlock h3 _).drewN n
    refine hMore p (left1 ++ left2) _ _ hperm hok hev (by simp [setBlock]) ⟨es, clk, seen.push e.born, L, Gh.put_some G h1 h4.symm, h2, Gh.put_same _ _ _, h4, ?_, fun q hq => h6 q (hperm.mem_iff.2 (List.mem_cons_of_mem _ hq))⟩ ?_
    · have h7 := (((left_erase h2.born.2 he).map fun e => (e.key, e.val)).symm.trans h5).trans (hperm.map fun p => (enc p.1, p.2))
      simp only [List.map_cons, hpe.1, hpe.2] at h7
      exact h7.cons_inv
    · rw [hpe.1, hpe.2]
      exact run_entry_at (hev.holds b _ (Gh.put_some G h1 h4.symm)) (hev.holds r _ (Gh.put_same _ _ _)) hes h2.born.2

/-- 'range m'. -/
theorem wpList_range_walks {w : World} {ops : Array Oper} {rest : List Oper} {o : Oper} {a : Act} {Q : Exit → Act → World → Prop} (hg : o.guard = none) (m : Operand) (t : TypeId) (hop : o.op = Op.range t m) (k e : TypeId) (ht : P.underlying t = some (.map k e))
    (G : Gh) (b : Nat) (es : Array MapEntry) (clk : Nat) (hm : a.eval m = .map (some b)) (hG : Holds G w) (hb : G b = some (.map es clk))
    (hK : wpList P ops Q rest (a.put o.dst (.pointer (some ⟨w.heap.size, 0, none⟩))) (w.alloc (.mapIter (some b) clk #[] clk))) :
    wpList P ops Q (o :: rest) a w := by
  refine wpList_plain hg fun K' hK' => ?_
  unfold Oper.wp
  simp [execOp, hop, hm, run_range_map w t k e b es clk ht (hG b _ hb), Result.andThen]
  exact hK' _ _ hK
end
end Go.Ju

/- Slices whose array the call owns ('Own'), and what append comes to. No program is named. -/
namespace Go.Ju
open Go.RowKit

/-- Slice value v has n elements of type e (size cells each), the cells xs, in an array of its own that begins at a block's head. -/
def Own (G : Gh) (e : TypeId) (size : Nat) (v : Value) (n : Nat) (xs : List Value) : Prop :=
  xs.length = n * size ∧ ((v = .slice none 0 0 ∧ n = 0) ∨
    ∃ g cap cur, v = .slice (some ⟨g, 0, none⟩) n cap ∧ G g = some (.cells cur e (0, 0)) ∧ n ≤ cap ∧ cap ≤ maxLen ∧ cur.size = cap * size ∧ cur.toList.take (n * size) = xs)

section
variable {G G' : Gh} {e size n : Nat} {v : Value} {xs : List Value}
theorem Own.nil (G : Gh) (e size : Nat) : Own G e size (.slice none 0 0) 0 [] := ⟨by simp, .inl ⟨rfl, rfl⟩⟩
theorem Own.keep (h : Own G e size v n xs) (hk : ∀ b o, v.ownBlock = some b → G b = some o → G' b = some o) : Own G' e size v n xs := by
  obtain ⟨h1, h2⟩ := h
  refine ⟨h1, ?_⟩
  rcases h2 with h2 | ⟨g, cap, cur, rfl, hg, r⟩
  · exact .inl h2
  · exact .inr ⟨g, cap, cur, rfl, hk g _ rfl hg, r⟩
theorem Own.row (h : Own G e size v n xs) {w : World} (hG : Holds G w) : w.ownsRow 0 e size v n xs := by
  obtain ⟨h1, h2⟩ := h
  refine ⟨h1, ?_⟩
  rcases h2 with ⟨rfl, rfl⟩ | ⟨g, cap, cur, rfl, hg, h3, h4, h5, h6⟩
  · exact .inl ⟨rfl, rfl⟩
  · exact .inr ⟨g, cap, cur, rfl, Nat.zero_le _, hG g _ hg, h3, h4, h5, h6⟩
theorem Own.form (h : Own G e size v n xs) : ∃ A c, v = .slice A n c ∧ n ≤ c ∧ Span G A xs := by
  obtain ⟨h1, h2⟩ := h
  rcases h2 with ⟨rfl, rfl⟩ | ⟨g, cap, cur, rfl, hg, h3, _, _, h6⟩
  · exact ⟨none, 0, rfl, Nat.le_refl _, .inl (List.eq_nil_of_length_eq_zero (by simpa using h1))⟩
  · refine ⟨_, cap, rfl, h3, .inr ⟨g, 0, cur, e, _, rfl, hg, fun j u hj => ?_⟩⟩
    rw [← h6, List.getElem?_take] at hj
    split at hj
    · simpa using hj
    · cases hj
theorem Own.span {A : Option Addr} {c : Nat} (h : Own G e size (.slice A n c) n xs) : Span G A xs := by
  obtain ⟨A', c', hv, _, hs⟩ := h.form
  cases hv
  exact hs
theorem Own.of_row {w : World} (hG : Holds G w) {base : Nat} (h : w.ownsRow base e size v n xs) (hb : ∀ g, v.ownBlock = some g → ∃ o, G g = some o) : Own G e size v n xs := by
  obtain ⟨h1, h2⟩ := h
  refine ⟨h1, ?_⟩
  rcases h2 with ⟨rfl, rfl⟩ | ⟨g, cap, cur, rfl, _, hh, h3, h4, h5, h6⟩
  · exact .inl ⟨rfl, rfl⟩
  · obtain ⟨o, ho⟩ := hb g rfl
    have := hG g o ho
    rw [hh] at this
    cases this
    exact .inr ⟨g, cap, cur, rfl, ho, h3, h4, h5, h6⟩
end

theorem add_mk (b o j : Nat) : (⟨b, o, none⟩ : Addr).add j = ⟨b, o + j, none⟩ := by
  unfold Addr.add
  split
  · simp [*]
  · rfl

section
variable {P : Program} {w : World} {G : Gh}

/-- What append comes to, in one word: a slice that owns its array; nothing known has turned but that array, which is the old one or new. -/
def Appended (G : Gh) (w : World) (e size : Nat) (v : Value) (n : Nat) (ys : List Value) (v' : Value) (G' : Gh) (w' : World) : Prop :=
  Ev G w G' w' ∧ Own G' e size v' n ys ∧ (∀ b, some b ≠ v.ownBlock → b ≠ w.heap.size → G' b = G b) ∧ (v'.ownBlock = v.ownBlock ∨ v'.ownBlock = some w.heap.size) ∧
    (v'.ownBlock = none → n = 0)

theorem setRow_ev (hG : Holds G w) {g : Nat} {cur cs : Array Value} {t : TypeId} {fr : Nat × Nat} (hg : G g = some (.cells cur t fr)) : Ev G w (G.put g (.cells cs t fr)) (w.setRow g cs) := by
  refine ⟨fun k o hk => ?_, rfl, rfl, rfl, by simp [World.setRow], fun k hk hn => setRow_other w g k cs (fun e => by rw [e, hg] at hn; cases hn), fun k hk => ?_⟩
  · by_cases e : k = g
    · subst e
      rw [Gh.put_same] at hk
      cases hk
      exact setRow_heap w k cur cs t fr (hG k _ hg)
    · rw [Gh.put_other _ _ e] at hk
      rw [setRow_other w g k cs e]
      exact hG k o hk
  · by_cases e : k = g
    · exact .inl (by rw [e, hg]; simp)
    · rw [Gh.put_other _ _ e] at hk
      exact .inl hk

/-- append(s, x...): s owns its array. -/
theorem run_append_ev (hG : Holds G w) (t ty e : TypeId) (i : TypeInfo) (z : Value) (size bytes : Nat) (ht : P.underlying t = some (.slice e)) (hi : P.info? e = some i) (hz : i.zero = some z)
    (hsize : i.size = size) (hby : i.bytes = bytes) (hzs : z.cells.size = size) (hsz : 0 < size)
    (v : Value) (n : Nat) (xs : List Value) (hown : Own G e size v n xs)
    (X : Option Addr) (m c : Nat) (news : List Value) (hl : news.length = m * size) (hnews : Span G X news) (hX : X = none → m = 0) (h1 : ∀ u ∈ news, u.oneCell' = true)
    (h63 : n + m ≤ maxLen) (hbytes : (n + m) * bytes ≤ 140737488355328) :
    ∃ v' G' w', (Builtin.append_ #[t, t] ty #[v, .slice X m c]).run P w = .ok v' w' ∧ Appended G w e size v (n + m) (xs ++ news) v' G' w' := by
  subst hsize
  subst hby
  have hsmall : n + m ≤ 9223372036854775807 := by simp only [maxLen] at h63; omega
  have hlen : (xs ++ news).length = (n + m) * i.size := by rw [List.length_append, hown.1, hl, Nat.add_mul]
  have grown : ∀ (old : Nat),
      Appended G w e i.size v (n + m) (xs ++ news) (.slice (some ⟨w.heap.size, 0, none⟩) (n + m) (grownCap w (n + m) old e))
        (G.put w.heap.size (.cells (xs.toArray ++ news.toArray ++ Builtin.zeroCells z.cells (grownCap w (n + m) old e - (n + m))) e))
        (w.drew.alloc (.cells (xs.toArray ++ news.toArray ++ Builtin.zeroCells z.cells (grownCap w (n + m) old e - (n + m))) e)) := by
    intro old
    have hge := grownCap_ge w (n + m) old e
    have hcm : grownCap w (n + m) old e ≤ maxLen := grownCap_le_maxLen w (n + m) old e h63
    refine ⟨((Ev.refl hG).drew).alloc _, ⟨hlen, .inr ⟨w.heap.size, _, _, rfl, Gh.put_same _ _ _, hge, hcm, ?_, ?_⟩⟩, fun b _ hb => Gh.put_other _ _ hb, .inr rfl, by simp [Value.ownBlock]⟩
    · simp only [Array.size_append, List.size_toArray, size_zeroCells, hzs, hown.1, hl, ← Nat.add_mul]
      congr 1
      omega
    · simp only [Array.toList_append, List.append_assoc]
      rw [← List.append_assoc, ← hlen]
      exact List.take_left
  have same : news = [] → m = 0 → Appended G w e i.size v (n + m) (xs ++ news) v G w := by
    rintro rfl rfl
    refine ⟨Ev.refl hG, by simpa using hown, fun _ _ _ => rfl, .inl rfl, fun hv => ?_⟩
    rcases hown.2 with ⟨_, h0⟩ | ⟨g, cap, cur, rfl, _⟩
    · simpa using h0
    · simp [Value.ownBlock] at hv
  cases X with
  | none =>
    obtain rfl := hX rfl
    have hn : news = [] := List.eq_nil_of_length_eq_zero (by simpa using hl)
    refine ⟨v, G, w, ?_, same hn rfl⟩
    rcases hown.2 with ⟨rfl, rfl⟩ | ⟨g, cap, cur, rfl, _, hnc, _⟩
    · simp [Builtin.append_, run_underlying ht, sizeOf, typeInfo, hi, Builtin.lenOf, Builtin.firstCells]
    · simp [Builtin.append_, run_underlying ht, sizeOf, typeInfo, hi, Builtin.lenOf, Builtin.firstCells, hnc, storeCells]
  | some a =>
    have hnews' : ∀ j u, news[j]? = some u → w.cell? (a.add j) = some u := by
      rcases hnews with rfl | ⟨b, o, cs, t', fr, ha, hb, hc⟩
      · intro j u hu; simp at hu
      · cases ha
        intro j u hu
        rw [add_mk]
        exact hG.cell hb (hc j u hu)
    rcases hown.2 with ⟨rfl, rfl⟩ | ⟨g, cap, cur, rfl, hg, hnc, hcm, hcs, htake⟩
    · have hx : xs = [] := List.eq_nil_of_length_eq_zero (by simpa using hown.1)
      subst hx
      by_cases hm : m = 0
      · have hn : news = [] := List.eq_nil_of_length_eq_zero (by subst hm; simpa using hl)
        refine ⟨.slice none 0 0, G, w, ?_, same hn hm⟩
        subst hm
        simp [Builtin.append_, run_underlying ht, sizeOf, typeInfo, hi, Builtin.lenOf, Builtin.firstCells, loadCells, loadCellsFrom]
      · have hr := run_append_nil (P := P) w t ty e i z ht hi hz a m c news hl hnews' (by omega) (by omega) (by have hb := hbytes; simp only [Nat.zero_add] at hb; omega)
        have hgr := grown 0
        simp only [Nat.zero_add, List.nil_append, Array.empty_append] at hgr ⊢
        exact ⟨_, _, _, hr, hgr⟩
    · by_cases hroom : n + m ≤ cap
      · have hfit : n * i.size + news.length ≤ cur.size := by rw [hl, hcs, ← Nat.add_mul]; exact Nat.mul_le_mul_right _ hroom
        have hr := run_append_room (P := P) w t ty e i ht hi g n cap cur (hG g _ hg) a m c news hl hnews' h1 hroom hfit
        refine ⟨_, _, _, hr, setRow_ev hG hg, ⟨hlen, .inr ⟨g, cap, _, rfl, Gh.put_same _ _ _, hroom, hcm, ?_, ?_⟩⟩, fun b hb _ => Gh.put_other _ _ (fun e => hb (by simp [Value.ownBlock, e])), .inl rfl, by simp [Value.ownBlock]⟩
        · simp only [List.size_toArray, List.length_append, List.length_take, List.length_drop, Array.length_toList]
          omega
        · rw [htake, ← hlen]
          exact List.take_left
      · have holds : ∀ j u, xs[j]? = some u → w.cell? ((⟨g, 0, none⟩ : Addr).add j) = some u := (hown.row hG).cells (g := g) rfl
        have hr := run_append_grow (P := P) w t ty e i z ht hi hz ⟨g, 0, none⟩ n cap xs hown.1 holds a m c news hl hnews' (by omega) (by omega) (growslice_fits (by omega) hbytes)
        exact ⟨_, _, _, hr, grown cap⟩

/-- append(s, x...): s is read from wherever it lies, and has no room: a new array. -/
theorem run_append_away (hG : Holds G w) (t ty e : TypeId) (i : TypeInfo) (z : Value) (size bytes : Nat) (ht : P.underlying t = some (.slice e)) (hi : P.info? e = some i) (hz : i.zero = some z)
    (hsize : i.size = size) (hby : i.bytes = bytes) (hzs : z.cells.size = size)
    (A : Addr) (n cap : Nat) (xs : List Value) (hlx : xs.length = n * size) (hxs : Span G (some A) xs)
    (X : Addr) (m c : Nat) (news : List Value) (hl : news.length = m * size) (hnews : Span G (some X) news) (hcap : cap < n + m)
    (h63 : n + m ≤ maxLen) (hbytes : (n + m) * bytes ≤ 140737488355328) :
    ∃ v' G' w', (Builtin.append_ #[t, t] ty #[.slice (some A) n cap, .slice (some X) m c]).run P w = .ok v' w' ∧ Ev G w G' w' ∧ Own G' e size v' (n + m) (xs ++ news) ∧ (∀ b, b ≠ w.heap.size → G' b = G b) ∧ v'.ownBlock = some w.heap.size := by
  subst hsize
  subst hby
  have hsmall : n + m ≤ 9223372036854775807 := by simp only [maxLen] at h63; omega
  have hlen : (xs ++ news).length = (n + m) * i.size := by rw [List.length_append, hlx, hl, Nat.add_mul]
  have rd : ∀ (a : Addr) (ys : List Value), Span G (some a) ys → ∀ j u, ys[j]? = some u → w.cell? (a.add j) = some u := by
    intro a ys hs j u hu
    rcases hs with rfl | ⟨b, o, cs, t', fr, ha, hb, hc⟩
    · simp at hu
    · cases ha
      rw [add_mk]
      exact hG.cell hb (hc j u hu)
  have hr := run_append_grow (P := P) w t ty e i z ht hi hz A n cap xs hlx (rd A xs hxs) X m c news hl (rd X news hnews) hcap (by omega) (growslice_fits hcap hbytes)
  have hge := grownCap_ge w (n + m) cap e
  have hcm : grownCap w (n + m) cap e ≤ maxLen := grownCap_le_maxLen w (n + m) cap e h63
  refine ⟨_, _, _, hr, ((Ev.refl hG).drew).alloc _, ⟨hlen, .inr ⟨w.heap.size, _, _, rfl, Gh.put_same _ _ _, hge, hcm, ?_, ?_⟩⟩, fun b hb => Gh.put_other _ _ hb, rfl⟩
  · simp only [Array.size_append, List.size_toArray, size_zeroCells, hzs, hlx, hl, ← Nat.add_mul]
    congr 1
    omega
  · simp only [Array.toList_append, List.append_assoc]
    rw [← List.append_assoc, ← hlen]
    exact List.take_left

/-- AT THE OPERATION. -/
theorem wpList_append_ev {ops : Array Oper} {rest : List Oper} {o : Oper} {a : Act} {Q : Exit → Act → World → Prop} (hgd : o.guard = none) (s x : Operand) (t : TypeId)
    (ho : o.op = .call { callee := .builtin .append, args := #[s, x], argTypes := #[t, t] }) (hG : Holds G w)
    (e : TypeId) (i : TypeInfo) (z : Value) (size bytes : Nat) (ht : P.underlying t = some (.slice e)) (hi : P.info? e = some i) (hz : i.zero = some z)
    (hsize : i.size = size) (hby : i.bytes = bytes) (hzs : z.cells.size = size) (hsz : 0 < size)
    (v : Value) (n : Nat) (xs : List Value) (hs : a.eval s = v) (hown : Own G e size v n xs)
    (X : Option Addr) (m c : Nat) (news : List Value) (hx : a.eval x = .slice X m c) (hl : news.length = m * size) (hnews : Span G X news) (hX : X = none → m = 0) (h1 : ∀ u ∈ news, u.oneCell' = true)
    (h63 : n + m ≤ maxLen) (hbytes : (n + m) * bytes ≤ 140737488355328)
    (h : ∀ v' G' w', Appended G w e size v (n + m) (xs ++ news) v' G' w' → wpList P ops Q rest (a.put o.dst v') w') : wpList P ops Q (o :: rest) a w := by
  refine wpList_plain hgd fun _ hK => ?_
  obtain ⟨v', G', w', hr, h2⟩ := run_append_ev (P := P) hG t o.type e i z size bytes ht hi hz hsize hby hzs hsz v n xs hown X m c news hl hnews hX h1 h63 hbytes
  unfold Oper.wp execOp
  simp only [ho, resolve, invoke, builtin, Sem.run_bind, Sem.run_pure, Result.andThen_ok, List.map_toArray, List.map_cons, List.map_nil, hs, hx, hr]
  exact hK _ _ (h v' G' w' h2)
end
end Go.Ju

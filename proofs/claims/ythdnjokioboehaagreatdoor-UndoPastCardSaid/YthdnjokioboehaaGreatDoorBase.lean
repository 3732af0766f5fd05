/- What a call knows of the heap: a part of it, block by block ('Gh'), and how that part and the world go on together ('Ev'). No program is named. -/
import Derived.WalkKit
import Derived.WalkLawsBesides
import Derived.WalkSpells
import Derived.Deep.Draws
import Derived.ChangeMaps5
namespace Go.Ju
open Go.RowKit

/-! ### a part of the heap -/
abbrev Gh := Nat → Option Obj

def Gh.put (G : Gh) (b : Nat) (o : Obj) : Gh := fun k => if k = b then some o else G k
def Gh.nil : Gh := fun _ => none

@[simp] theorem Gh.put_same (G : Gh) (b : Nat) (o : Obj) : G.put b o b = some o := by simp [Gh.put]
theorem Gh.put_other (G : Gh) {b k : Nat} (o : Obj) (h : k ≠ b) : G.put b o k = G k := by simp [Gh.put, h]
theorem Gh.put_some (G : Gh) {b k : Nat} {o x : Obj} (h : G k = some x) (hne : k ≠ b) : G.put b o k = some x := by rw [Gh.put_other G o hne, h]

def Holds (G : Gh) (w : World) : Prop := ∀ b o, G b = some o → w.heap[b]? = some o

theorem Holds.lt {G : Gh} {w : World} (h : Holds G w) {b : Nat} {o : Obj} (hb : G b = some o) : b < w.heap.size := by
  have := h b o hb
  exact (Array.getElem?_eq_some_iff.1 this).1
theorem Holds.nil (w : World) : Holds Gh.nil w := fun _ _ h => by cases h
theorem Holds.drewN {G : Gh} {w : World} (h : Holds G w) (n : Nat) : Holds G (w.drewN n) := h
theorem Holds.drew {G : Gh} {w : World} (h : Holds G w) : Holds G w.drew := h
theorem Holds.fresh {G : Gh} {w : World} (h : Holds G w) : G w.heap.size = none := by
  cases hg : G w.heap.size with
  | none => rfl
  | some o => exact absurd (h.lt hg) (by omega)
theorem Holds.ne_size {G : Gh} {w : World} (h : Holds G w) {b : Nat} {o : Obj} (hb : G b = some o) : b ≠ w.heap.size := Nat.ne_of_lt (h.lt hb)
theorem Holds.cell {G : Gh} {w : World} (h : Holds G w) {b i : Nat} {cs : Array Value} {t : TypeId} {fr : Nat × Nat} {v : Value} (hb : G b = some (.cells cs t fr)) (hi : cs[i]? = some v) : w.cell? ⟨b, i, none⟩ = some v := by
  rw [cell_of_row w b i cs t fr (h b _ hb), hi]
theorem Holds.frozen {G : Gh} {w : World} (h : Holds G w) {b i : Nat} {cs : Array Value} {t : TypeId} (hb : G b = some (.cells cs t (0, 0))) : w.frozen? ⟨b, i, none⟩ = false := by
  simp [World.frozen?, h b _ hb]
theorem Holds.alloc {G : Gh} {w : World} (h : Holds G w) (o : Obj) : Holds (G.put w.heap.size o) (w.alloc o) := by
  intro b x hb
  by_cases e : b = w.heap.size
  · subst e
    rw [Gh.put_same] at hb
    cases hb
    exact heap_alloc_new w _
  · rw [Gh.put_other G o e] at hb
    rw [Below.heap_alloc w o b (h.lt hb)]
    exact h b x hb
theorem heap_setCell_same (w : World) (b i : Nat) (v : Value) {cs : Array Value} {t : TypeId} {fr : Nat × Nat} (hb : w.heap[b]? = some (.cells cs t fr)) :
    (w.setCell ⟨b, i, none⟩ v).heap[b]? = some (.cells (cs.setIfInBounds i v) t fr) := by
  simp [World.setCell, Array.getElem?_modify, hb]

/-- From w, of which G is known, the call has come to w', of which G' is known: outside G nothing that was there has turned; what is known anew is new. -/
structure Ev (G : Gh) (w : World) (G' : Gh) (w' : World) : Prop where
  holds : Holds G' w'
  os : w'.os = w.os
  tape : w'.tape = w.tape
  output : w'.output = w.output
  size : w.heap.size ≤ w'.heap.size
  keep : ∀ b, b < w.heap.size → G b = none → w'.heap[b]? = w.heap[b]?
  fresh : ∀ b, G' b ≠ none → G b ≠ none ∨ w.heap.size ≤ b

section
variable {G G' G'' : Gh} {w w' w'' : World}
theorem Ev.refl (h : Holds G w) : Ev G w G w := ⟨h, rfl, rfl, rfl, Nat.le_refl _, fun _ _ _ => rfl, fun _ h => .inl h⟩
theorem Ev.trans (h : Ev G w G' w') (k : Ev G' w' G'' w'') : Ev G w G'' w'' :=
  ⟨k.holds, k.os.trans h.os, k.tape.trans h.tape, k.output.trans h.output, Nat.le_trans h.size k.size,
   fun b hb hg => (k.keep b (Nat.lt_of_lt_of_le hb h.size) (by
     cases hg' : G' b with
     | none => rfl
     | some o =>
       rcases h.fresh b (by simp [hg']) with h1 | h1
       · exact absurd hg h1
       · omega)).trans (h.keep b hb hg),
   fun b hb => by
     rcases k.fresh b hb with h1 | h1
     · exact h.fresh b h1
     · exact .inr (Nat.le_trans h.size h1)⟩
theorem Ev.drewN (h : Ev G w G' w') (n : Nat) : Ev G w G' (w'.drewN n) := ⟨h.holds, h.os, h.tape, h.output, h.size, h.keep, h.fresh⟩
theorem Ev.drew (h : Ev G w G' w') : Ev G w G' w'.drew := ⟨h.holds, h.os, h.tape, h.output, h.size, h.keep, h.fresh⟩
/-- Less may be known. -/
theorem Ev.weaken (h : Ev G w G' w') (hs : ∀ b o, G'' b = some o → G' b = some o) : Ev G w G'' w' :=
  ⟨fun b o hb => h.holds b o (hs b o hb), h.os, h.tape, h.output, h.size, h.keep, fun b hb => by
    cases hg : G'' b with
    | none => exact absurd hg hb
    | some o => exact h.fresh b (by rw [hs b o hg]; simp)⟩
/-- From a world that differs in draws alone. -/
theorem Ev.from_drewN {n : Nat} (h : Ev G (w.drewN n) G' w') : Ev G w G' w' := ⟨h.holds, h.os, h.tape, h.output, h.size, h.keep, h.fresh⟩
theorem Ev.alloc (h : Ev G w G' w') (o : Obj) : Ev G w (G'.put w'.heap.size o) (w'.alloc o) :=
  ⟨h.holds.alloc o, h.os, h.tape, h.output, Nat.le_trans h.size (by simp), fun b hb hg => (Below.heap_alloc w' o b (Nat.lt_of_lt_of_le hb h.size)).trans (h.keep b hb hg), fun b hb => by
    by_cases e : b = w'.heap.size
    · exact .inr (by rw [e]; exact h.size)
    · rw [Gh.put_other _ _ e] at hb
      exact h.fresh b hb⟩
theorem Ev.setCell (h : Ev G w G' w') {b i : Nat} {cs : Array Value} {t : TypeId} {fr : Nat × Nat} (hb : G' b = some (.cells cs t fr)) (v : Value) :
    Ev G w (G'.put b (.cells (cs.setIfInBounds i v) t fr)) (w'.setCell ⟨b, i, none⟩ v) := by
  refine ⟨fun k o hk => ?_, h.os, h.tape, h.output, by simpa [World.setCell] using h.size, fun k hk hg => ?_, fun k hk => ?_⟩
  · by_cases e : k = b
    · subst e
      rw [Gh.put_same] at hk
      cases hk
      exact heap_setCell_same w' k i v (h.holds k _ hb)
    · rw [Gh.put_other _ _ e] at hk
      rw [Below.heap_setCell w' ⟨b, i, none⟩ v k e]
      exact h.holds k o hk
  · by_cases e : k = b
    · subst e
      rcases h.fresh k (by simp [hb]) with h1 | h1
      · exact absurd hg h1
      · omega
    · rw [Below.heap_setCell w' ⟨b, i, none⟩ v k e]
      exact h.keep k hk hg
  · by_cases e : k = b
    · subst e
      exact h.fresh k (by simp [hb])
    · rw [Gh.put_other _ _ e] at hk
      exact h.fresh k hk
/-- A whole block written anew (a map, an iterator). -/
theorem Ev.setBlock (h : Ev G w G' w') {b : Nat} {o : Obj} (hb : G' b = some o) (x : Obj) : Ev G w (G'.put b x) (ChangeMaps.setBlock w' b x) := by
  have hlt := h.holds.lt hb
  refine ⟨fun k y hk => ?_, h.os, h.tape, h.output, by simpa [ChangeMaps.setBlock] using h.size, fun k hk hg => ?_, fun k hk => ?_⟩
  · by_cases e : k = b
    · subst e
      rw [Gh.put_same] at hk
      cases hk
      simp [ChangeMaps.setBlock, hlt]
    · rw [Gh.put_other _ _ e] at hk
      have := h.holds k y hk
      simpa [ChangeMaps.setBlock, Array.getElem?_setIfInBounds, Ne.symm e] using this
  · by_cases e : k = b
    · subst e
      rcases h.fresh k (by simp [hb]) with h1 | h1
      · exact absurd hg h1
      · omega
    · have := h.keep k hk hg
      simpa [ChangeMaps.setBlock, Array.getElem?_setIfInBounds, Ne.symm e] using this
  · by_cases e : k = b
    · subst e
      exact h.fresh k (by simp [hb])
    · rw [Gh.put_other _ _ e] at hk
      exact h.fresh k hk

/-! ### two parts -/
def Apart (G1 G2 : Gh) : Prop := ∀ b, G1 b = none ∨ G2 b = none
theorem Apart.symm {G1 G2 : Gh} (h : Apart G1 G2) : Apart G2 G1 := fun b => (h b).symm
theorem Ev.frame (h : Ev G w G' w') {G2 : Gh} (h2 : Holds G2 w) (ha : Apart G G2) : Holds G2 w' := fun b o hb => by
  rcases ha b with h1 | h1
  · rw [h.keep b (h2.lt hb) h1]
    exact h2 b o hb
  · rw [h1] at hb; cases hb
theorem Ev.apart (h : Ev G w G' w') {G2 : Gh} (h2 : Holds G2 w) (ha : Apart G G2) : Apart G' G2 := fun b => by
  cases hg : G' b with
  | none => exact .inl rfl
  | some o =>
    rcases h.fresh b (by simp [hg]) with h1 | h1
    · rcases ha b with h3 | h3
      · exact absurd h3 h1
      · exact .inr h3
    · refine .inr ?_
      cases hg2 : G2 b with
      | none => rfl
      | some x => have := h2.lt hg2; omega
def Gh.or (G1 G2 : Gh) : Gh := fun b => (G1 b).or (G2 b)
theorem Gh.or_left (G1 G2 : Gh) {b : Nat} {o : Obj} (h : G1 b = some o) : G1.or G2 b = some o := by simp [Gh.or, h]
theorem Gh.or_right {G1 G2 : Gh} (ha : Apart G1 G2) {b : Nat} {o : Obj} (h : G2 b = some o) : G1.or G2 b = some o := by
  rcases ha b with h1 | h1
  · simp [Gh.or, h1, h]
  · rw [h1] at h; cases h
theorem Holds.or {G1 G2 : Gh} (h1 : Holds G1 w) (h2 : Holds G2 w) : Holds (G1.or G2) w := fun b o hb => by
  unfold Gh.or at hb
  cases hg : G1 b with
  | some x => rw [hg] at hb; exact h1 b o (by rw [hg]; exact hb)
  | none => rw [hg] at hb; exact h2 b o hb
/-- What holds of nothing known: what was there stays. -/
theorem Ev.below (h : Ev G w G' w') {B : Nat} (hB : B ≤ w.heap.size) (hG : ∀ b, b < B → G b = none) : Below B w w' :=
  ⟨h.os, h.tape, h.output, h.size, fun k hk => h.keep k (by omega) (hG k hk)⟩
/-- A callee that leaves all that was there, as an 'Ev' at whatever is known. -/
theorem Ev.of_below (hG : Holds G w) (hb : Below w.heap.size w w') : Ev G w G w' :=
  ⟨fun b o h => (hb.block b (hG.lt h)).trans (hG b o h), hb.os, hb.tape, hb.output, hb.size, fun b h _ => hb.block b h, fun _ h => .inl h⟩
/-- .. and makes new blocks that are known. -/
theorem Ev.of_below_new (hG : Holds G w) (hb : Below w.heap.size w w') {Gr : Gh} (hr : Holds Gr w') (hf : ∀ b, Gr b ≠ none → w.heap.size ≤ b) : Ev G w (G.or Gr) w' :=
  ⟨(Holds.or (fun b o h => (hb.block b (hG.lt h)).trans (hG b o h)) hr), hb.os, hb.tape, hb.output, hb.size, fun b h _ => hb.block b h, fun b h => by
    cases hg : G b with
    | some o => exact .inl (by simp)
    | none => exact .inr (hf b (by simpa [Gh.or, hg] using h))⟩
end

/-! ### cells from an address on -/
/-- The cells xs lie from address A on, in one block of G. -/
def Span (G : Gh) (A : Option Addr) (xs : List Value) : Prop :=
  xs = [] ∨ ∃ b o cs t fr, A = some ⟨b, o, none⟩ ∧ G b = some (.cells cs t fr) ∧ ∀ j u, xs[j]? = some u → cs[o + j]? = some u

theorem Span.nil (G : Gh) (A : Option Addr) : Span G A [] := .inl rfl
theorem Span.mono {G G' : Gh} {A : Option Addr} {xs : List Value} (h : Span G A xs) (hs : ∀ b o, A.map (·.block) = some b → G b = some o → G' b = some o) : Span G' A xs := by
  rcases h with h | ⟨b, o, cs, t, fr, rfl, hb, hc⟩
  · exact .inl h
  · exact .inr ⟨b, o, cs, t, fr, rfl, hs b _ rfl hb, hc⟩
theorem Span.sub {G G' : Gh} {A : Option Addr} {xs : List Value} (h : Span G A xs) (hs : ∀ b o, G b = some o → G' b = some o) : Span G' A xs := h.mono fun b o _ => hs b o
theorem Span.cell {G : Gh} {w : World} {A : Option Addr} {xs : List Value} (h : Span G A xs) (hG : Holds G w) {j : Nat} {u : Value} (hj : xs[j]? = some u) :
    ∃ b o, A = some ⟨b, o, none⟩ ∧ w.cell? ⟨b, o + j, none⟩ = some u := by
  rcases h with rfl | ⟨b, o, cs, t, fr, rfl, hb, hc⟩
  · simp at hj
  · exact ⟨b, o, rfl, hG.cell hb (hc j u hj)⟩
theorem Span.take {G : Gh} {A : Option Addr} {xs : List Value} (h : Span G A xs) (n : Nat) : Span G A (xs.take n) := by
  rcases h with rfl | ⟨b, o, cs, t, fr, rfl, hb, hc⟩
  · exact .inl (by simp)
  · refine .inr ⟨b, o, cs, t, fr, rfl, hb, fun j u hj => hc j u ?_⟩
    rw [List.getElem?_take] at hj
    split at hj
    · exact hj
    · cases hj
theorem Span.drop {G : Gh} {b o : Nat} {xs : List Value} (h : Span G (some ⟨b, o, none⟩) xs) (n : Nat) : Span G (some ⟨b, o + n, none⟩) (xs.drop n) := by
  rcases h with rfl | ⟨b', o', cs, t, fr, e, hb, hc⟩
  · exact .inl (by simp)
  · cases e
    refine .inr ⟨b, o + n, cs, t, fr, rfl, hb, fun j u hj => ?_⟩
    rw [List.getElem?_drop] at hj
    have := hc (n + j) u hj
    rw [Nat.add_assoc]
    exact this
end Go.Ju

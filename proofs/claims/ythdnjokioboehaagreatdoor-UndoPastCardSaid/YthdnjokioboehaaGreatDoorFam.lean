/- The heap's part that a store owns, in pieces that share no block ('Fam'), and how they go on ('FEv'). No program is named. -/
import Derived.Test.YthdnjokioboehaaGreatDoorMaps
import Derived.Test.YthdnjokioboehaaGreatDoorApp
import Derived.Test.YthdnjokioboehaaGreatDoorIter
namespace Go.Ju
open Go.RowKit

theorem Ev.more {H G G' : Gh} {w w' : World} (h : Ev H w G' w') (hs : ∀ b o, H b = some o → G b = some o) : Ev G w G' w' :=
  ⟨h.holds, h.os, h.tape, h.output, h.size, fun b hb hg => h.keep b hb (by
    cases hH : H b with
    | none => rfl
    | some o => rw [hs b o hH] at hg; cases hg), fun b hb => by
    rcases h.fresh b hb with h1 | h1
    · left
      cases hH : H b with
      | none => exact absurd hH h1
      | some o => rw [hs b o hH]; simp
    · exact .inr h1⟩

section
variable {ι : Type} [DecidableEq ι]

def upd (g : ι → Gh) (c : ι) (G : Gh) : ι → Gh := fun d => if d = c then G else g d
@[simp] theorem upd_same (g : ι → Gh) (c : ι) (G : Gh) : upd g c G c = G := by simp [upd]
theorem upd_other (g : ι → Gh) {c d : ι} (G : Gh) (h : d ≠ c) : upd g c G d = g d := by simp [upd, h]

/-- The pieces g hold in w, share no block, and lie from block B on. -/
structure Fam (B : Nat) (g : ι → Gh) (w : World) : Prop where
  holds : ∀ c, Holds (g c) w
  apart : ∀ c d, c ≠ d → Apart (g c) (g d)
  base : ∀ c b, g c b ≠ none → B ≤ b
  le : B ≤ w.heap.size

structure FEv (B : Nat) (g : ι → Gh) (w : World) (g' : ι → Gh) (w' : World) : Prop where
  fam : Fam B g' w'
  os : w'.os = w.os
  tape : w'.tape = w.tape
  output : w'.output = w.output
  size : w.heap.size ≤ w'.heap.size
  keep : ∀ b, b < w.heap.size → (∀ c, g c b = none) → w'.heap[b]? = w.heap[b]?
  fresh : ∀ c b, g' c b ≠ none → (∃ d, g d b ≠ none) ∨ w.heap.size ≤ b

variable {B : Nat} {g g' g'' : ι → Gh} {w w' w'' : World}

omit [DecidableEq ι] in
theorem Fam.drewN (h : Fam B g w) (n : Nat) : Fam B g (w.drewN n) := ⟨h.holds, h.apart, h.base, h.le⟩
omit [DecidableEq ι] in
theorem FEv.refl (h : Fam B g w) : FEv B g w g w := ⟨h, rfl, rfl, rfl, Nat.le_refl _, fun _ _ _ => rfl, fun c _ hb => .inl ⟨c, hb⟩⟩
omit [DecidableEq ι] in
theorem FEv.trans (h : FEv B g w g' w') (k : FEv B g' w' g'' w'') : FEv B g w g'' w'' :=
  ⟨k.fam, k.os.trans h.os, k.tape.trans h.tape, k.output.trans h.output, Nat.le_trans h.size k.size,
   fun b hb hg => (k.keep b (Nat.lt_of_lt_of_le hb h.size) (fun c => by
     cases hc : g' c b with
     | none => rfl
     | some o =>
       rcases h.fresh c b (by simp [hc]) with ⟨d, h1⟩ | h1
       · exact absurd (hg d) h1
       · omega)).trans (h.keep b hb hg),
   fun c b hb => by
     rcases k.fresh c b hb with ⟨d, h1⟩ | h1
     · exact h.fresh d b h1
     · exact .inr (Nat.le_trans h.size h1)⟩
omit [DecidableEq ι] in
theorem FEv.drewN (h : FEv B g w g' w') (n : Nat) : FEv B g w g' (w'.drewN n) := ⟨h.fam.drewN n, h.os, h.tape, h.output, h.size, h.keep, h.fresh⟩
omit [DecidableEq ι] in
theorem FEv.drew (h : FEv B g w g' w') : FEv B g w g' w'.drew := h.drewN 1
omit [DecidableEq ι] in
theorem FEv.below (h : FEv B g w g' w') (hB : Fam B g w) : Below B w w' :=
  ⟨h.os, h.tape, h.output, h.size, fun k hk => h.keep k (Nat.lt_of_lt_of_le hk hB.le) (fun c => by
    cases hc : g c k with
    | none => rfl
    | some o => have := hB.base c k (by simp [hc]); omega)⟩
/-- One piece goes on. -/
theorem FEv.one (h : Fam B g w) {c : ι} {G' : Gh} (he : Ev (g c) w G' w') : FEv B g w (upd g c G') w' := by
  have hap : ∀ d, d ≠ c → Apart G' (g d) := fun d hd => he.apart (h.holds d) (h.apart c d (Ne.symm hd))
  refine ⟨⟨fun d => ?_, fun d d' hd => ?_, fun d b hb => ?_, Nat.le_trans h.le he.size⟩, he.os, he.tape, he.output, he.size, fun b hb hg => he.keep b hb (hg c), fun d b hb => ?_⟩
  · by_cases e : d = c
    · subst e; rw [upd_same]; exact he.holds
    · rw [upd_other _ _ e]; exact he.frame (h.holds d) (h.apart c d (Ne.symm e))
  · by_cases e : d = c
    · subst e
      rw [upd_same, upd_other _ _ (Ne.symm hd)]
      exact hap d' (Ne.symm hd)
    · rw [upd_other _ _ e]
      by_cases e' : d' = c
      · subst e'; rw [upd_same]; exact (hap d e).symm
      · rw [upd_other _ _ e']; exact h.apart d d' hd
  · by_cases e : d = c
    · subst e
      rw [upd_same] at hb
      rcases he.fresh b hb with h1 | h1
      · exact h.base d b h1
      · exact Nat.le_trans h.le h1
    · rw [upd_other _ _ e] at hb
      exact h.base d b hb
  · by_cases e : d = c
    · subst e
      rw [upd_same] at hb
      rcases he.fresh b hb with h1 | h1
      · exact .inl ⟨d, h1⟩
      · exact .inr h1
    · rw [upd_other _ _ e] at hb
      exact .inl ⟨d, hb⟩
/-- .. behind what has gone on before. -/
theorem FEv.then (h : FEv B g w g' w') {c : ι} {G' : Gh} (he : Ev (g' c) w' G' w'') : FEv B g w (upd g' c G') w'' := h.trans (FEv.one h.fam he)
/-- A new block, in whichever piece. -/
theorem FEv.alloc (h : FEv B g w g' w') (c : ι) (o : Obj) : FEv B g w (upd g' c ((g' c).put w'.heap.size o)) (w'.alloc o) := h.then ((Ev.refl (h.fam.holds c)).alloc o)
theorem FEv.setCell (h : FEv B g w g' w') {c : ι} {b i : Nat} {cs : Array Value} {t : TypeId} {fr : Nat × Nat} (hb : g' c b = some (.cells cs t fr)) (v : Value) :
    FEv B g w (upd g' c ((g' c).put b (.cells (cs.setIfInBounds i v) t fr))) (w'.setCell ⟨b, i, none⟩ v) := h.then ((Ev.refl (h.fam.holds c)).setCell hb v)
omit [DecidableEq ι] in
/-- A callee that leaves all that was there. -/
theorem FEv.of_below (h : FEv B g w g' w') (hb : Below w'.heap.size w' w'') : FEv B g w g' w'' :=
  h.trans ⟨⟨fun c b o hc => (hb.block b ((h.fam.holds c).lt hc)).trans (h.fam.holds c b o hc), h.fam.apart, h.fam.base, Nat.le_trans h.fam.le hb.size⟩, hb.os, hb.tape, hb.output, hb.size, fun b hlt _ => hb.block b hlt, fun c _ hc => .inl ⟨c, hc⟩⟩
/-- .. and makes blocks that are known: they come to piece c. -/
theorem FEv.of_below_new (h : FEv B g w g' w') (hb : Below w'.heap.size w' w'') {Gr : Gh} (hr : Holds Gr w'') (hf : ∀ b, Gr b ≠ none → w'.heap.size ≤ b) (c : ι) : FEv B g w (upd g' c ((g' c).or Gr)) w'' :=
  h.then (Ev.of_below_new (h.fam.holds c) hb hr hf)
/-- Piece c may hand what it knows of one block on to piece d. -/
theorem Fam.give (h : Fam B g w) {c d : ι} (hcd : c ≠ d) {b : Nat} {o : Obj} (hb : g c b = some o) :
    Fam B (upd (upd g d ((g d).put b o)) c (fun k => if k = b then none else g c k)) w := by
  have hold : ∀ e, Holds ((upd (upd g d ((g d).put b o)) c (fun k => if k = b then none else g c k)) e) w := fun e => by
    by_cases e1 : e = c
    · subst e1
      rw [upd_same]
      intro k x hk
      dsimp only at hk
      split at hk
      · cases hk
      · exact h.holds e k x hk
    · rw [upd_other _ _ e1]
      by_cases e2 : e = d
      · subst e2
        rw [upd_same]
        intro k x hk
        by_cases ek : k = b
        · subst ek
          rw [Gh.put_same] at hk
          cases hk
          exact h.holds c k o hb
        · rw [Gh.put_other _ _ ek] at hk
          exact h.holds e k x hk
      · rw [upd_other _ _ e2]
        exact h.holds e
  have val : ∀ e k, (upd (upd g d ((g d).put b o)) c (fun k => if k = b then none else g c k)) e k ≠ none → (k ≠ b ∧ g e k ≠ none) ∨ (k = b ∧ e = d) := fun e k hk => by
    by_cases e1 : e = c
    · subst e1
      rw [upd_same] at hk
      split at hk
      · exact absurd rfl hk
      · exact .inl ⟨by assumption, hk⟩
    · rw [upd_other _ _ e1] at hk
      by_cases e2 : e = d
      · subst e2
        rw [upd_same] at hk
        by_cases ek : k = b
        · exact .inr ⟨ek, rfl⟩
        · rw [Gh.put_other _ _ ek] at hk
          exact .inl ⟨ek, hk⟩
      · rw [upd_other _ _ e2] at hk
        by_cases ek : k = b
        · subst ek
          rcases h.apart c e (Ne.symm e1) k with h1 | h1
          · rw [h1] at hb; cases hb
          · exact absurd h1 hk
        · exact .inl ⟨ek, hk⟩
  refine ⟨hold, fun e e' hne k => ?_, fun e k hk => ?_, h.le⟩
  · cases h1 : (upd (upd g d ((g d).put b o)) c (fun k => if k = b then none else g c k)) e k with
    | none => exact .inl rfl
    | some x =>
      cases h2 : (upd (upd g d ((g d).put b o)) c (fun k => if k = b then none else g c k)) e' k with
      | none => exact .inr rfl
      | some y =>
        rcases val e k (by simp [h1]) with ⟨n1, m1⟩ | ⟨n1, m1⟩ <;> rcases val e' k (by simp [h2]) with ⟨n2, m2⟩ | ⟨n2, m2⟩
        · rcases h.apart e e' hne k with h3 | h3
          · exact absurd h3 m1
          · exact absurd h3 m2
        · exact absurd n2 n1
        · exact absurd n1 n2
        · exact absurd (m1.trans m2.symm) hne
  · rcases val e k hk with ⟨_, m1⟩ | ⟨n1, _⟩
    · exact h.base e k m1
    · subst n1
      exact h.base c k (by simp [hb])
theorem FEv.give (h : FEv B g w g' w') {c d : ι} (hcd : c ≠ d) {b : Nat} {o : Obj} (hb : g' c b = some o) :
    FEv B g w (upd (upd g' d ((g' d).put b o)) c (fun k => if k = b then none else g' c k)) w' := by
  refine h.trans ⟨h.fam.give hcd hb, rfl, rfl, rfl, Nat.le_refl _, fun _ _ _ => rfl, fun e k hk => .inl ?_⟩
  by_cases ek : k = b
  · subst ek
    exact ⟨c, by simp [hb]⟩
  · refine ⟨e, fun h0 => hk ?_⟩
    by_cases e1 : e = c
    · subst e1; rw [upd_same]; simp [h0]
    · rw [upd_other _ _ e1]
      by_cases e2 : e = d
      · subst e2; rw [upd_same, Gh.put_other _ _ ek]; exact h0
      · rw [upd_other _ _ e2]; exact h0

/-! ### two families -/
omit [DecidableEq ι] in
theorem FEv.frame {κ : Type} {h : κ → Gh} {B' : Nat} (he : FEv B g w g' w') (hh : Fam B' h w) (ha : ∀ c d, Apart (g c) (h d)) : Fam B' h w' ∧ ∀ c d, Apart (g' c) (h d) := by
  have hk : ∀ d b, h d b ≠ none → w'.heap[b]? = w.heap[b]? := fun d b hb => he.keep b (by
    cases hx : h d b with
    | none => exact absurd hx hb
    | some o => exact (hh.holds d).lt hx) (fun c => by
      rcases ha c d b with h1 | h1
      · exact h1
      · exact absurd h1 hb)
  refine ⟨⟨fun d b o hb => (hk d b (by simp [hb])).trans (hh.holds d b o hb), hh.apart, hh.base, Nat.le_trans hh.le he.size⟩, fun c d b => ?_⟩
  cases hc : g' c b with
  | none => exact .inl rfl
  | some o =>
    rcases he.fresh c b (by simp [hc]) with ⟨c', h1⟩ | h1
    · rcases ha c' d b with h2 | h2
      · exact absurd h2 h1
      · exact .inr h2
    · right
      cases hx : h d b with
      | none => rfl
      | some x => have := (hh.holds d).lt hx; omega
omit [DecidableEq ι] in
theorem FEv.frameG {G : Gh} (he : FEv B g w g' w') (hh : Holds G w) (ha : ∀ c, Apart (g c) G) : Holds G w' ∧ ∀ c, Apart (g' c) G := by
  have hk : ∀ b, G b ≠ none → w'.heap[b]? = w.heap[b]? := fun b hb => he.keep b (by
    cases hx : G b with
    | none => exact absurd hx hb
    | some o => exact hh.lt hx) (fun c => by
      rcases ha c b with h1 | h1
      · exact h1
      · exact absurd h1 hb)
  refine ⟨fun b o hb => (hk b (by simp [hb])).trans (hh b o hb), fun c b => ?_⟩
  cases hc : g' c b with
  | none => exact .inl rfl
  | some o =>
    rcases he.fresh c b (by simp [hc]) with ⟨c', h1⟩ | h1
    · rcases ha c' b with h2 | h2
      · exact absurd h2 h1
      · exact .inr h2
    · right
      cases hx : G b with
      | none => rfl
      | some x => have := hh.lt hx; omega
end
end Go.Ju

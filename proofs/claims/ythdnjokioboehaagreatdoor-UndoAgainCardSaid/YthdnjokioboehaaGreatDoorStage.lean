/- Everything that a caller knows of its store ('Stage'), and how each call keeps it. -/
import Derived.Test.YthdnjokioboehaaGreatDoorInv
import Derived.Test.YthdnjokioboehaaGreatDoorSame
namespace Go.Ju
open Go.RowKit
open Go.Proofs
open Go.ChangeMaps

theorem Fam.base_le {ι : Type} {B B' : Nat} {g : ι → Gh} {w : World} (h : Fam B g w) (hb : B' ≤ B) : Fam B' g w := ⟨h.holds, h.apart, fun c b hc => Nat.le_trans hb (h.base c b hc), Nat.le_trans hb h.le⟩
theorem FEv.base_le {ι : Type} {B B' : Nat} {g g' : ι → Gh} {w w' : World} (h : FEv B g w g' w') (hb : B' ≤ B) : FEv B' g w g' w' := ⟨h.fam.base_le hb, h.os, h.tape, h.output, h.size, h.keep, h.fresh⟩

theorem holds_or {G1 G2 : Gh} {w : World} (h1 : Holds G1 w) (h2 : Holds G2 w) : Holds (G1.or G2) w ∧ Sub G1 (G1.or G2) ∧ Sub G2 (G1.or G2) := by
  refine ⟨fun b o hb => ?_, fun b o hb => Gh.or_left _ _ hb, fun b o hb => ?_⟩
  · unfold Gh.or at hb
    cases hc : G1 b with
    | some x => rw [hc] at hb; cases hb; exact h1 b _ hc
    | none => rw [hc] at hb; exact h2 b _ hb
  · unfold Gh.or
    cases hc : G1 b with
    | none => exact hb
    | some x =>
      have e := (h1 b _ hc).symm.trans (h2 b _ hb)
      cases e
      rfl
theorem from_or {n : Nat} {G1 G2 : Gh} (h1 : From n G1) (h2 : From n G2) : From n (G1.or G2) := fun b hb => by
  cases hc : G1 b with
  | some x => exact h1 b (by rw [hc]; simp)
  | none => exact h2 b (fun e => hb (by unfold Gh.or; rw [hc, e]; rfl))
/-- A store at p, since w0; beside it the blocks G. -/
def Stage (w0 : World) (p n : Nat) (M : St) (G : Gh) (u : World) : Prop := ∃ y g, y.p = p ∧ FEv w0.heap.size noFam w0 g u ∧ Rep y M g ∧ Inv n M ∧ Beside g G u
section
variable {w0 u u' : World} {p n : Nat} {M : St} {G : Gh}
theorem Stage.inv (h : Stage w0 p n M G u) : Inv n M := by obtain ⟨_, _, _, _, _, h, _⟩ := h; exact h
theorem Stage.holds (h : Stage w0 p n M G u) : Holds G u := by obtain ⟨_, _, _, _, _, _, h⟩ := h; exact h.holds
theorem Stage.below (h : Stage w0 p n M G u) : Below w0.heap.size w0 u := by
  obtain ⟨_, _, _, h, _, _, _⟩ := h
  exact h.below (noFam.fam _ _ (Nat.le_refl _))
theorem Stage.nul (h : Stage w0 p n M G u) (hn : Nul w0) : Nul u := hn.below h.below
theorem Stage.mono (h : Stage w0 p n M G u) {m : Nat} (hm : n ≤ m) : Stage w0 p m M G u := by
  obtain ⟨y, g, h1, h2, h3, h4, h5⟩ := h
  exact ⟨y, g, h1, h2, h3, h4.mono hm, h5⟩
theorem Stage.weaken (h : Stage w0 p n M G u) {G' : Gh} (hs : Sub G' G) : Stage w0 p n M G' u := by
  obtain ⟨y, g, h1, h2, h3, h4, h5⟩ := h
  exact ⟨y, g, h1, h2, h3, h4, h5.weaken hs⟩
theorem Stage.step (h : Stage w0 p n M G u) (hb : Below u.heap.size u u') : Stage w0 p n M G u' := by
  obtain ⟨y, g, h1, h2, h3, h4, h5⟩ := h
  exact ⟨y, g, h1, h2.of_below hb, h3, h4, h5.below hb⟩
theorem Stage.drewN (h : Stage w0 p n M G u) (q : Nat) : Stage w0 p n M G (u.drewN q) := by
  obtain ⟨y, g, h1, h2, h3, h4, h5⟩ := h
  exact ⟨y, g, h1, h2.drewN q, h3, h4, h5.drewN q⟩
theorem Stage.alloc (h : Stage w0 p n M G u) (o : Obj) : Stage w0 p n M (G.put u.heap.size o) (u.alloc o) := by
  obtain ⟨y, g, h1, h2, h3, h4, h5⟩ := h
  exact ⟨y, g, h1, h2.more o, h3, h4, h5.alloc o h2⟩
theorem Stage.setCell (h : Stage w0 p n M G u) {b i : Nat} {cs : Array Value} {t : TypeId} {fr : Nat × Nat} (hb : G b = some (.cells cs t fr)) (hn : w0.heap.size ≤ b) (v : Value) :
    Stage w0 p n M (G.put b (.cells (cs.setIfInBounds i v) t fr)) (u.setCell ⟨b, i, none⟩ v) := by
  obtain ⟨y, g, h1, h2, h3, h4, h5⟩ := h
  have hap : ∀ c, Apart (g c) (G.put b (.cells (cs.setIfInBounds i v) t fr)) := fun c k => by
    by_cases e : k = b
    · subst e
      rcases h5.apart c k with h6 | h6
      · exact .inl h6
      · rw [h6] at hb; cases hb
    · rw [Gh.put_other _ _ e]; exact h5.apart c k
  have hev := (Ev.refl h5.holds).setCell (i := i) hb v
  refine ⟨y, g, h1, ?_, h3, h4, hev.holds, hap⟩
  refine ⟨⟨fun c => hev.frame (h2.fam.holds c) (h5.apart c).symm, h2.fam.apart, h2.fam.base, Nat.le_trans h2.fam.le hev.size⟩, hev.os.trans h2.os, hev.tape.trans h2.tape, hev.output.trans h2.output, Nat.le_trans h2.size hev.size, fun k hk hg => ?_, h2.fresh⟩
  rw [Below.heap_setCell u ⟨b, i, none⟩ v k (by show k ≠ b; omega)]
  exact h2.keep k hk hg
/-- Two blocks of the caller's are written. -/
theorem Stage.touch (h : Stage w0 p n M G u) {W : World} {s1 s2 : Nat} {G' : Gh} (ho : W.os = u.os) (ht : W.tape = u.tape) (hu : W.output = u.output) (hz : W.heap.size = u.heap.size)
    (hk : ∀ b, b ≠ s1 → b ≠ s2 → W.heap[b]? = u.heap[b]?) (h1 : G s1 ≠ none) (h2 : G s2 ≠ none) (l1 : w0.heap.size ≤ s1) (l2 : w0.heap.size ≤ s2) (hs : Sub G' G) (n1 : G' s1 = none) (n2 : G' s2 = none) : Stage w0 p n M G' W := by
  obtain ⟨y, g, e1, e2, e3, e4, e5⟩ := h
  have hne : ∀ c b, g c b ≠ none → b ≠ s1 ∧ b ≠ s2 := fun c b hb => ⟨fun e => by subst e; rcases e5.apart c b with h6 | h6 <;> contradiction, fun e => by subst e; rcases e5.apart c b with h6 | h6 <;> contradiction⟩
  refine ⟨y, g, e1, ⟨⟨fun c b o hb => ?_, e2.fam.apart, e2.fam.base, by rw [hz]; exact e2.fam.le⟩, ho.trans e2.os, ht.trans e2.tape, hu.trans e2.output, by rw [hz]; exact e2.size, fun b hb hg => ?_, e2.fresh⟩, e3, e4, fun b o hb => ?_, fun c b => ?_⟩
  · obtain ⟨n3, n4⟩ := hne c b (by rw [hb]; simp)
    rw [hk b n3 n4]
    exact e2.fam.holds c b o hb
  · rw [hk b (by omega) (by omega)]
    exact e2.keep b hb hg
  · rw [hk b (fun e => by rw [e, n1] at hb; cases hb) (fun e => by rw [e, n2] at hb; cases hb)]
    exact e5.holds b o (hs b o hb)
  · rcases e5.apart c b with h6 | h6
    · exact .inl h6
    · right
      cases hx : G' b with
      | none => rfl
      | some x => rw [hs b x hx] at h6; cases h6
/-- A result comes beside the store. -/
theorem Stage.more (h : Stage w0 p n M G u) (hb : Below u.heap.size u u') {Gr : Gh} (hr : Holds Gr u') (hf : From u.heap.size Gr) : Stage w0 p n M (G.or Gr) u' ∧ Sub G (G.or Gr) ∧ Sub Gr (G.or Gr) := by
  obtain ⟨y, g, h1, h2, h3, h4, h5⟩ := h
  have hap : Apart G Gr := fun b => by
    cases hc : G b with
    | none => exact .inl rfl
    | some o =>
      right
      cases hx : Gr b with
      | none => rfl
      | some x => have := hf b (by rw [hx]; simp); have := h5.holds.lt hc; omega
  refine ⟨⟨y, g, h1, h2.of_below hb, h3, h4, ?_, fun c b => ?_⟩, fun b o hb => Gh.or_left _ _ hb, fun b o hb => Gh.or_right hap hb⟩
  · intro b o ho
    cases hc : G b with
    | some x =>
      have : (G.or Gr) b = some x := Gh.or_left _ _ hc
      rw [this] at ho
      cases ho
      exact h5.holds.below hb b _ hc
    | none =>
      refine hr b o ?_
      unfold Gh.or at ho
      rw [hc] at ho
      exact ho
  · rcases h5.apart c b with h6 | h6
    · exact .inl h6
    · cases hx : Gr b with
      | none => right; unfold Gh.or; rw [h6]; exact hx
      | some x =>
        left
        cases hc : g c b with
        | none => rfl
        | some o => have := hf b (by rw [hx]; simp); have := (h2.fam.holds c).lt hc; omega
/-- A call of the store's. -/
theorem Stage.does (h : Stage w0 p n M G u) {f : Nat} {args : Array Value} {m : Nat} {M' : St} {val : Value} (hi : Inv m M')
    (hc : ∀ y g, y.p = p → Fam w0.heap.size g u → Rep y M g → Beside g G u → Calls Tryz.prog f args u (Does w0.heap.size g u fun v g' => v = val ∧ ∃ y', Rep y' M' g' ∧ y'.p = y.p)) :
    Calls Tryz.prog f args u fun e u' => e = .returned val ∧ Stage w0 p m M' G u' := by
  obtain ⟨y, g, h1, h2, h3, h4, h5⟩ := h
  refine (hc y g h1 h2.fam h3 h5).mono ?_
  rintro e u' ⟨v, g', rfl, he, rfl, y', hr, hp⟩
  exact ⟨rfl, y', g', hp.trans h1, h2.trans he, hr, hi, h5.step he⟩
/-- A caller's row that may be given to a call. -/
def RowFor (w0 : World) (G : Gh) (u : World) (rv : Value) (l : List Val) : Prop := ∃ Ga, ArgRow Ga u rv l ∧ ((∀ b, Ga b ≠ none → b < w0.heap.size) ∨ Sub Ga G)
theorem RowFor.apart {rv : Value} {l : List Val} (h : RowFor w0 G u rv l) {B : Nat} {g : Comp → Gh} (hF : Fam B g u) (hB : w0.heap.size ≤ B) (hb : Beside g G u) : ∃ Ga, ArgRow Ga u rv l ∧ ∀ c, Apart (g c) Ga := by
  obtain ⟨Ga, h1, h2⟩ := h
  refine ⟨Ga, h1, fun c b => ?_⟩
  rcases h2 with h2 | h2
  · cases hc : g c b with
    | none => exact .inl rfl
    | some o =>
      right
      cases hx : Ga b with
      | none => rfl
      | some x => have := h2 b (by rw [hx]; simp); have := hF.base c b (by rw [hc]; simp); omega
  · rcases hb.apart c b with h3 | h3
    · exact .inl h3
    · right
      cases hx : Ga b with
      | none => rfl
      | some x => rw [h2 b x hx] at h3; cases h3
theorem Stage.add (h : Stage w0 p n M G u) (hn : n ≤ 1000000) (hnul : Nul w0) (k : Key) (txn : Int) {rv : Value} {l : List Val} (hrow : RowFor w0 G u rv l) :
    Calls Tryz.prog 36 #[ptr p, .string k.1, .string k.2, encI txn, rv] u fun e u' => e = .returned (.tuple #[.int .i64 (M.addA k txn l).2.1, .int .i64 (M.addA k txn l).2.2]) ∧ Stage w0 p (n + 2) (M.addA k txn l).1 G u' :=
  h.does (h.inv.addA k txn l) fun y g hy hF hr hb => by
    obtain ⟨Ga, h1, h2⟩ := hrow.apart hF (Nat.le_refl _) hb
    subst hy
    exact add_any _ n g Ga u y M k txn rv l hF hr h.inv.core.fit hn (h.nul hnul) h1 h2
theorem Stage.put (h : Stage w0 p n M G u) (hn : n ≤ 1000000) (hnul : Nul w0) (k : Key) (txn id : Int) (hid : okI id) {rv : Value} {l : List Val} (hrow : RowFor w0 G u rv l) :
    Calls Tryz.prog 38 #[ptr p, .string k.1, .string k.2, encI txn, encI id, rv] u fun e u' => e = .returned (.int .i64 (M.putA k txn id l).2) ∧ Stage w0 p (n + 2) (M.putA k txn id l).1 G u' :=
  h.does (h.inv.putA k txn id l) fun y g hy hF hr hb => by
    obtain ⟨Ga, h1, h2⟩ := hrow.apart hF (Nat.le_refl _) hb
    subst hy
    exact put_any _ n g Ga u y M k id txn rv l hF hr h.inv.core.fit hn hid (h.nul hnul) h1
theorem Stage.del (h : Stage w0 p n M G u) (hn : n ≤ 1000000) (k : Key) (txn id : Int) (hid : okI id) :
    Calls Tryz.prog 49 #[ptr p, .string k.1, .string k.2, encI txn, encI id] u fun e u' => e = .returned (.int .i64 (M.delA k txn id).2) ∧ Stage w0 p (n + 2) (M.delA k txn id).1 G u' :=
  h.does (h.inv.delA k txn id) fun y g hy hF hr hb => by subst hy; exact del_any _ n g u y M k id txn hF hr h.inv.core.fit hn hid
theorem Stage.mark (h : Stage w0 p n M G u) (txn : Int) : Calls Tryz.prog 31 #[ptr p, encI txn] u fun e u' => e = .returned (.tuple #[.int .i64 (M.mark txn).1, .int .i64 (M.mark txn).2]) ∧ u = u' := by
  obtain ⟨y, g, rfl, h2, h3, h4, h5⟩ := h
  exact mark_any h2.fam h3 txn 0
theorem Stage.back (h : Stage w0 p n M G u) (hn : n ≤ 1000000) (txn mark : Int) (hmk : okI mark) :
    Calls Tryz.prog 32 #[ptr p, encI txn, encI mark] u fun e u' => e = .returned (.int .i64 (M.backA txn mark).2) ∧ Stage w0 p n (M.backA txn mark).1 G u' :=
  h.does (h.inv.backA txn mark) fun y g hy hF hr hb => by subst hy; exact back_any _ n g u y M txn mark hF hr h.inv.core.fit hn hmk (h.inv.safe txn _)
theorem Stage.commit (h : Stage w0 p n M G u) (hn : n ≤ 1000000) (txn : Int) :
    Calls Tryz.prog 34 #[ptr p, encI txn] u fun e u' => e = .returned (.tuple #[.int .i64 (M.commitA txn).2.1, .int .i64 (M.commitA txn).2.2]) ∧ Stage w0 p n (M.commitA txn).1 G u' :=
  h.does (h.inv.commitA txn) fun y g hy hF hr hb => by subst hy; exact commit_any _ n g u y M txn hF hr h.inv.core.fit hn (h.inv.core.logFit txn)
theorem Stage.abort (h : Stage w0 p n M G u) (hn : n ≤ 1000000) (txn : Int) :
    Calls Tryz.prog 33 #[ptr p, encI txn] u fun e u' => e = .returned (.int .i64 (M.abortA txn).2) ∧ Stage w0 p n (M.abortA txn).1 G u' :=
  h.does (h.inv.abortA txn) fun y g hy hF hr hb => by subst hy; exact abort_any _ n g u y M txn hF hr h.inv.core.fit hn (by simpa using h.inv.safe txn 0)
theorem Stage.drop (h : Stage w0 p n M G u) (hn : n ≤ 1000000) (k : Key) :
    Calls Tryz.prog 51 #[ptr p, .string k.1, .string k.2] u fun e u' => e = .returned (.int .i64 (M.dropA k).2) ∧ Stage w0 p (n + 2) (M.dropA k).1 G u' :=
  h.does (h.inv.dropA k) fun y g hy hF hr hb => by subst hy; exact drop_any _ n g u y M k hF hr h.inv.core.fit hn
theorem Stage.time (h : Stage w0 p n M G u) : Calls Tryz.prog 17 #[ptr p] u fun e u' => e = .returned (.int .i64 M.time) ∧ u = u' := by
  obtain ⟨y, g, rfl, h2, h3, h4, h5⟩ := h
  exact time_any h2.fam h3
theorem Stage.last (h : Stage w0 p n M G u) (k : Key) (id : Int) (hid : okI id) :
    Calls Tryz.prog 39 #[ptr p, .string k.1, .string k.2, encI id] u fun e u' => e = .returned (three (M.lastA k id)) ∧ Stage w0 p n M G u' := by
  have h' := h
  obtain ⟨y, g, rfl, h2, h3, h4, h5⟩ := h'
  refine (lastA_any h2.fam h3 h4.core.fit k id hid).mono ?_
  rintro e u' ⟨rfl, hb⟩
  exact ⟨rfl, h.step hb⟩
/-- What At gives, its blocks by themselves. -/
def AtHas (w0 : World) (p n : Nat) (M : St) (G : Gh) (u : World) (r : List (Int × List Val) × Int) (e : Ending) (u' : World) : Prop :=
  ∃ v Gr, e = .returned (.tuple #[v, .int .i64 r.2]) ∧ Stage w0 p n M (G.or Gr) u' ∧ Sub Gr (G.or Gr) ∧ From u.heap.size Gr ∧ HeldsAt Gr Gr v r.1
def AtIs (w0 : World) (p n : Nat) (M : St) (G : Gh) (r : List (Int × List Val) × Int) (e : Ending) (u' : World) : Prop :=
  ∃ v G', e = .returned (.tuple #[v, .int .i64 r.2]) ∧ Stage w0 p n M G' u' ∧ Sub G G' ∧ HeldsAt G' G' v r.1
theorem Stage.atHas (h : Stage w0 p n M G u) (hn : n ≤ 1000000) (k : Key) (time txn : Int) :
    Calls Tryz.prog 30 #[ptr p, .string k.1, .string k.2, .int .i64 time, .int .i64 txn] u (AtHas w0 p n M G u (M.atA k time txn)) := by
  have h' := h
  obtain ⟨y, g, rfl, h2, h3, h4, h5⟩ := h'
  refine (at_any h2.fam h3 h4.core.fit hn h4.core.reads k time txn).mono ?_
  rintro e u' ⟨v, GO, GR, rfl, hb, ho, hr, fo, fr, hh⟩
  obtain ⟨h6, h7, h8⟩ := holds_or ho hr
  obtain ⟨hs1, s1, s2⟩ := h.more hb h6 (from_or fo fr)
  exact ⟨v, _, rfl, hs1, s2, from_or fo fr, hh.sub2 h7 h8⟩
theorem Stage.at (h : Stage w0 p n M G u) (hn : n ≤ 1000000) (k : Key) (time txn : Int) :
    Calls Tryz.prog 30 #[ptr p, .string k.1, .string k.2, .int .i64 time, .int .i64 txn] u (AtIs w0 p n M G (M.atA k time txn)) := by
  have h' := h
  obtain ⟨y, g, rfl, h2, h3, h4, h5⟩ := h'
  refine (at_any h2.fam h3 h4.core.fit hn h4.core.reads k time txn).mono ?_
  rintro e u' ⟨v, GO, GR, rfl, hb, ho, hr, fo, fr, hh⟩
  obtain ⟨h6, h7, h8⟩ := holds_or ho hr
  obtain ⟨hs1, s1, s2⟩ := h.more hb h6 (from_or fo fr)
  exact ⟨v, _, rfl, hs1, s1, hh.sub2 (h7.trans s2) (h8.trans s2)⟩
def RowHas (w0 : World) (p n : Nat) (M : St) (G : Gh) (u : World) (r : List Val × Int) (e : Ending) (u' : World) : Prop :=
  ∃ v Gr, e = .returned (.tuple #[v, .int .i64 r.2]) ∧ Stage w0 p n M (G.or Gr) u' ∧ Sub Gr (G.or Gr) ∧ From u.heap.size Gr ∧ RowAt Gr v r.1
def RowIs (w0 : World) (p n : Nat) (M : St) (G : Gh) (r : List Val × Int) (e : Ending) (u' : World) : Prop :=
  ∃ v G', e = .returned (.tuple #[v, .int .i64 r.2]) ∧ Stage w0 p n M G' u' ∧ Sub G G' ∧ RowAt G' v r.1
theorem Stage.rowHas (h : Stage w0 p n M G u) (k : Key) (time txn id : Int) (hid : okI id) :
    Calls Tryz.prog 50 #[ptr p, .string k.1, .string k.2, .int .i64 time, .int .i64 txn, encI id] u (RowHas w0 p n M G u (M.rowA k time txn id)) := by
  have h' := h
  obtain ⟨y, g, rfl, h2, h3, h4, h5⟩ := h'
  refine (rowA_any h2.fam h3 h4.core.fit k time txn id hid (fun k t i r v ht hr hv => ?_)).mono ?_
  · have h9 := (h4.core.row k i r ((row_tab ht i).trans hr)).short v hv
    omega
  rintro e u' ⟨v, Gr, rfl, hb, hr, fr, rv, rfl, hh⟩
  obtain ⟨hs1, s1, s2⟩ := h.more hb hr fr
  exact ⟨rv, _, rfl, hs1, s2, fr, hh⟩
theorem Stage.row (h : Stage w0 p n M G u) (k : Key) (time txn id : Int) (hid : okI id) :
    Calls Tryz.prog 50 #[ptr p, .string k.1, .string k.2, .int .i64 time, .int .i64 txn, encI id] u (RowIs w0 p n M G (M.rowA k time txn id)) := by
  have h' := h
  obtain ⟨y, g, rfl, h2, h3, h4, h5⟩ := h'
  refine (rowA_any h2.fam h3 h4.core.fit k time txn id hid (fun k t i r v ht hr hv => ?_)).mono ?_
  · have h9 := (h4.core.row k i r ((row_tab ht i).trans hr)).short v hv
    omega
  rintro e u' ⟨v, Gr, rfl, hb, hr, fr, rv, rfl, hh⟩
  obtain ⟨hs1, s1, s2⟩ := h.more hb hr fr
  exact ⟨rv, _, rfl, hs1, s1, hh.sub s2⟩
def ImgIs (w0 : World) (p n : Nat) (M : St) (G : Gh) (r : Img × Int) (e : Ending) (u' : World) : Prop :=
  ∃ tv G', e = .returned (.tuple #[.agg #[.int .i64 r.1.time, tv], .int .i64 r.2]) ∧ Stage w0 p n M G' u' ∧ Sub G G' ∧ StoredsAt G' G' tv r.1.tabs
theorem Stage.image (h : Stage w0 p n M G u) (hn : n ≤ 1000000) (time : Int) : Calls Tryz.prog 15 #[ptr p, .int .i64 time] u (ImgIs w0 p n M G (M.imageA time)) := by
  have h' := h
  obtain ⟨y, g, rfl, h2, h3, h4, h5⟩ := h'
  refine (image_any h2.fam h3 h4.core.fit hn h4.core.reads time).mono ?_
  rintro e u' ⟨v, GO, GR, rfl, hb, ho, hr, fo, fr, hh⟩
  obtain ⟨h6, h7, h8⟩ := holds_or ho hr
  obtain ⟨hs1, s1, s2⟩ := h.more hb h6 (from_or fo fr)
  obtain ⟨css, h9, h10⟩ := hh
  exact ⟨v, _, rfl, hs1, s1, css, h9.imp (fun _ _ k => k.sub (h8.trans s2)), h10.sub (h7.trans s2)⟩
/-- A new store. -/
theorem stage_new (hb : Below w0.heap.size w0 u) (hG : Holds G u) : Calls Tryz.prog 19 #[] u fun e u' => ∃ p, e = .returned (ptr p) ∧ Stage w0 p 0 St.empty G u' := by
  refine (new_any u u.heap.size (Nat.le_refl _)).mono ?_
  rintro e u' ⟨v, g, rfl, he, y, rfl, hr⟩
  have h1 : FEv w0.heap.size noFam w0 noFam u := (FEv.refl (noFam.fam _ w0 (Nat.le_refl _))).of_below hb
  obtain ⟨h2, h3⟩ := he.frameG hG (fun _ _ => .inl rfl)
  exact ⟨y.p, rfl, y, g, rfl, h1.trans (he.base_le hb.size), hr, Inv.empty, h2, h3⟩
end

/-! ### the calls with no store -/
section
theorem commit_nil (txn : Int) (w : World) : Calls Tryz.prog 34 #[.pointer none, encI txn] w fun e w' => e = .returned (.tuple #[.int .i64 0, .int .i64 1]) ∧ Below w.heap.size w w' := by
  have HMk := Lib.hid (mark_nil txn)
  unfold encI at *
  go_enter Tryz.func34, Tryz.ntmps34
  go_wp2_with (go_at_call 31; refine (HMk.out _).mono ?_; rintro e w1 ⟨rfl, rfl⟩)
  go_ret2
  exact ⟨rfl, by first | exact Below.refl _ _ | exact (Below.refl _ _).drewN _⟩
theorem row_nil (k : Key) (time txn id : Int) (w : World) : Calls Tryz.prog 50 #[.pointer none, .string k.1, .string k.2, .int .i64 time, .int .i64 txn, encI id] w fun e w' => e = .returned (.tuple #[.slice none 0 0, .int .i64 1]) ∧ Below w.heap.size w w' := by
  have HL := Lib.hid (look_nil k.1 k.2 time txn w)
  unfold encI at *
  go_enter Tryz.func50, Tryz.ntmps50
  go_wp2_with (go_at_call 64; refine HL.out.mono ?_; rintro e w1 ⟨rfl, rfl⟩)
  go_ret2
  exact ⟨rfl, by first | exact Below.refl _ _ | exact (Below.refl _ _).drewN _⟩
end

/-! ### a row of a number -/
theorem refint_any (n : Int) (w : World) : Calls Tryz.prog 76 #[.int .i64 n] w fun e w' => e = .returned (.agg #[.int .i64 1, .int .i64 n, .string ⟨#[]⟩]) ∧ Below w.heap.size w w' := by
  go_enter Tryz.func76, Tryz.ntmps76
  go_wp2
  exact bodyPost_ret (v := .agg #[.int .i64 1, .int .i64 n, .string ⟨#[]⟩]) (by simp [results, Tryz.results76, go_sem]) rfl ⟨rfl, (Below.refl _ _).alloc (Nat.le_refl _) _⟩
theorem one_any (n : Int) (w : World) : Calls Tryz.prog 37 #[.int .i64 n] w (Makes w fun v Gr => RowAt Gr v [⟨1, n, ⟨#[]⟩⟩]) := by
  have HI := Lib.hid (refint_any n)
  go_enter Tryz.func37, Tryz.ntmps37
  go_wp2_with (go_at_call 76; refine (HI.out _).mono ?_; rintro e w1 ⟨rfl, hb1⟩)
  go_ret
  refine ⟨_, Gh.nil.put w1.heap.size (.cells #[.int .i64 1, .int .i64 n, .string ⟨#[]⟩] 82), rfl, hb1.alloc hb1.size _, (Holds.nil w1).alloc _, fun b hb => ?_, some ⟨w1.heap.size, 0, none⟩, 1, rfl, Nat.le_refl _, .inr ⟨_, _, _, _, _, rfl, Gh.put_same _ _ _, fun j u hj => by simpa [rowCells, Val.cells] using hj⟩⟩
  by_cases e : b = w1.heap.size
  · subst e; exact hb1.size
  · rw [Gh.put_other _ _ e] at hb; exact absurd rfl hb
end Go.Ju

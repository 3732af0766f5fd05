/- The heap's part that a store owns, in pieces that share no block ('Fam'), and how they go on ('FEv'). No program is named. -/
import Derived.Test.YthdnjokioboehaaGreatDoorBase
import Derived.Test.YthdnjokioboehaaGreatDoorLeaf
namespace Go.Ju
open Go.RowKit

theorem Ev.more {H G G' : Gh} {w w' : World} (h : Ev H w G' w') (hs : ∀ b o, H b = some o → G b = some o) : Ev G w G' w' :=
  ⟨h.holds, h.os, h.tape, h.output, h.size, fun b hb hg => h.keep b hb (by
    cases hH : H b with
    | none => rfl
    | some o => rw [hs b o hH] at hg; cases hg), fun b hb => by
    rcases h.fresh b hb with h1 | h1
    · left
      cases hH : H b with
      | none => exact absurd hH h1
      | some o => rw [hs b o hH]; simp
    · exact .inr h1⟩

section
variable {ι : Type} [DecidableEq ι]

def upd (g : ι → Gh) (c : ι) (G : Gh) : ι → Gh := fun d => if d = c then G else g d
@[simp] theorem upd_same (g : ι → Gh) (c : ι) (G : Gh) : upd g c G c = G := by simp [upd]
theorem upd_other (g : ι → Gh) {c d : ι} (G : Gh) (h : d ≠ c) : upd g c G d = g d := by simp [upd, h]

/-- The pieces g hold in w, share no block, and lie from block B on. -/
structure Fam (B : Nat) (g : ι → Gh) (w : World) : Prop where
  holds : ∀ c, Holds (g c) w
  apart : ∀ c d, c ≠ d → Apart (g c) (g d)
  base : ∀ c b, g c b ≠ none → B ≤ b
  le : B ≤ w.heap.size

structure FEv (B : Nat) (g : ι → Gh) (w : World) (g' : ι → Gh) (w' : World) : Prop where
  fam : Fam B g' w'
  os : w'.os = w.os
  tape : w'.tape = w.tape
  output : w'.output = w.output
  size : w.heap.size ≤ w'.heap.size
  keep : ∀ b, b < w.heap.size → (∀ c, g c b = none) → w'.heap[b]? = w.heap[b]?
  fresh : ∀ c b, g' c b ≠ none → (∃ d, g d b ≠ none) ∨ w.heap.size ≤ b

variable {B : Nat} {g g' g'' : ι → Gh} {w w' w'' : World}

omit [DecidableEq ι] in
theorem Fam.drewN (h : Fam B g w) (n : Nat) : Fam B g (w.drewN n) := ⟨h.holds, h.apart, h.base, h.le⟩
omit [DecidableEq ι] in
theorem FEv.refl (h : Fam B g w) : FEv B g w g w := ⟨h, rfl, rfl, rfl, Nat.le_refl _, fun _ _ _ => rfl, fun c _ hb => .inl ⟨c, hb⟩⟩
omit [DecidableEq ι] in
theorem FEv.trans (h : FEv B g w g' w') (k : FEv B g' w' g'' w'') : FEv B g w g'' w'' :=
  ⟨k.fam, k.os.trans h.os, k.tape.trans h.tape, k.output.trans h.output, Nat.le_trans h.size k.size,
   fun b hb hg => (k.keep b (Nat.lt_of_lt_of_le hb h.size) (fun c => by
     cases hc : g' c b with
     | none => rfl
     | some o =>
       rcases h.fresh c b (by simp [hc]) with ⟨d, h1⟩ | h1
       · exact absurd (hg d) h1
       · omega)).trans (h.keep b hb hg),
   fun c b hb => by
     rcases k.fresh c b hb with ⟨d, h1⟩ | h1
     · exact h.fresh d b h1
     · exact .inr (Nat.le_trans h.size h1)⟩
omit [DecidableEq ι] in
theorem FEv.drewN (h : FEv B g w g' w') (n : Nat) : FEv B g w g' (w'.drewN n) := ⟨h.fam.drewN n, h.os, h.tape, h.output, h.size, h.keep, h.fresh⟩
omit [DecidableEq ι] in
theorem FEv.drew (h : FEv B g w g' w') : FEv B g w g' w'.drew := h.drewN 1
omit [DecidableEq ι] in
theorem FEv.below (h : FEv B g w g' w') (hB : Fam B g w) : Below B w w' :=
  ⟨h.os, h.tape, h.output, h.size, fun k hk => h.keep k (Nat.lt_of_lt_of_le hk hB.le) (fun c => by
    cases hc : g c k with
    | none => rfl
    | some o => have := hB.base c k (by simp [hc]); omega)⟩
/-- One piece goes on. -/
theorem FEv.one (h : Fam B g w) {c : ι} {G' : Gh} (he : Ev (g c) w G' w') : FEv B g w (upd g c G') w' := by
  have hap : ∀ d, d ≠ c → Apart G' (g d) := fun d hd => he.apart (h.holds d) (h.apart c d (Ne.symm hd))
  refine ⟨⟨fun d => ?_, fun d d' hd => ?_, fun d b hb => ?_, Nat.le_trans h.le he.size⟩, he.os, he.tape, he.output, he.size, fun b hb hg => he.keep b hb (hg c), fun d b hb => ?_⟩
  · by_cases e : d = c
    · subst e; rw [upd_same]; exact he.holds
    · rw [upd_other _ _ e]; exact he.frame (h.holds d) (h.apart c d (Ne.symm e))
  · by_cases e : d = c
    · subst e
      rw [upd_same, upd_other _ _ (Ne.symm hd)]
      exact hap d' (Ne.symm hd)
    · rw [upd_other _ _ e]
      by_cases e' : d' = c
      · subst e'; rw [upd_same]; exact (hap d e).symm
      · rw [upd_other _ _ e']; exact h.apart d d' hd
  · by_cases e : d = c
    · subst e
      rw [upd_same] at hb
      rcases he.fresh b hb with h1 | h1
      · exact h.base d b h1
      · exact Nat.le_trans h.le h1
    · rw [upd_other _ _ e] at hb
      exact h.base d b hb
  · by_cases e : d = c
    · subst e
      rw [upd_same] at hb
      rcases he.fresh b hb with h1 | h1
      · exact .inl ⟨d, h1⟩
      · exact .inr h1
    · rw [upd_other _ _ e] at hb
      exact .inl ⟨d, hb⟩
/-- .. behind what has gone on before. -/
theorem FEv.then (h : FEv B g w g' w') {c : ι} {G' : Gh} (he : Ev (g' c) w' G' w'') : FEv B g w (upd g' c G') w'' := h.trans (FEv.one h.fam he)
/-- A new block, in whichever piece. -/
theorem FEv.alloc (h : FEv B g w g' w') (c : ι) (o : Obj) : FEv B g w (upd g' c ((g' c).put w'.heap.size o)) (w'.alloc o) := h.then ((Ev.refl (h.fam.holds c)).alloc o)
theorem FEv.setCell (h : FEv B g w g' w') {c : ι} {b i : Nat} {cs : Array Value} {t : TypeId} {fr : Nat × Nat} (hb : g' c b = some (.cells cs t fr)) (v : Value) :
    FEv B g w (upd g' c ((g' c).put b (.cells (cs.setIfInBounds i v) t fr))) (w'.setCell ⟨b, i, none⟩ v) := h.then ((Ev.refl (h.fam.holds c)).setCell hb v)
omit [DecidableEq ι] in
/-- A callee that leaves all that was there. -/
theorem FEv.of_below (h : FEv B g w g' w') (hb : Below w'.heap.size w' w'') : FEv B g w g' w'' :=
  h.trans ⟨⟨fun c b o hc => (hb.block b ((h.fam.holds c).lt hc)).trans (h.fam.holds c b o hc), h.fam.apart, h.fam.base, Nat.le_trans h.fam.le hb.size⟩, hb.os, hb.tape, hb.output, hb.size, fun b hlt _ => hb.block b hlt, fun c _ hc => .inl ⟨c, hc⟩⟩
/-- .. and makes blocks that are known: they come to piece c. -/
theorem FEv.of_below_new (h : FEv B g w g' w') (hb : Below w'.heap.size w' w'') {Gr : Gh} (hr : Holds Gr w'') (hf : ∀ b, Gr b ≠ none → w'.heap.size ≤ b) (c : ι) : FEv B g w (upd g' c ((g' c).or Gr)) w'' :=
  h.then (Ev.of_below_new (h.fam.holds c) hb hr hf)
/-- Piece c may hand what it knows of one block on to piece d. -/
theorem Fam.give (h : Fam B g w) {c d : ι} (hcd : c ≠ d) {b : Nat} {o : Obj} (hb : g c b = some o) :
    Fam B (upd (upd g d ((g d).put b o)) c (fun k => if k = b then none else g c k)) w := by
  have hold : ∀ e, Holds ((upd (upd g d ((g d).put b o)) c (fun k => if k = b then none else g c k)) e) w := fun e => by
    by_cases e1 : e = c
    · subst e1
      rw [upd_same]
      intro k x hk
      dsimp only at hk
      split at hk
      · cases hk
      · exact h.holds e k x hk
    · rw [upd_other _ _ e1]
      by_cases e2 : e = d
      · subst e2
        rw [upd_same]
        intro k x hk
        by_cases ek : k = b
        · subst ek
          rw [Gh.put_same] at hk
          cases hk
          exact h.holds c k o hb
        · rw [Gh.put_other _ _ ek] at hk
          exact h.holds e k x hk
      · rw [upd_other _ _ e2]
        exact h.holds e
  have val : ∀ e k, (upd (upd g d ((g d).put b o)) c (fun k => if k = b then none else g c k)) e k ≠ none → (k ≠ b ∧ g e k ≠ none) ∨ (k = b ∧ e = d) := fun e k hk => by
    by_cases e1 : e = c
    · subst e1
      rw [upd_same] at hk
      split at hk
      · exact absurd rfl hk
      · exact .inl ⟨by assumption, hk⟩
    · rw [upd_other _ _ e1] at hk
      by_cases e2 : e = d
      · subst e2
        rw [upd_same] at hk
        by_cases ek : k = b
        · exact .inr ⟨ek, rfl⟩
        · rw [Gh.put_other _ _ ek] at hk
          exact .inl ⟨ek, hk⟩
      · rw [upd_other _ _ e2] at hk
        by_cases ek : k = b
        · subst ek
          rcases h.apart c e (Ne.symm e1) k with h1 | h1
          · rw [h1] at hb; cases hb
          · exact absurd h1 hk
        · exact .inl ⟨ek, hk⟩
  refine ⟨hold, fun e e' hne k => ?_, fun e k hk => ?_, h.le⟩
  · cases h1 : (upd (upd g d ((g d).put b o)) c (fun k => if k = b then none else g c k)) e k with
    | none => exact .inl rfl
    | some x =>
      cases h2 : (upd (upd g d ((g d).put b o)) c (fun k => if k = b then none else g c k)) e' k with
      | none => exact .inr rfl
      | some y =>
        rcases val e k (by simp [h1]) with ⟨n1, m1⟩ | ⟨n1, m1⟩ <;> rcases val e' k (by simp [h2]) with ⟨n2, m2⟩ | ⟨n2, m2⟩
        · rcases h.apart e e' hne k with h3 | h3
          · exact absurd h3 m1
          · exact absurd h3 m2
        · exact absurd n2 n1
        · exact absurd n1 n2
        · exact absurd (m1.trans m2.symm) hne
  · rcases val e k hk with ⟨_, m1⟩ | ⟨n1, _⟩
    · exact h.base e k m1
    · subst n1
      exact h.base c k (by simp [hb])
theorem FEv.give (h : FEv B g w g' w') {c d : ι} (hcd : c ≠ d) {b : Nat} {o : Obj} (hb : g' c b = some o) :
    FEv B g w (upd (upd g' d ((g' d).put b o)) c (fun k => if k = b then none else g' c k)) w' := by
  refine h.trans ⟨h.fam.give hcd hb, rfl, rfl, rfl, Nat.le_refl _, fun _ _ _ => rfl, fun e k hk => .inl ?_⟩
  by_cases ek : k = b
  · subst ek
    exact ⟨c, by simp [hb]⟩
  · refine ⟨e, fun h0 => hk ?_⟩
    by_cases e1 : e = c
    · subst e1; rw [upd_same]; simp [h0]
    · rw [upd_other _ _ e1]
      by_cases e2 : e = d
      · subst e2; rw [upd_same, Gh.put_other _ _ ek]; exact h0
      · rw [upd_other _ _ e2]; exact h0

/-! ### two families -/
omit [DecidableEq ι] in
theorem FEv.frame {κ : Type} {h : κ → Gh} {B' : Nat} (he : FEv B g w g' w') (hh : Fam B' h w) (ha : ∀ c d, Apart (g c) (h d)) : Fam B' h w' ∧ ∀ c d, Apart (g' c) (h d) := by
  have hk : ∀ d b, h d b ≠ none → w'.heap[b]? = w.heap[b]? := fun d b hb => he.keep b (by
    cases hx : h d b with
    | none => exact absurd hx hb
    | some o => exact (hh.holds d).lt hx) (fun c => by
      rcases ha c d b with h1 | h1
      · exact h1
      · exact absurd h1 hb)
  refine ⟨⟨fun d b o hb => (hk d b (by simp [hb])).trans (hh.holds d b o hb), hh.apart, hh.base, Nat.le_trans hh.le he.size⟩, fun c d b => ?_⟩
  cases hc : g' c b with
  | none => exact .inl rfl
  | some o =>
    rcases he.fresh c b (by simp [hc]) with ⟨c', h1⟩ | h1
    · rcases ha c' d b with h2 | h2
      · exact absurd h2 h1
      · exact .inr h2
    · right
      cases hx : h d b with
      | none => rfl
      | some x => have := (hh.holds d).lt hx; omega
omit [DecidableEq ι] in
theorem FEv.frameG {G : Gh} (he : FEv B g w g' w') (hh : Holds G w) (ha : ∀ c, Apart (g c) G) : Holds G w' ∧ ∀ c, Apart (g' c) G := by
  have hk : ∀ b, G b ≠ none → w'.heap[b]? = w.heap[b]? := fun b hb => he.keep b (by
    cases hx : G b with
    | none => exact absurd hx hb
    | some o => exact hh.lt hx) (fun c => by
      rcases ha c b with h1 | h1
      · exact h1
      · exact absurd h1 hb)
  refine ⟨fun b o hb => (hk b (by simp [hb])).trans (hh b o hb), fun c b => ?_⟩
  cases hc : g' c b with
  | none => exact .inl rfl
  | some o =>
    rcases he.fresh c b (by simp [hc]) with ⟨c', h1⟩ | h1
    · rcases ha c' b with h2 | h2
      · exact absurd h2 h1
      · exact .inr h2
    · right
      cases hx : G b with
      | none => rfl
      | some x => have := hh.lt hx; omega
end
end Go.Ju

/- The three kinds of keys: whole numbers, tables (owner and name), rows' addresses. -/
namespace Go.Ju
open Go.RowKit
open Go.Proofs

theorem findAsking_spec {κ : Type} [DecidableEq κ] {P : Program} {kt : TypeId} {enc : κ → Value} {ok : κ → Prop} {w : World}
    (heq : ∀ k k', ok k → ok k' → (Op.equal kt (enc k) (enc k')).run P w = .ok (decide (k = k')) w) (hinj : ∀ {a b : κ}, ok a → ok b → enc a = enc b → a = b) {k : κ} (hk : ok k) :
    ∀ (es : List MapEntry) (i : Nat), (∀ e ∈ es, ∃ k' : κ, ok k' ∧ e.key = enc k') →
    ((Instr.findAsking kt (enc k) es i).run P w = .ok none w ∧ ∀ e ∈ es, e.key ≠ enc k) ∨ ∃ j e, (Instr.findAsking kt (enc k) es i).run P w = .ok (some (i + j, e.val)) w ∧ es[j]? = some e ∧ e.key = enc k
  | [], i, _ => .inl ⟨by simp [Instr.findAsking], by simp⟩
  | e :: es, i, h => by
    obtain ⟨k', hk', he⟩ := h e (by simp)
    have h1 := heq k k' hk hk'
    by_cases hkk : k = k'
    · subst hkk
      refine .inr ⟨0, e, ?_, by simp, he⟩
      simp [Instr.findAsking, he, h1, Result.andThen]
    · have hne : e.key ≠ enc k := fun e' => hkk (hinj hk hk' (by rw [← e', he]))
      rcases findAsking_spec heq hinj hk es (i + 1) (fun x hx => h x (by simp [hx])) with ⟨hr, hn⟩ | ⟨j, x, hr, hj, hx⟩
      · refine .inl ⟨by simp [Instr.findAsking, he, h1, hkk, Result.andThen, hr], fun x hx => ?_⟩
        rcases List.mem_cons.1 hx with rfl | hx
        · exact hne
        · exact hn x hx
      · exact .inr ⟨j + 1, x, by simp [Instr.findAsking, he, h1, hkk, Result.andThen, hr, Nat.add_assoc, Nat.add_comm 1 j], by simpa using hj, hx⟩

theorem KL.of_asking {κ : Type} [DecidableEq κ] {P : Program} {kt : TypeId} {d : TypeDesc} {enc : κ → Value} {ok : κ → Prop} {W : World → Prop} (hd : P.underlying kt = some d) (hnow : ∀ a b, Instr.sameNow d a b = none)
    (heq : ∀ w, W w → ∀ k k', ok k → ok k' → (Op.equal kt (enc k) (enc k')).run P w = .ok (decide (k = k')) w) (hinj : ∀ {a b : κ}, ok a → ok b → enc a = enc b → a = b)
    (hcheck : ∀ w, W w → ∀ (em : Bool) (k : κ), ok k → (Instr.checkKey em 10000 kt (enc k)).run P w = .ok () w) (hst : ∀ (w : World) (k : κ), ok k → (Instr.keyThatStays (enc k) (enc k)).run P w = .ok (enc k) w) : KL P kt enc ok W where
  inj := hinj
  check := hcheck
  stays := hst
  find w hw k hk es hes := by
    cases es with
    | nil => exact .inl ⟨by simp [Instr.findKey, run_underlying hd, Instr.findNow], by simp⟩
    | cons e es =>
      have hf : (Instr.findKey kt (enc k) (e :: es)).run P w = (Instr.findAsking kt (enc k) (e :: es) 0).run P w := by
        simp [Instr.findKey, run_underlying hd, Instr.findNow, hnow]
      rw [hf]
      rcases findAsking_spec (heq w hw) hinj hk (e :: es) 0 hes with h | ⟨j, x, hr, h⟩
      · exact .inl h
      · exact .inr ⟨j, x, by simpa using hr, h⟩

/-! ### whole numbers -/
def encI (i : Int) : Value := .int .i64 i
def okI (i : Int) : Prop := (Lit.int .i64 i).wf = true
theorem okI_of {i : Int} (h1 : -9223372036854775808 ≤ i) (h2 : i ≤ 9223372036854775807) : okI i := by
  simp [okI, Lit.wf, IntKind.min, IntKind.max, IntKind.signed, IntKind.bits]
  omega
theorem klI : KL Tryz.prog 3 encI okI (fun _ => True) :=
  KL.of_keyed (Maps.int_keyed Tryz.underlying3) (fun _ _ h => by injection h) (fun k hk => ⟨_, Maps.keyOf_int_mk Tryz.underlying3 hk⟩)

/-! ### tables -/
abbrev Key := ByteArray × ByteArray
def encK (k : Key) : Value := .agg #[.string k.1, .string k.2]
theorem check_key (em : Bool) (a b : ByteArray) (w : World) : (Instr.checkKey em 10000 91 (.agg #[.string a, .string b])).run Tryz.prog w = .ok () w := by kernel_rfl
theorem equal_key (a b c d : ByteArray) (w : World) : (Op.equal 91 (.agg #[.string a, .string b]) (.agg #[.string c, .string d])).run Tryz.prog w = .ok (decide (((a, b) : Key) = (c, d))) w := by
  have h1 : ∀ x y : ByteArray, x.toList = y.toList ↔ x = y := fun x y => by
    rw [ByteArray.toList_eq, ByteArray.toList_eq]
    constructor
    · intro h
      cases x; cases y
      congr
      exact Array.toList_inj.1 h
    · rintro rfl; rfl
  unfold Op.equal Op.maxDepth
  simp [go_sem, h1]
  by_cases h2 : a = c <;> by_cases h3 : b = d <;> simp [h2, h3]
theorem klK : KL Tryz.prog 91 encK (fun _ => True) (fun _ => True) :=
  KL.of_asking Tryz.underlying91 (fun _ _ => rfl) (fun w _ k k' _ _ => equal_key _ _ _ _ w)
    (fun _ _ h => by
      unfold encK at h
      injection h with h
      simp only [Array.mk.injEq, List.cons.injEq, Value.string.injEq, and_true] at h
      exact Prod.ext h.1 h.2)
    (fun w _ em k _ => check_key em _ _ w)
    (fun w k _ => by simp [Instr.keyThatStays, encK, Instr.sameBits, beq_toListBytes])

/-! ### rows' addresses -/
def ptr (b : Nat) : Value := .pointer (some ⟨b, 0, none⟩)
theorem check_ptr (em : Bool) (b : Nat) (w : World) : (Instr.checkKey em 10000 95 (ptr b)).run Tryz.prog w = .ok () w := by kernel_rfl
theorem size_row (w : World) : (sizeOf 102).run Tryz.prog w = .ok 4 w := by kernel_rfl
theorem equal_ptr (b c : Nat) (w : World) {cs cs' : Array Value} {t t' : TypeId} (hb : w.heap[b]? = some (.cells cs t (0, 0))) (hc : w.heap[c]? = some (.cells cs' t' (0, 0))) :
    (Op.equal 95 (ptr b) (ptr c)).run Tryz.prog w = .ok (decide (b = c)) w := by
  unfold Op.equal Op.maxDepth Op.equalIn ptr
  simp only [Sem.run_bind, run_underlying Tryz.underlying95, Result.andThen_ok, size_row]
  by_cases h : b = c
  · subst h
    simp [sameAddr]
  · have h' : ¬ c = b := fun e => h e.symm
    simp [sameAddr, h, frozen, Sem.run, World.frozen?, hb, hc, noView, viewAt, shape, World.shape?, mayBeOne, stringish, Result.andThen]
theorem klP (S : Nat → Prop) : KL Tryz.prog 95 ptr S (fun w => ∀ b, S b → ∃ cs t, w.heap[b]? = some (.cells cs t (0, 0))) :=
  KL.of_asking Tryz.underlying95 (fun _ _ => rfl) (fun w hw k k' hk hk' => by
      obtain ⟨cs, t, h1⟩ := hw k hk
      obtain ⟨cs', t', h2⟩ := hw k' hk'
      exact equal_ptr k k' w h1 h2)
    (fun _ _ h => by
      unfold ptr at h
      injection h with h
      injection h with h
      injection h)
    (fun w _ em k _ => check_ptr em k w)
    (fun w k _ => by simp [Instr.keyThatStays, ptr, Instr.sameBits])
end Go.Ju

/- The store as plain data, and what its calls do to it. No program in sight. -/
namespace Go.Ju

/-! ### lists of pairs -/
section
variable {κ β : Type} [DecidableEq κ]
def aget (l : List (κ × β)) (k : κ) : Option β := (l.find? fun p => decide (p.1 = k)).map Prod.snd
def aput (l : List (κ × β)) (k : κ) (v : β) : List (κ × β) := if k ∈ l.map Prod.fst then l.map (fun p => if p.1 = k then (k, v) else p) else l ++ [(k, v)]
def adel (l : List (κ × β)) (k : κ) : List (κ × β) := l.filter fun p => decide (p.1 ≠ k)

theorem aget_none {l : List (κ × β)} {k : κ} : aget l k = none ↔ k ∉ l.map Prod.fst := by
  unfold aget
  simp only [Option.map_eq_none_iff, List.find?_eq_none, decide_eq_true_eq, List.mem_map, not_exists, not_and]
theorem aget_mem {l : List (κ × β)} {k : κ} {v : β} (h : aget l k = some v) : (k, v) ∈ l := by
  unfold aget at h
  simp only [Option.map_eq_some_iff] at h
  obtain ⟨p, hp, rfl⟩ := h
  have h1 := List.mem_of_find?_eq_some hp
  have h2 := List.find?_some hp
  simp only [decide_eq_true_eq] at h2
  rw [← h2]
  exact h1
theorem aget_of_mem {l : List (κ × β)} (hn : (l.map Prod.fst).Nodup) {k : κ} {v : β} (h : (k, v) ∈ l) : aget l k = some v := by
  induction l with
  | nil => simp at h
  | cons p r ih =>
    obtain ⟨pk, pv⟩ := p
    simp only [List.map_cons, List.nodup_cons] at hn
    rcases List.mem_cons.1 h with e | e
    · cases e
      simp [aget]
    · have hne : pk ≠ k := fun e' => hn.1 (by rw [e']; exact List.mem_map_of_mem (f := Prod.fst) e)
      have := ih hn.2 e
      unfold aget at this ⊢
      rw [List.find?_cons]
      simp only [hne, decide_false]
      exact this
theorem aget_some_iff {l : List (κ × β)} (hn : (l.map Prod.fst).Nodup) {k : κ} {v : β} : aget l k = some v ↔ (k, v) ∈ l := ⟨aget_mem, aget_of_mem hn⟩
theorem aget_isSome {l : List (κ × β)} {k : κ} : (aget l k).isSome = true ↔ k ∈ l.map Prod.fst := by
  rw [← Decidable.not_iff_not, ← aget_none]
  cases aget l k <;> simp
theorem aput_keys_old {l : List (κ × β)} {k : κ} (v : β) (h : k ∈ l.map Prod.fst) : (aput l k v).map Prod.fst = l.map Prod.fst := by
  unfold aput
  rw [if_pos h, List.map_map]
  apply List.map_congr_left
  intro p _
  simp only [Function.comp]
  split
  · rename_i e; exact e.symm
  · rfl
theorem aput_keys_new {l : List (κ × β)} {k : κ} (v : β) (h : k ∉ l.map Prod.fst) : (aput l k v).map Prod.fst = l.map Prod.fst ++ [k] := by
  unfold aput
  rw [if_neg h]
  simp
theorem aput_nodup {l : List (κ × β)} (hn : (l.map Prod.fst).Nodup) (k : κ) (v : β) : ((aput l k v).map Prod.fst).Nodup := by
  by_cases h : k ∈ l.map Prod.fst
  · rw [aput_keys_old v h]; exact hn
  · rw [aput_keys_new v h, List.nodup_append]
    exact ⟨hn, by simp, fun a ha b hb => by simp only [List.mem_cons, List.not_mem_nil, or_false] at hb; subst hb; exact fun e => h (e ▸ ha)⟩
theorem find_map_put (l : List (κ × β)) (k k' : κ) (v : β) : ((l.map fun p => if p.1 = k then (k, v) else p).find? fun p => decide (p.1 = k')) = (l.find? fun p => decide (p.1 = k')).map fun p => if p.1 = k then (k, v) else p := by
  rw [List.find?_map]
  congr 1
  congr 1
  funext p
  simp only [Function.comp]
  split
  · rename_i e; rw [e]
  · rfl
theorem aget_put_same (l : List (κ × β)) (k : κ) (v : β) : aget (aput l k v) k = some v := by
  unfold aput
  split
  · rename_i h
    unfold aget
    rw [find_map_put]
    obtain ⟨p, hp, hk⟩ := List.mem_map.1 h
    cases hf : l.find? (fun p => decide (p.1 = k)) with
    | none =>
      rw [List.find?_eq_none] at hf
      exact absurd (by simpa using hk) (hf p hp)
    | some q =>
      have := List.find?_some hf
      simp only [decide_eq_true_eq] at this
      simp [this]
  · rename_i h
    unfold aget
    rw [List.find?_append]
    have : l.find? (fun p => decide (p.1 = k)) = none := by
      rw [List.find?_eq_none]
      intro p hp
      simp only [decide_eq_true_eq]
      exact fun e => h (by rw [← e]; exact List.mem_map_of_mem hp)
    rw [this]
    simp
theorem aget_put_other (l : List (κ × β)) {k k' : κ} (v : β) (hne : k' ≠ k) : aget (aput l k v) k' = aget l k' := by
  unfold aput
  split
  · unfold aget
    rw [find_map_put]
    cases hf : l.find? (fun p => decide (p.1 = k')) with
    | none => rfl
    | some q =>
      have := List.find?_some hf
      simp only [decide_eq_true_eq] at this
      simp [this, hne]
  · unfold aget
    rw [List.find?_append]
    cases hf : l.find? (fun p => decide (p.1 = k')) with
    | none => simp [Ne.symm hne]
    | some q => simp
theorem aget_del_same (l : List (κ × β)) (k : κ) : aget (adel l k) k = none := by
  rw [aget_none]
  unfold adel
  simp only [List.mem_map, List.mem_filter, decide_eq_true_eq, not_exists, not_and]
  rintro p ⟨_, h⟩ e
  exact h e
theorem aget_del_other (l : List (κ × β)) {k k' : κ} (hne : k' ≠ k) : aget (adel l k) k' = aget l k' := by
  unfold aget adel
  rw [List.find?_filter]
  congr 1
  congr 1
  funext p
  by_cases h : p.1 = k'
  · simp [h, hne]
  · simp [h]
theorem adel_nodup {l : List (κ × β)} (hn : (l.map Prod.fst).Nodup) (k : κ) : ((adel l k).map Prod.fst).Nodup := (List.Sublist.map _ List.filter_sublist).nodup hn
theorem mem_aput {l : List (κ × β)} {k : κ} {v : β} {p : κ × β} (h : p ∈ aput l k v) : p = (k, v) ∨ (p ∈ l ∧ p.1 ≠ k) := by
  unfold aput at h
  split at h
  · obtain ⟨q, hq, rfl⟩ := List.mem_map.1 h
    split
    · exact .inl rfl
    · exact .inr ⟨hq, by assumption⟩
  · rename_i hn
    rcases List.mem_append.1 h with h | h
    · exact .inr ⟨h, fun e => hn (by rw [← e]; exact List.mem_map_of_mem h)⟩
    · exact .inl (by simpa using h)
theorem mem_adel {l : List (κ × β)} {k : κ} {p : κ × β} (h : p ∈ adel l k) : p ∈ l ∧ p.1 ≠ k := by
  unfold adel at h
  simpa using List.mem_filter.1 h
theorem aput_length_le (l : List (κ × β)) (k : κ) (v : β) : (aput l k v).length ≤ l.length + 1 := by
  unfold aput
  split
  · simp
  · simp
end

/-! ### the store -/
structure Ver where
  time : Int
  gone : Bool
  row : List Val
  deriving Inhabited
structure RowS where
  old : List Ver
  lost : Bool
  opn : Option Ver
  txn : Int
  deriving Inhabited
structure Tab where
  rows : List (Int × RowS)
  next : Int
  deriving Inhabited
structure Chg where
  key : Key
  drops : Int
  id : Int
  before : Option Ver
  deriving Inhabited
structure St where
  time : Int
  tabs : List (Key × Tab)
  drops : List (Key × Int)
  log : List (Int × List Chg)
  deriving Inhabited

def St.empty : St := ⟨0, [], [], []⟩
def there (v : Option Ver) : Bool := match v with | none => false | some x => !x.gone
def RowS.last (r : RowS) : Option Ver := r.old.getLast?
def RowS.mine (r : RowS) (txn : Int) : Bool := r.opn.isSome && decide (r.txn = txn)
def RowS.now (r : RowS) (txn : Int) : Option Ver := if r.mine txn then r.opn else r.last
def RowS.seenOld (r : RowS) (time : Int) : Option Ver := r.old.reverse.find? fun v => decide (v.time ≤ time)
/-- What a transaction sees of a row; whether it can be told. -/
def RowS.at (r : RowS) (time txn : Int) : Option Ver × Bool :=
  if r.mine txn then (r.opn, true) else match r.seenOld time with
    | some v => (some v, true)
    | none => (none, !r.lost)
def RowS.counts (r : RowS) (txn : Int) : Bool := there r.opn || (!r.mine txn && there r.last)
def Tab.full (t : Tab) (txn : Int) : Bool := decide (500 ≤ t.rows.countP fun p => p.2.counts txn)
def St.lg (M : St) (txn : Int) : List Chg := (aget M.log txn).getD []
def St.dr (M : St) (k : Key) : Int := (aget M.drops k).getD 0
def St.row (M : St) (k : Key) (id : Int) : Option RowS := (aget M.tabs k).bind fun t => aget t.rows id
def Tab.putRow (t : Tab) (id : Int) (r : RowS) : Tab := { t with rows := aput t.rows id r }
def St.putRow (M : St) (k : Key) (id : Int) (r : RowS) : St := match aget M.tabs k with
  | none => M
  | some t => { M with tabs := aput M.tabs k (t.putRow id r) }
def St.delRow (M : St) (k : Key) (id : Int) : St := match aget M.tabs k with
  | none => M
  | some t => { M with tabs := aput M.tabs k { t with rows := adel t.rows id } }
/-- set: a row that is there gets an open version. -/
def St.set (M : St) (k : Key) (txn id : Int) (v : Ver) : St := match M.row k id with
  | none => M
  | some r => ({ M with log := aput M.log txn (M.lg txn ++ [(⟨k, M.dr k, id, r.opn⟩ : Chg)]) } : St).putRow k id { r with opn := some v, txn := txn }
/-- The row that Add lays before it gets its version. -/
def St.grow (M : St) (k : Key) : St × Int :=
  let t := (aget M.tabs k).getD ⟨[], 1⟩
  ({ M with tabs := aput M.tabs k ⟨aput t.rows t.next ⟨[], false, none, 0⟩, t.next + 1⟩ }, t.next)
def St.add (M : St) (k : Key) (txn : Int) (row : List Val) : St × Int × Int :=
  if (match aget M.tabs k with | none => false | some t => t.full txn || decide (t.next = 1099511627776)) = true then (M, 0, 3)
  else ((M.grow k).1.set k txn (M.grow k).2 ⟨0, false, row⟩, (M.grow k).2, 0)
def St.change (M : St) (k : Key) (txn id : Int) (v : Ver) : St × Int := match M.row k id with
  | none => (M, 4)
  | some r => if r.opn.isSome && decide (r.txn ≠ txn) then (M, 27) else if there (r.now txn) then (M.set k txn id v, 0) else (M, 4)
def St.undo1 (M : St) (c : Chg) : St := if c.drops = M.dr c.key then match M.row c.key c.id with
  | none => M
  | some r => if c.before.isNone && r.old.isEmpty then M.delRow c.key c.id else M.putRow c.key c.id { r with opn := c.before }
  else M
def St.back (M : St) (txn : Int) (mark : Nat) : St :=
  let M' := ((M.lg txn).drop mark).reverse.foldl St.undo1 M
  { M' with log := aput M'.log txn ((M.lg txn).take mark) }
/-- Each element once. -/
def uniq {α : Type} [DecidableEq α] : List α → List α
  | [] => []
  | a :: l => a :: (uniq l).filter fun b => decide (b ≠ a)
theorem mem_uniq {α : Type} [DecidableEq α] {l : List α} {x : α} : x ∈ uniq l ↔ x ∈ l := by
  induction l with
  | nil => simp [uniq]
  | cons a l ih =>
    simp only [uniq, List.mem_cons, List.mem_filter, ih, decide_eq_true_eq]
    by_cases e : x = a
    · simp [e]
    · simp [e]
theorem nodup_uniq {α : Type} [DecidableEq α] (l : List α) : (uniq l).Nodup := by
  induction l with
  | nil => simp [uniq]
  | cons a l ih =>
    simp only [uniq, List.nodup_cons, List.mem_filter, decide_eq_true_eq]
    exact ⟨fun h => h.2 rfl, List.filter_sublist.nodup ih⟩
def St.touched (M : St) (txn : Int) : List (Key × Int) :=
  uniq (((M.lg txn).filter fun c => decide (c.drops = M.dr c.key) && match M.row c.key c.id with | none => false | some r => r.opn.isSome).map fun c => (c.key, c.id))
def RowS.commit (r : RowS) (v : Ver) (time : Int) : RowS :=
  let l := r.old ++ [{ v with time := time }]
  if 6 < l.length then { r with old := l.drop (l.length - 6), lost := true, opn := none } else { r with old := l, opn := none }
def St.commit1 (M : St) (time : Int) (p : Key × Int) : St := match M.row p.1 p.2 with
  | none => M
  | some r => match r.opn with
    | none => M
    | some v => if v.gone && r.old.isEmpty then M.delRow p.1 p.2 else M.putRow p.1 p.2 (r.commit v time)
def St.commit (M : St) (txn : Int) : St × Int × Int :=
  if M.touched txn = [] then ({ M with log := adel M.log txn }, M.time, 0)
  else if M.time = 1099511627776 then (M, 0, 3)
  else
    let M' := (M.touched txn).foldl (fun N p => N.commit1 (M.time + 1) p) { M with time := M.time + 1 }
    ({ M' with log := adel M'.log txn }, M.time + 1, 0)
def St.drop (M : St) (k : Key) : St := match aget M.tabs k with
  | none => M
  | some t => { M with tabs := aput M.tabs k { t with rows := [] }, drops := aput M.drops k (M.dr k + 1) }
/-- What is seen of a table; none: it cannot be told. -/
def Tab.seen (t : Tab) (time txn : Int) : Option (List (Int × List Val)) :=
  if t.rows.all (fun p => (p.2.at time txn).2) then some (t.rows.filterMap fun p => match (p.2.at time txn).1 with
    | none => none
    | some v => if v.gone then none else some (p.1, v.row))
  else none
end Go.Ju

/- How the store's data lie in memory. -/
namespace Go.Ju
open Go.RowKit
open Go.Proofs

/-! ### two lists, element by element -/
inductive All2 {α β : Type} (R : α → β → Prop) : List α → List β → Prop where
  | nil : All2 R [] []
  | cons {a : α} {b : β} {l : List α} {m : List β} : R a b → All2 R l m → All2 R (a :: l) (b :: m)
section
variable {α β : Type} {R S : α → β → Prop}
theorem All2.imp {l : List α} {m : List β} (h : All2 R l m) (hi : ∀ a b, R a b → S a b) : All2 S l m := by
  induction h with
  | nil => exact .nil
  | cons h1 _ ih => exact .cons (hi _ _ h1) ih
theorem All2.length {l : List α} {m : List β} (h : All2 R l m) : l.length = m.length := by
  induction h with
  | nil => rfl
  | cons _ _ ih => simp [ih]
theorem All2.append {l l' : List α} {m m' : List β} (h : All2 R l m) (h' : All2 R l' m') : All2 R (l ++ l') (m ++ m') := by
  induction h with
  | nil => exact h'
  | cons h1 _ ih => exact .cons h1 ih
theorem All2.get {l : List α} {m : List β} (h : All2 R l m) : ∀ {k : Nat} {a : α}, l[k]? = some a → ∃ b, m[k]? = some b ∧ R a b := by
  induction h with
  | nil => intro k a hk; simp at hk
  | cons h1 _ ih =>
    intro k a hk
    cases k with
    | zero => simp at hk; subst hk; exact ⟨_, rfl, h1⟩
    | succ k => simp at hk; simpa using ih hk
theorem All2.take {l : List α} {m : List β} (h : All2 R l m) (n : Nat) : All2 R (l.take n) (m.take n) := by
  induction h generalizing n with
  | nil => simpa using All2.nil
  | cons h1 _ ih =>
    cases n with
    | zero => exact .nil
    | succ n => exact .cons h1 (ih n)
theorem All2.drop {l : List α} {m : List β} (h : All2 R l m) (n : Nat) : All2 R (l.drop n) (m.drop n) := by
  induction h generalizing n with
  | nil => simpa using All2.nil
  | cons h1 h2 ih =>
    cases n with
    | zero => exact .cons h1 h2
    | succ n => exact ih n
/-- The cells of lists of one length. -/
theorem flatten_get {c : Nat} : ∀ {m : List (List Value)} {k j : Nat} {b : List Value}, (∀ x ∈ m, x.length = c) → m[k]? = some b → j < c → m.flatten[k * c + j]? = b[j]?
  | [], k, j, b, _, h, _ => by simp at h
  | y :: r, 0, j, b, hc, h, hj => by
    simp at h
    subst h
    rw [List.flatten_cons, List.getElem?_append_left (by rw [hc y (by simp)]; omega)]
    simp
  | y :: r, k + 1, j, b, hc, h, hj => by
    simp at h
    rw [List.flatten_cons, List.getElem?_append_right (by rw [hc y (by simp), Nat.add_mul]; omega), hc y (by simp), show (k + 1) * c + j - c = k * c + j from by rw [Nat.add_mul]; omega]
    exact flatten_get (fun x hx => hc x (by simp [hx])) h hj
theorem flatten_take {c : Nat} : ∀ {m : List (List Value)} (n : Nat), (∀ x ∈ m, x.length = c) → (m.take n).flatten = m.flatten.take (n * c)
  | [], n, _ => by simp
  | y :: r, 0, _ => by simp
  | y :: r, n + 1, hc => by
    rw [List.take_succ_cons, List.flatten_cons, List.flatten_cons, flatten_take n (fun x hx => hc x (by simp [hx])), List.take_append, hc y (by simp)]
    rw [show (n + 1) * c - c = n * c from by rw [Nat.add_mul]; omega, List.take_of_length_le (l := y) (by rw [hc y (by simp), Nat.add_mul]; omega)]
theorem flatten_drop {c : Nat} : ∀ {m : List (List Value)} (n : Nat), (∀ x ∈ m, x.length = c) → (m.drop n).flatten = m.flatten.drop (n * c)
  | [], n, _ => by simp
  | y :: r, 0, _ => by simp
  | y :: r, n + 1, hc => by
    rw [List.drop_succ_cons, List.flatten_cons, flatten_drop n (fun x hx => hc x (by simp [hx])), List.drop_append, hc y (by simp)]
    rw [show (n + 1) * c - c = n * c from by rw [Nat.add_mul]; omega, List.drop_of_length_le (l := y) (by rw [hc y (by simp), Nat.add_mul]; omega)]
    rfl
end

/-- The pieces of a store's memory. -/
inductive Comp where
  | tmp | imm | st | tM | dM | lM
  | tab (k : Key)
  | row (k : Key) (id : Int)
  | log (txn : Int)
  deriving DecidableEq

structure Lay where
  p : Nat
  tM : Nat
  dM : Nat
  lM : Nat
  tb : Key → Nat
  rM : Key → Nat
  rb : Key → Int → Nat
  lv : Int → Value

def VerIs (I : Gh) (v : Ver) (cs : List Value) : Prop := ∃ rv, cs = [.int .i64 v.time, .bool v.gone, rv] ∧ RowAt I rv v.row
def OpnAt (I : Gh) (pv : Value) : Option Ver → Prop
  | none => pv = .pointer none
  | some v => ∃ b cs, pv = ptr b ∧ I b = some (.cells cs.toArray 98 (0, 0)) ∧ VerIs I v cs
def VersAt (G I : Gh) (sv : Value) (l : List Ver) : Prop := ∃ css, All2 (VerIs I) l css ∧ Own G 98 3 sv l.length css.flatten
def RowObj (G I : Gh) (b : Nat) (r : RowS) : Prop :=
  ∃ sv op, G b = some (.cells #[sv, .bool r.lost, op, .int .i64 r.txn] 102 (0, 0)) ∧ VersAt G I sv r.old ∧ OpnAt I op r.opn
def ChgIs (I : Gh) (c : Chg) (cs : List Value) : Prop := ∃ op, cs = [.string c.key.1, .string c.key.2, .int .i64 c.drops, .int .i64 c.id, op] ∧ OpnAt I op c.before
def ChgsAt (G I : Gh) (sv : Value) (l : List Chg) : Prop := ∃ css, All2 (ChgIs I) l css ∧ Own G 133 5 sv l.length css.flatten
def MapAt {κ : Type} (G : Gh) (m : Nat) (enc : κ → Value) (ok : κ → Prop) (L : List (κ × Value)) : Prop := ∃ es clk, G m = some (.map es clk) ∧ MapOf enc ok es clk L
def TabObj (G : Gh) (b m : Nat) (t : Tab) (rb : Int → Nat) : Prop :=
  G b = some (.cells #[.map (some m), .int .i64 t.next] 94 (0, 0)) ∧ MapAt G m encI okI (t.rows.map fun p => (p.1, ptr (rb p.1)))

structure Rep (y : Lay) (M : St) (g : Comp → Gh) : Prop where
  st : g .st y.p = some (.cells #[.int .i64 M.time, .map (some y.tM), .map (some y.dM), .map (some y.lM)] 87 (0, 0))
  tM : MapAt (g .tM) y.tM encK (fun _ => True) (M.tabs.map fun p => (p.1, ptr (y.tb p.1)))
  dM : MapAt (g .dM) y.dM encK (fun _ => True) (M.drops.map fun p => (p.1, .int .i64 p.2))
  lM : MapAt (g .lM) y.lM encI okI (M.log.map fun p => (p.1, y.lv p.1))
  tab : ∀ k t, (k, t) ∈ M.tabs → TabObj (g (.tab k)) (y.tb k) (y.rM k) t (y.rb k)
  row : ∀ k t, (k, t) ∈ M.tabs → ∀ i r, (i, r) ∈ t.rows → RowObj (g (.row k i)) (g .imm) (y.rb k i) r
  log : ∀ x l, (x, l) ∈ M.log → ChgsAt (g (.log x)) (g .imm) (y.lv x) l

section
variable {I I' G G' : Gh}
theorem VerIs.sub {v : Ver} {cs : List Value} (h : VerIs I v cs) (hs : Sub I I') : VerIs I' v cs := by
  obtain ⟨rv, h1, h2⟩ := h
  exact ⟨rv, h1, h2.sub hs⟩
theorem OpnAt.sub {pv : Value} {o : Option Ver} (h : OpnAt I pv o) (hs : Sub I I') : OpnAt I' pv o := by
  cases o with
  | none => exact h
  | some v =>
    obtain ⟨b, cs, h1, h2, h3⟩ := h
    exact ⟨b, cs, h1, hs _ _ h2, h3.sub hs⟩
theorem VersAt.sub {sv : Value} {l : List Ver} (h : VersAt G I sv l) (hs : Sub I I') : VersAt G I' sv l := by
  obtain ⟨css, h1, h2⟩ := h
  exact ⟨css, h1.imp (fun _ _ h => h.sub hs), h2⟩
theorem RowObj.sub {b : Nat} {r : RowS} (h : RowObj G I b r) (hs : Sub I I') : RowObj G I' b r := by
  obtain ⟨sv, op, h1, h2, h3⟩ := h
  exact ⟨sv, op, h1, h2.sub hs, h3.sub hs⟩
theorem ChgsAt.sub {sv : Value} {l : List Chg} (h : ChgsAt G I sv l) (hs : Sub I I') : ChgsAt G I' sv l := by
  obtain ⟨css, h1, h2⟩ := h
  refine ⟨css, h1.imp (fun c cs h => ?_), h2⟩
  obtain ⟨op, h3, h4⟩ := h
  exact ⟨op, h3, h4.sub hs⟩
end
/-- What lies in the pieces that the data speak of is all that counts. -/
theorem Rep.keep {y : Lay} {M : St} {g g' : Comp → Gh} (h : Rep y M g) (h1 : ∀ c, c ≠ .tmp → c ≠ .imm → g' c = g c) (h2 : Sub (g .imm) (g' .imm)) : Rep y M g' where
  st := by rw [h1 _ (by simp) (by simp)]; exact h.st
  tM := by rw [h1 _ (by simp) (by simp)]; exact h.tM
  dM := by rw [h1 _ (by simp) (by simp)]; exact h.dM
  lM := by rw [h1 _ (by simp) (by simp)]; exact h.lM
  tab k t hk := by rw [h1 _ (by simp) (by simp)]; exact h.tab k t hk
  row k t hk i r hr := by rw [h1 _ (by simp) (by simp)]; exact (h.row k t hk i r hr).sub h2
  log x l hl := by rw [h1 _ (by simp) (by simp)]; exact (h.log x l hl).sub h2
end Go.Ju

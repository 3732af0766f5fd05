/- UndoApart, UndoUndone: the plain laws. -/
import Derived.Test.YthdnjokioboehaaGreatDoorPastLaw
import Derived.Test.YthdnjokioboehaaGreatDoorView
namespace Go.Ju

theorem Inv.runs (l : List ActM) : ∀ {n : Nat} {M : St}, Inv n M → Inv (n + 2 * l.length) (runs M l) := by
  induction l with
  | nil => intro n M h; exact h
  | cons a l ih =>
    intro n M h
    have := ih (h.doA a)
    rw [List.length_cons]
    exact this.mono (by omega)
/-! ### what one transaction does before it commits -/
theorem Hush.doA {n : Nat} {x : Int} {M : St} (h : Inv n M) (a : ActM) (hx : a.txn = x) (h5 : kindB a.op ≠ 5) (h10 : kindB a.op ≠ 10) : Hush x M (M.doA a).1 := by
  obtain ⟨h1, h2⟩ := kindB_range a.op
  have h3 : kindB a.op = 0 ∨ kindB a.op = 1 ∨ kindB a.op = 2 ∨ kindB a.op = 3 ∨ kindB a.op = 4 ∨ kindB a.op = 6 ∨ kindB a.op = 7 ∨ kindB a.op = 8 ∨ kindB a.op = 9 := by omega
  subst hx
  rcases h3 with e | e | e | e | e | e | e | e | e
  · rw [doA_0 M a e]; exact Hush.addA h _ _ _
  · rw [doA_1 M a e]; exact Hush.putA _ _ _ _ _
  · rw [doA_2 M a e]; exact Hush.delA _ _ _ _
  · rw [doA_3 M a e]; exact Hush.refl _ _
  · rw [doA_4 M a e]; exact Hush.backA h _ _
  · rw [doA_6 M a e]; exact Hush.abortA h _
  · rw [doA_7 M a e]; exact Hush.refl _ _
  · rw [doA_8 M a e]; exact Hush.refl _ _
  · rw [doA_9 M a e]; exact Hush.refl _ _
def asTxn (x : Int) (a : ActM) : ActM := if kindB a.op = 5 ∨ kindB a.op = 10 then { a with txn := x, op := 1 } else { a with txn := x }
theorem asTxn_kind (x : Int) (a : ActM) : (asTxn x a).txn = x ∧ kindB (asTxn x a).op ≠ 5 ∧ kindB (asTxn x a).op ≠ 10 := by
  unfold asTxn
  split
  · exact ⟨rfl, show kindB 1 ≠ 5 by decide, show kindB 1 ≠ 10 by decide⟩
  · rename_i e
    exact ⟨rfl, fun h => e (.inl h), fun h => e (.inr h)⟩
theorem Hush.runs (x : Int) (l : List ActM) : ∀ {n : Nat} {M : St}, Inv n M → Hush x M (Ju.runs M (l.map (asTxn x))) := by
  induction l with
  | nil => intro n M h; exact Hush.refl _ _
  | cons a l ih =>
    intro n M h
    obtain ⟨h1, h2, h3⟩ := asTxn_kind x a
    exact (Hush.doA h _ h1 h2 h3).trans (ih (h.doA _))
theorem viewA_congr {M M' : St} {y y' from' from2 : Int} {cnt : Nat} {l : List ActM} (h : ∀ (i : Nat) (k : Key), i < cnt → M'.atA k (from2 + i) y' = M.atA k (from' + i) y) : viewA M' y' from2 cnt l = viewA M y from' cnt l := by
  unfold viewA
  have : ∀ L : List Nat, (∀ i ∈ L, i < cnt) → L.flatMap (fun (i : Nat) => viewRow M' y' (from2 + (i : Int)) (l.take 6)) = L.flatMap (fun (i : Nat) => viewRow M y (from' + (i : Int)) (l.take 6)) := fun L => by
    induction L with
    | nil => intro _; rfl
    | cons i L ih =>
      intro hL
      rw [List.flatMap_cons, List.flatMap_cons, ih (fun j hj => hL j (by simp [hj]))]
      congr 1
      unfold viewRow
      apply List.map_congr_left
      intro a _
      unfold atRep
      rw [h i a.key (hL i (by simp))]
  exact this _ (fun i hi => List.mem_range.1 hi)
theorem apart_law {n : Nat} {M : St} (h : Inv n M) (x : Int) (more : List ActM) {y : Int} (hy : y ≠ x) (from' : Int) (cnt : Nat) (l : List ActM) :
    viewA (runs M (more.map (asTxn x))) y from' cnt l = viewA M y from' cnt l :=
  viewA_congr fun _ k _ => ((Hush.runs x more h).at h.core (Inv.runs _ h).core hy k _).symm

/-! ### undoing -/
def RowLike (o o' : Option RowS) : Prop := (o = none ∧ o' = none) ∨ ∃ r r', o = some r ∧ o' = some r' ∧ r'.old = r.old ∧ r'.lost = r.lost ∧ r'.opn = r.opn ∧ (r.opn.isSome = true → r'.txn = r.txn)
theorem RowLike.refl (o : Option RowS) : RowLike o o := by
  cases o with
  | none => exact .inl ⟨rfl, rfl⟩
  | some r => exact .inr ⟨r, r, rfl, rfl, rfl, rfl, rfl, fun _ => rfl⟩
theorem RowLike.symm {o o' : Option RowS} (h : RowLike o o') : RowLike o' o := by
  rcases h with ⟨h1, h2⟩ | ⟨r, r', h1, h2, h3, h4, h5, h6⟩
  · exact .inl ⟨h2, h1⟩
  · exact .inr ⟨r', r, h2, h1, h3.symm, h4.symm, h5.symm, fun h => (h6 (by rw [← h5]; exact h)).symm⟩
theorem RowLike.trans {o o' o'' : Option RowS} (h : RowLike o o') (h' : RowLike o' o'') : RowLike o o'' := by
  rcases h with ⟨rfl, rfl⟩ | ⟨r, r', rfl, rfl, h3, h4, h5, h6⟩
  · exact h'
  · rcases h' with ⟨h1, _⟩ | ⟨s, s', h1, rfl, g3, g4, g5, g6⟩
    · cases h1
    · cases h1
      exact .inr ⟨r, s', rfl, rfl, g3.trans h3, g4.trans h4, g5.trans h5, fun h => (g6 (by rw [h5]; exact h)).trans (h6 h)⟩
structure Like (M M' : St) : Prop where
  time : M'.time = M.time
  dr : ∀ k, M'.dr k = M.dr k
  rows : ∀ k id, RowLike (M.row k id) (M'.row k id)
theorem Like.refl (M : St) : Like M M := ⟨rfl, fun _ => rfl, fun _ _ => RowLike.refl _⟩
theorem Like.symm {M M' : St} (h : Like M M') : Like M' M := ⟨h.time.symm, fun k => (h.dr k).symm, fun k id => (h.rows k id).symm⟩
theorem Like.trans {M M' M'' : St} (h : Like M M') (h' : Like M' M'') : Like M M'' := ⟨h'.time.trans h.time, fun k => (h'.dr k).trans (h.dr k), fun k id => (h.rows k id).trans (h'.rows k id)⟩
theorem undo1_dr (M : St) (c : Chg) (k : Key) : (M.undo1 c).dr k = M.dr k := by unfold St.dr; rw [(undo1_log M c).2.2]
theorem Like.undo1 {x : Int} {M M' : St} (h : Like M M') {c : Chg} (ho : c.drops = M'.dr c.key → openBy M' x c.key c.id) : Like (M.undo1 c) (M'.undo1 c) := by
  refine ⟨by rw [(undo1_log M c).2.1, (undo1_log M' c).2.1]; exact h.time, fun k => by rw [undo1_dr, undo1_dr]; exact h.dr k, fun k id => ?_⟩
  by_cases hd' : c.drops = M'.dr c.key
  · have hd : c.drops = M.dr c.key := hd'.trans (h.dr _)
    obtain ⟨r', hr', hop, htx⟩ := ho hd'
    rcases h.rows c.key c.id with ⟨_, h2⟩ | ⟨r, r2, h1, h2, h3, h4, h5, h6⟩
    · rw [h2] at hr'; cases hr'
    · have h2' := h2
      rw [hr'] at h2
      cases h2
      rw [undo1_row hd h1, undo1_row hd' hr']
      split
      · rw [h3]
        split
        · exact RowLike.refl _
        · exact .inr ⟨_, _, rfl, rfl, rfl, h4, rfl, fun _ => h6 (by rw [← h5]; exact hop)⟩
      · exact h.rows k id
  · rw [undo1_dead hd', undo1_dead (fun e => hd' (e.trans (h.dr _).symm))]
    exact h.rows k id
theorem Like.relog {M M' : St} (h : Like M M') (L : List (Int × List Chg)) : Like M { M' with log := L } := ⟨h.time, h.dr, h.rows⟩
theorem Like.undos {n : Nat} {x : Int} (d : List Chg) : ∀ {A B : St} {l : List Chg}, Like A B → Inv n B → B.lg x = l ++ d → Like (d.reverse.foldl St.undo1 A) (d.reverse.foldl St.undo1 B) := by
  induction d using snoc_ind with
  | h0 => intro A B l h _ _; exact h
  | h1 d c ih =>
    intro A B l h hB hl
    rw [← List.append_assoc] at hl
    have hcm : c ∈ B.lg x := by rw [hl]; simp
    have h1 : Like (A.undo1 c) (B.step x (l ++ d) c) := (h.undo1 (x := x) (fun hd => (hB.core.chain x).row hcm hd)).relog _
    have h2 := ih h1 (hB.step hl) (show (B.step x (l ++ d) c).lg x = l ++ d by rw [step_lg, if_pos rfl])
    rw [List.reverse_append, List.reverse_cons, List.reverse_nil, List.nil_append, List.singleton_append, List.foldl_cons, List.foldl_cons]
    unfold St.step at h2
    have h3 := undos_relog d.reverse (B.undo1 c) (aput B.log x (l ++ d))
    rw [h3] at h2
    exact ⟨h2.time, h2.dr, h2.rows⟩
theorem like_at {y : Int} {time : Int} {o o' : Option RowS} (h : RowLike o o') : visO time y o = visO time y o' ∧ (toldO time y o ↔ toldO time y o') := by
  rcases h with ⟨rfl, rfl⟩ | ⟨r, r', rfl, rfl, h3, h4, h5, h6⟩
  · exact ⟨rfl, Iff.rfl⟩
  · have e : r'.at time y = r.at time y := by
      have hm : r'.mine y = r.mine y := by
        unfold RowS.mine
        rw [h5]
        cases ho : r.opn.isSome with
        | false => rfl
        | true => rw [h6 ho]
      unfold RowS.at RowS.seenOld
      rw [hm, h3, h4, h5]
    refine ⟨?_, ?_⟩
    · show visR time y r = visR time y r'
      unfold visR
      rw [e]
    · constructor
      · rintro h r2 ⟨⟩; rw [e]; exact h r rfl
      · rintro h r2 ⟨⟩; rw [← e]; exact h r' rfl
theorem Like.at {n n' : Nat} {M M' : St} (h : Like M M') (hM : InvC n M) (hM' : InvC n' M') (k : Key) (time y : Int) : M'.atA k time y = M.atA k time y := by
  refine (at_congr hM hM' ?_ (fun id => ?_) ?_).symm
  · unfold St.look; rw [h.time]
  · rw [vis_O, vis_O]; exact (like_at (h.rows k id)).1
  · rw [told_O, told_O]
    exact ⟨fun h1 id => (like_at (h.rows k id)).2.1 (h1 id), fun h1 id => (like_at (h.rows k id)).2.2 (h1 id)⟩
/-- From M0 on only x has made changes, and they can be undone. -/
def Und (x : Int) (M0 M1 : St) : Prop := ∃ d, M1.lg x = M0.lg x ++ d ∧ Like M0 (d.reverse.foldl St.undo1 M1)
theorem Und.refl (x : Int) (M : St) : Und x M M := ⟨[], by simp, Like.refl _⟩
theorem Und.step {n : Nat} {x : Int} {M0 M1 M2 : St} (h : Und x M0 M1) (h1 : Inv n M1) {c : Chg} (hl : M2.lg x = M1.lg x ++ [c]) (hu : Like M1 (M2.undo1 c)) : Und x M0 M2 := by
  obtain ⟨d, hd, hk⟩ := h
  refine ⟨d ++ [c], by rw [hl, hd, List.append_assoc], ?_⟩
  rw [List.reverse_append, List.reverse_cons, List.reverse_nil, List.nil_append, List.singleton_append, List.foldl_cons]
  exact hk.trans (Like.undos d hu.symm h1 hd).symm
theorem unset {M : St} {k : Key} {x id : Int} {v : Ver} {r : RowS} (hr : M.row k id = some r) (hx : r.opn.isSome = true → r.txn = x) (hf : r.old ≠ [] ∨ r.opn.isSome = true) : Like M ((M.set k x id v).undo1 ⟨k, M.dr k, id, r.opn⟩) := by
  have hs := set_row (x := x) (v := v) hr k id
  rw [if_pos ⟨rfl, rfl⟩] at hs
  have hd : (⟨k, M.dr k, id, r.opn⟩ : Chg).drops = (M.set k x id v).dr (⟨k, M.dr k, id, r.opn⟩ : Chg).key := (set_dr hr k).symm
  refine ⟨by rw [(undo1_log _ _).2.1, set_time], fun k' => by rw [undo1_dr, set_dr hr], fun k' id' => ?_⟩
  rw [undo1_row hd hs]
  dsimp only
  split
  · rename_i e
    rw [e.1, e.2, hr]
    rw [if_neg (fun h => by
      simp only [Bool.and_eq_true, List.isEmpty_iff, Option.isNone_iff_eq_none] at h
      rcases hf with hf | hf
      · exact hf h.2
      · rw [h.1] at hf; cases hf)]
    exact .inr ⟨_, _, rfl, rfl, rfl, rfl, rfl, fun h => (hx h).symm⟩
  · rename_i e
    rw [set_row hr, if_neg e]
    exact RowLike.refl _
theorem Und.change {n : Nat} {x : Int} {M0 M1 : St} (h : Und x M0 M1) (h1 : Inv n M1) (k : Key) (id : Int) (v : Ver) : Und x M0 (M1.change k x id v).1 := by
  unfold St.change
  cases hr : M1.row k id with
  | none => exact h
  | some r =>
    dsimp only
    split
    · exact h
    · rename_i e
      have ho : r.opn.isSome = true → r.txn = x := fun ho => by rw [ho] at e; simpa using e
      split
      · exact h.step h1 (by rw [set_lg hr, if_pos rfl]) (unset hr ho (h1.full _ _ _ hr))
      · exact h
theorem unadd {n : Nat} {M : St} (h : InvC n M) {k : Key} {x : Int} {l : List Val} (hnx : (M.grow k).2 ≠ 1099511627776) : Like M (((M.grow k).1.set k x (M.grow k).2 ⟨0, false, l⟩).undo1 ⟨k, (M.grow k).1.dr k, (M.grow k).2, none⟩) := by
  obtain ⟨_, g2, g3⟩ := h.grow hnx
  generalize hG : (M.grow k).1 = G at *
  generalize hI : (M.grow k).2 = I at *
  have hGd : ∀ k', G.dr k' = M.dr k' := fun k' => by rw [← hG]; rfl
  have hGt : G.time = M.time := by rw [← hG]; rfl
  have hs := set_row (x := x) (v := ⟨0, false, l⟩) g2 k I
  rw [if_pos ⟨rfl, rfl⟩] at hs
  have hd : (⟨k, G.dr k, I, none⟩ : Chg).drops = (G.set k x I ⟨0, false, l⟩).dr (⟨k, G.dr k, I, none⟩ : Chg).key := (set_dr g2 k).symm
  refine ⟨by rw [(undo1_log _ _).2.1, set_time, hGt], fun k' => by rw [undo1_dr, set_dr g2, hGd], fun k' id' => ?_⟩
  rw [undo1_row hd hs]
  dsimp only
  split
  · rename_i e
    have := grow_new h k
    rw [hI] at this
    rw [e.1, e.2, this]
    exact .inl ⟨rfl, rfl⟩
  · rename_i e
    rw [set_row g2, if_neg e, g3 _ _ e]
    exact RowLike.refl _
theorem Und.addA {n : Nat} {x : Int} {M0 M1 : St} (h : Und x M0 M1) (h1 : Inv n M1) (k : Key) (l : List Val) : Und x M0 (M1.addA k x l).1 := by
  unfold St.addA
  split
  · rcases add_case M1 k x l with e | ⟨h2, _, e⟩
    · rw [e]; exact h
    · rw [e]
      obtain ⟨_, g2, _⟩ := h1.core.grow h2
      exact h.step h1 (c := ⟨k, (M1.grow k).1.dr k, (M1.grow k).2, none⟩) (by rw [set_lg g2, if_pos rfl]; rfl) (unadd h1.core h2)
  · exact h
def asMine (x : Int) (a : ActM) : ActM := if 3 ≤ kindB a.op then { a with txn := x, op := kindB a.op % 3 } else { a with txn := x }
theorem asMine_kind (x : Int) (a : ActM) : (asMine x a).txn = x ∧ (kindB (asMine x a).op = 0 ∨ kindB (asMine x a).op = 1 ∨ kindB (asMine x a).op = 2) := by
  obtain ⟨h1, h2⟩ := kindB_range a.op
  unfold asMine
  split
  · refine ⟨rfl, ?_⟩
    show kindB (kindB a.op % 3) = 0 ∨ kindB (kindB a.op % 3) = 1 ∨ kindB (kindB a.op % 3) = 2
    generalize kindB a.op = q at *
    unfold kindB
    omega
  · exact ⟨rfl, by show kindB a.op = 0 ∨ kindB a.op = 1 ∨ kindB a.op = 2; omega⟩
theorem Und.doA {n : Nat} {x : Int} {M0 M1 : St} (h : Und x M0 M1) (h1 : Inv n M1) (a : ActM) : Und x M0 (M1.doA (asMine x a)).1 := by
  obtain ⟨hx, e | e | e⟩ := asMine_kind x a
  · rw [doA_0 _ _ e, hx]; exact h.addA h1 _ _
  · rw [doA_1 _ _ e, hx]
    unfold St.putA
    split
    · exact h.change h1 _ _ _
    · exact h
  · rw [doA_2 _ _ e, hx]
    unfold St.delA
    split
    · exact h.change h1 _ _ _
    · exact h
theorem Und.runs {x : Int} {M0 : St} (l : List ActM) : ∀ {n : Nat} {M1 : St}, Und x M0 M1 → Inv n M1 → Und x M0 (Ju.runs M1 (l.map (asMine x))) := by
  induction l with
  | nil => intro n M1 h _; exact h
  | cons a l ih => intro n M1 h h1; exact ih (h.doA h1 a) (h1.doA _)
theorem undone_law {n : Nat} {M : St} (h : Inv n M) {x : Int} (hx : numB x = true) (more : List ActM) :
    ((runs M (more.map (asMine x))).backA x (M.lg x).length).2 = 0 ∧ ((runs M (more.map (asMine x))).backA x (M.lg x).length).1.mark x = M.mark x ∧
    ((runs M (more.map (asMine x))).backA x (M.lg x).length).1.time = M.time ∧ ∀ k t, ((runs M (more.map (asMine x))).backA x (M.lg x).length).1.atA k t x = M.atA k t x := by
  obtain ⟨d, hd, hk⟩ := Und.runs more (Und.refl x M) h
  have hI := Inv.runs (more.map (asMine x)) h
  generalize runs M (more.map (asMine x)) = M1 at *
  have hb : M1.backA x (M.lg x).length = (M1.back x (M.lg x).length, 0) := by
    unfold St.backA
    rw [hx, hd, List.length_append]
    simp only [Bool.not_true, Bool.false_eq_true, if_false, Int.toNat_natCast]
    rw [if_neg (by omega)]
  have hI2 : Inv (n + 2 * (more.map (asMine x)).length) (M1.back x (M.lg x).length) := hI.back x _
  have hL : Like M (M1.back x (M.lg x).length) := by
    unfold St.back
    dsimp only
    rw [hd, List.drop_left]
    exact ⟨hk.time, hk.dr, hk.rows⟩
  rw [hb]
  refine ⟨rfl, ?_, hL.time, fun k t => hL.at h.core hI2.core k t x⟩
  show (M1.back x (M.lg x).length).mark x = _
  unfold St.mark
  rw [lg_back, if_pos rfl, hd, List.take_left]
end Go.Ju

/- What is read of one row. -/
import Derived.Test.YthdnjokioboehaaGreatDoorFam
import Derived.Deep.QuietTactic
import Derived.BigQuiet
namespace Go.Ju
open Go.RowKit
open Go.Proofs

/-- A version, wherever it lies. -/
def VPtr (I : Gh) (w : World) (pv : Value) : Option Ver → Prop
  | none => pv = .pointer none
  | some v => ∃ b o rv, pv = .pointer (some ⟨b, o, none⟩) ∧ b < w.heap.size ∧ w.cell? ⟨b, o, none⟩ = some (.int .i64 v.time) ∧ w.cell? ⟨b, o + 1, none⟩ = some (.bool v.gone) ∧ w.cell? ⟨b, o + 2, none⟩ = some rv ∧ RowAt I rv v.row
theorem VPtr.drewN {I : Gh} {w : World} {pv : Value} {o : Option Ver} (h : VPtr I w pv o) (n : Nat) : VPtr I (w.drewN n) pv o := h
theorem VPtr.below {I : Gh} {w w' : World} {pv : Value} {o : Option Ver} (h : VPtr I w pv o) (hb : Below w.heap.size w w') : VPtr I w' pv o := by
  cases o with
  | none => exact h
  | some v =>
    obtain ⟨b, o, rv, h1, h2, h3, h4, h5, h6⟩ := h
    exact ⟨b, o, rv, h1, Nat.lt_of_lt_of_le h2 hb.size, (hb.cell (p := ⟨b, o, none⟩) h2).trans h3, (hb.cell (p := ⟨b, o + 1, none⟩) h2).trans h4, (hb.cell (p := ⟨b, o + 2, none⟩) h2).trans h5, h6⟩
theorem OpnAt.vptr {I : Gh} {w : World} {pv : Value} {o : Option Ver} (h : OpnAt I pv o) (hI : Holds I w) : VPtr I w pv o := by
  cases o with
  | none => exact h
  | some v =>
    obtain ⟨b, cs, h1, h2, rv, rfl, h4⟩ := h
    exact ⟨b, 0, rv, h1, hI.lt h2, hI.cell h2 rfl, hI.cell h2 rfl, hI.cell h2 rfl, h4⟩
theorem VersAt.form {G I : Gh} {sv : Value} {l : List Ver} (h : VersAt G I sv l) {w : World} (hG : Holds G w) :
    ∃ A c, sv = .slice A l.length c ∧ l.length ≤ c ∧ (l ≠ [] → ∃ b, A = some ⟨b, 0, none⟩) ∧ ∀ k v, l[k]? = some v → ∃ b, A = some ⟨b, 0, none⟩ ∧ VPtr I w (.pointer (some ⟨b, k * 3, none⟩)) (some v) := by
  obtain ⟨css, h1, h2⟩ := h
  obtain ⟨A, c, rfl, hc, hs⟩ := h2.form
  have hlen : ∀ x ∈ css, x.length = 3 := by
    clear h2 hs hc
    induction h1 with
    | nil => simp
    | cons h _ ih =>
      intro x hx
      rcases List.mem_cons.1 hx with rfl | hx
      · obtain ⟨rv, rfl, _⟩ := h; rfl
      · exact ih x hx
  have key : ∀ k v, l[k]? = some v → ∃ b, A = some ⟨b, 0, none⟩ ∧ VPtr I w (.pointer (some ⟨b, k * 3, none⟩)) (some v) := by
    intro k v hk
    obtain ⟨cs, hcs, rv, rfl, hrow⟩ := h1.get hk
    have g : ∀ j, j < 3 → css.flatten[k * 3 + j]? = ([.int .i64 v.time, .bool v.gone, rv] : List Value)[j]? := fun j hj => flatten_get hlen hcs hj
    rcases h2.2 with ⟨_, h0⟩ | ⟨b, cap, cur, hv, hb, _, _, _, htake⟩
    · have := (List.getElem?_eq_some_iff.1 hk).1; omega
    · injection hv with hA _ _
      have hb0 : b < w.heap.size := hG.lt hb
      have cel : ∀ j u, css.flatten[j]? = some u → w.cell? ⟨b, j, none⟩ = some u := fun j u hj => by
        refine hG.cell hb ?_
        rw [← htake, List.getElem?_take] at hj
        split at hj
        · simpa using hj
        · cases hj
      exact ⟨b, hA, b, k * 3, rv, rfl, hb0, cel _ _ (g 0 (by omega)), cel _ _ (g 1 (by omega)), cel _ _ (g 2 (by omega)), hrow⟩
  refine ⟨A, c, rfl, hc, fun hne => ?_, key⟩
  cases l with
  | nil => exact absurd rfl hne
  | cons x r =>
    obtain ⟨b, hb, _⟩ := key 0 x rfl
    exact ⟨b, hb⟩

theorem there_any (I : Gh) (w : World) (pv : Value) (o : Option Ver) (h : VPtr I w pv o) : Calls Tryz.prog 88 #[pv] w fun e w' => e = .returned (.bool (there o)) ∧ w = w' := by
  cases o with
  | none =>
    obtain rfl : pv = .pointer none := h
    go_enter Tryz.func88, Tryz.ntmps88
    go_wp2
    go_ret
    exact ⟨rfl, rfl⟩
  | some v =>
    obtain ⟨b, o, rv, rfl, _, _, hg, _, _⟩ := h
    go_enter Tryz.func88, Tryz.ntmps88
    go_wp2
    go_ret
    exact ⟨rfl, rfl⟩

/-- A quiet call: whatever has been drawn. -/
def Quiet (f : FuncId) (args : Array Value) (w : World) (v : Value) : Prop := ∀ n, Calls Tryz.prog f args (w.drewN n) fun e w' => e = .returned v ∧ ∃ m, w' = w.drewN (n + m)
theorem Quiet.at {f : FuncId} {args : Array Value} {w : World} {v : Value} (h : Quiet f args w v) : Calls Tryz.prog f args w fun e w' => e = .returned v ∧ ∃ m, w' = w.drewN m := (h 0).mono fun _ _ ⟨he, m, hm⟩ => ⟨he, 0 + m, hm⟩
theorem Quiet.drewN {f : FuncId} {args : Array Value} {w : World} {v : Value} (h : Quiet f args w v) (k : Nat) : Quiet f args (w.drewN k) v := fun n => by
  have := h (k + n)
  rw [World.drewN_drewN]
  refine this.mono ?_
  rintro e w' ⟨rfl, m, rfl⟩
  exact ⟨rfl, m, by rw [World.drewN_drewN, Nat.add_assoc]⟩

theorem last_any (G I : Gh) (w : World) (b : Nat) (r : RowS) (hG : Holds G w) (h : RowObj G I b r) (hl : r.old.length ≤ 1000) :
    ∃ pv, VPtr I w pv r.last ∧ Quiet 78 #[ptr b] w pv := by
  obtain ⟨sv, op, hb, hv, ho⟩ := h
  obtain ⟨A, c, rfl, hc, _, hk⟩ := hv.form hG
  have hcell : w.cell? ⟨b, 0, none⟩ = some (.slice A r.old.length c) := hG.cell hb rfl
  by_cases h0 : r.old = []
  · refine ⟨.pointer none, by simp [RowS.last, h0, VPtr], fun n => ?_⟩
    rw [h0] at hcell
    unfold ptr
    go_enter Tryz.func78, Tryz.ntmps78
    go_wp2
    go_ret
    exact ⟨rfl, 0, rfl⟩
  · obtain ⟨m, hm⟩ : ∃ m, r.old.length = m + 1 := ⟨r.old.length - 1, by have := List.length_pos_iff.2 h0; omega⟩
    have hlast : r.last = r.old[m]? := by unfold RowS.last; rw [List.getLast?_eq_getElem?, hm]; rfl
    obtain ⟨v, hvv⟩ : ∃ v, r.old[m]? = some v := ⟨r.old[m], List.getElem?_eq_getElem (by omega)⟩
    obtain ⟨g, rfl, hp⟩ := hk m v hvv
    refine ⟨_, by rw [hlast, hvv]; exact hp, fun n => ?_⟩
    rw [hm] at hcell hl
    have HM : Hid True := trivial
    clear hm hlast hvv hp hk hc hv ho h0
    unfold ptr
    go_enter Tryz.func78, Tryz.ntmps78
    go_wp2
    go_quiet (fail)
    go_wp2
    go_ret
    exact ⟨by simp, _, World.drewN_drewN _ _ _⟩
/-- The cells of a row's object. -/
theorem RowObj.cells {G I : Gh} {w : World} {b : Nat} {r : RowS} (hG : Holds G w) (hI : Holds I w) (h : RowObj G I b r) :
    ∃ sv op, VersAt G I sv r.old ∧ OpnAt I op r.opn ∧ VPtr I w op r.opn ∧ w.cell? ⟨b, 0, none⟩ = some sv ∧ w.cell? ⟨b, 1, none⟩ = some (.bool r.lost) ∧ w.cell? ⟨b, 2, none⟩ = some op ∧ w.cell? ⟨b, 3, none⟩ = some (.int .i64 r.txn) := by
  obtain ⟨sv, op, hb, hv, ho⟩ := h
  exact ⟨sv, op, hv, ho, ho.vptr hI, hG.cell hb rfl, hG.cell hb rfl, hG.cell hb rfl, hG.cell hb rfl⟩

theorem now_any (G I : Gh) (w : World) (b : Nat) (r : RowS) (txn : Int) (hG : Holds G w) (hI : Holds I w) (h : RowObj G I b r) (hl : r.old.length ≤ 1000) :
    ∃ pv, VPtr I w pv (r.now txn) ∧ Quiet 106 #[ptr b, .int .i64 txn] w pv := by
  obtain ⟨sv, op, _, _, hvp, c0, c1, c2, c3⟩ := h.cells hG hI
  obtain ⟨pl, hpl, hq⟩ := last_any G I w b r hG h hl
  cases ho : r.opn with
  | none =>
    refine ⟨pl, by simpa [RowS.now, RowS.mine, ho] using hpl, fun n => ?_⟩
    rw [ho] at hvp
    obtain rfl : op = .pointer none := hvp
    have HQ := Lib.hid hq
    clear hq hpl h hG hI ho
    unfold ptr at *
    go_enter Tryz.func106, Tryz.ntmps106
    go_wp2_with (go_at_call 78; refine (HQ.out _).mono ?_; rintro e w2 ⟨rfl, m, rfl⟩)
    go_ret
    exact ⟨rfl, _, rfl⟩
  | some v =>
    rw [ho] at hvp
    have hvp' := hvp
    obtain ⟨vb, vo, rv, rfl, _⟩ := hvp
    by_cases ht : r.txn = txn
    · refine ⟨_, by simpa [RowS.now, RowS.mine, ho, ht] using hvp', fun n => ?_⟩
      subst ht
      clear hq hpl h hG hI ho hvp'
      unfold ptr at *
      go_enter Tryz.func106, Tryz.ntmps106
      go_wp2
      go_ret
      exact ⟨rfl, 0, rfl⟩
    · refine ⟨pl, by simpa [RowS.now, RowS.mine, ho, ht] using hpl, fun n => ?_⟩
      have htb : (r.txn == txn) = false := by simpa using ht
      have HQ := Lib.hid hq
      clear hq hpl h hG hI ho hvp' ht
      unfold ptr at *
      go_enter Tryz.func106, Tryz.ntmps106
      go_wp2_with (go_at_call 78; refine (HQ.out _).mono ?_; rintro e w2 ⟨rfl, m, rfl⟩)
      go_ret
      exact ⟨rfl, _, rfl⟩

theorem seenOld_step {l : List Ver} {k : Nat} {v : Ver} {t : Int} (hv : l[k]? = some v) : ((l.take (k + 1)).reverse.find? fun v => decide (v.time ≤ t)) = if v.time ≤ t then some v else (l.take k).reverse.find? fun v => decide (v.time ≤ t) := by
  rw [List.take_add_one, hv]
  simp only [Option.toList_some, List.reverse_append, List.reverse_cons, List.reverse_nil, List.nil_append, List.cons_append, List.find?_cons]
  split
  · rename_i h; rw [if_pos (by simpa using h)]
  · rename_i h; rw [if_neg (by simpa using h)]

/-- What 'at' hands back. -/
def AtGives (I : Gh) (w : World) (x : Option Ver × Bool) (v : Value) : Prop := ∃ pv, v = .tuple #[pv, .bool x.2] ∧ VPtr I w pv x.1

/-- The guard of 'at' fails: no open version, or another's. -/
def Others (w : World) (b : Nat) (txn : Int) (op : Value) : Prop := w.cell? ⟨b, 2, none⟩ = some op ∧ (op = .pointer none ∨ ∃ vb vo x, op = .pointer (some ⟨vb, vo, none⟩) ∧ w.cell? ⟨b, 3, none⟩ = some (.int .i64 x) ∧ (x == txn) = false)

theorem at_found (w : World) (b g N c j : Nat) (T : Nat → Int) (op : Value) (time txn : Int) (hN : N ≤ 1000) (c0 : w.cell? ⟨b, 0, none⟩ = some (.slice (some ⟨g, 0, none⟩) (N + 1) c)) (ho : Others w b txn op)
    (hc : ∀ q, q ≤ N → w.cell? ⟨g, q * 3, none⟩ = some (.int .i64 (T q))) (hj : j ≤ N) (hT : T j ≤ time) (hgt : ∀ q, j < q → q ≤ N → time < T q) :
    Quiet 87 #[ptr b, .int .i64 time, .int .i64 txn] w (.tuple #[.pointer (some ⟨g, j * 3, none⟩), .bool true]) := by
  intro n
  obtain ⟨c2, hop⟩ := ho
  have HC := Lib.hid hc
  have HG := Lib.hid hgt
  clear hc hgt
  rcases hop with rfl | ⟨vb, vo, x, rfl, c3, hx⟩
  all_goals
    unfold ptr
    go_enter Tryz.func87, Tryz.ntmps87
    go_wp2
    go_loop [8] (fun i => ∃ q : Nat, j ≤ q ∧ q ≤ N ∧ i = .int .i64 q) (fun i => (intOf i).toNat)
    case atStart => exact ⟨N, hj, Nat.le_refl _, by simp⟩
    case round =>
      obtain ⟨q, hq1, hq2, rfl⟩ := hrel
      have hcell := HC.out q hq2
      by_cases hqj : q = j
      · subst hqj
        go_wp2
        go_ret2
        exact ⟨rfl, 0, rfl⟩
      · have hlt := HG.out q (by omega) hq2
        have hq3 : j + 1 ≤ q := by omega
        clear hqj
        go_wp2
        go_round
        case rel => exact ⟨q - 1, by omega, by omega, by go_num⟩
        case measure => simp [intOf]; omega

theorem at_none (w : World) (b N c : Nat) (A : Option Addr) (T : Nat → Int) (op : Value) (lost : Bool) (time txn : Int) (hN : N ≤ 1000) (c0 : w.cell? ⟨b, 0, none⟩ = some (.slice A N c)) (c1 : w.cell? ⟨b, 1, none⟩ = some (.bool lost)) (ho : Others w b txn op)
    (hc : ∀ q, q < N → ∃ g, A = some ⟨g, 0, none⟩ ∧ w.cell? ⟨g, q * 3, none⟩ = some (.int .i64 (T q))) (hgt : ∀ q, q < N → time < T q) :
    Quiet 87 #[ptr b, .int .i64 time, .int .i64 txn] w (.tuple #[.pointer none, .bool !lost]) := by
  intro n
  obtain ⟨c2, hop⟩ := ho
  have HC := Lib.hid hc
  have HG := Lib.hid hgt
  clear hc hgt
  rcases hop with rfl | ⟨vb, vo, x, rfl, c3, hx⟩
  all_goals
    unfold ptr
    go_enter Tryz.func87, Tryz.ntmps87
    go_wp2
    go_loop [8] (fun i => (∃ q : Nat, q < N ∧ i = .int .i64 q) ∨ i = .int .i64 (-1)) (fun i => (intOf i + 1).toNat)
    case atStart =>
      cases N with
      | zero => exact .inr (by simp)
      | succ N => exact .inl ⟨N, by omega, by simp⟩
    case round =>
      rcases hrel with ⟨q, hq, rfl⟩ | rfl
      · obtain ⟨g, rfl, hcell⟩ := HC.out q hq
        have hlt := HG.out q hq
        go_wp2
        go_round
        case rel =>
          by_cases h0 : q = 0
          · subst h0; exact .inr (by simp)
          · exact .inl ⟨q - 1, by omega, by go_num⟩
        case measure => simp [intOf]
      · go_wp2
        go_quiet (fail)
        go_wp2
        go_ret2
        exact ⟨rfl, _, World.drewN_drewN _ _ _⟩
theorem at_mine (w : World) (b : Nat) (vb vo : Nat) (time txn : Int) (c2 : w.cell? ⟨b, 2, none⟩ = some (.pointer (some ⟨vb, vo, none⟩))) (c3 : w.cell? ⟨b, 3, none⟩ = some (.int .i64 txn)) :
    Quiet 87 #[ptr b, .int .i64 time, .int .i64 txn] w (.tuple #[.pointer (some ⟨vb, vo, none⟩), .bool true]) := by
  intro n
  unfold ptr
  go_enter Tryz.func87, Tryz.ntmps87
  go_wp2
  go_ret2
  exact ⟨rfl, 0, rfl⟩

theorem seenOld_cases (r : RowS) (time : Int) : (∃ j u, r.old[j]? = some u ∧ u.time ≤ time ∧ r.seenOld time = some u ∧ ∀ (q : Nat) (x : Ver), j < q → r.old[q]? = some x → time < x.time) ∨ (r.seenOld time = none ∧ ∀ (q : Nat) (x : Ver), r.old[q]? = some x → time < x.time) := by
  have gen : ∀ k, k ≤ r.old.length → (∀ (q : Nat) (x : Ver), k ≤ q → r.old[q]? = some x → time < x.time) → ((r.old.take k).reverse.find? fun v => decide (v.time ≤ time)) = r.seenOld time →
      (∃ j u, r.old[j]? = some u ∧ u.time ≤ time ∧ r.seenOld time = some u ∧ ∀ (q : Nat) (x : Ver), j < q → r.old[q]? = some x → time < x.time) ∨ (r.seenOld time = none ∧ ∀ (q : Nat) (x : Ver), r.old[q]? = some x → time < x.time) := by
    intro k
    induction k with
    | zero =>
      intro _ hgt hs
      simp at hs
      exact .inr ⟨hs.symm, fun q x hx => hgt q x (Nat.zero_le _) hx⟩
    | succ k ih =>
      intro hkl hgt hs
      obtain ⟨u, hu⟩ : ∃ u, r.old[k]? = some u := ⟨r.old[k], List.getElem?_eq_getElem (by omega)⟩
      rw [seenOld_step hu] at hs
      by_cases hle : u.time ≤ time
      · rw [if_pos hle] at hs
        exact .inl ⟨k, u, hu, hle, hs.symm, fun q x hq hx => hgt q x hq hx⟩
      · rw [if_neg hle] at hs
        exact ih (by omega) (fun q x hq hx => by
          by_cases e : q = k
          · subst e; rw [hu] at hx; cases hx; omega
          · exact hgt q x (by omega) hx) hs
  exact gen r.old.length (Nat.le_refl _) (fun q x hq hx => by have := (List.getElem?_eq_some_iff.1 hx).1; omega) (by rw [List.take_length]; rfl)

theorem atV_any (G I : Gh) (w : World) (b : Nat) (r : RowS) (time txn : Int) (hG : Holds G w) (hI : Holds I w) (h : RowObj G I b r) (hl : r.old.length ≤ 1000) :
    ∃ v, AtGives I w (r.at time txn) v ∧ Quiet 87 #[ptr b, .int .i64 time, .int .i64 txn] w v := by
  obtain ⟨sv, op, hva, _, hvp, c0, c1, c2, c3⟩ := h.cells hG hI
  obtain ⟨A, c, rfl, hc, hne, hk⟩ := hva.form hG
  by_cases hm : r.mine txn = true
  · unfold RowS.mine at hm
    simp only [Bool.and_eq_true, decide_eq_true_eq] at hm
    obtain ⟨h1, h2⟩ := hm
    obtain ⟨v, hv⟩ := Option.isSome_iff_exists.1 h1
    have hvp' := hvp
    rw [hv] at hvp
    obtain ⟨vb, vo, rv, rfl, _⟩ := hvp
    refine ⟨_, ⟨.pointer (some ⟨vb, vo, none⟩), ?_, ?_⟩, at_mine w b vb vo time txn c2 (by rw [c3, h2])⟩
    · simp [RowS.at, RowS.mine, h1, h2]
    · simpa [RowS.at, RowS.mine, h1, h2] using hvp'
  · have hm' : r.mine txn = false := by simpa using hm
    have hoth : Others w b txn op := by
      refine ⟨c2, ?_⟩
      cases ho : r.opn with
      | none => rw [ho] at hvp; exact .inl hvp
      | some v =>
        rw [ho] at hvp
        obtain ⟨vb, vo, rv, rfl, _⟩ := hvp
        refine .inr ⟨vb, vo, r.txn, rfl, c3, ?_⟩
        simpa [RowS.mine, ho] using hm'
    have T : ∀ q v, r.old[q]? = some v → ∃ g, A = some ⟨g, 0, none⟩ ∧ w.cell? ⟨g, q * 3, none⟩ = some (.int .i64 v.time) := fun q v hq => by
      obtain ⟨g, hA, b', o', rv, he, _, h3, _⟩ := hk q v hq
      injection he with he
      injection he with he
      injection he with e1 e2
      subst e1; subst e2
      exact ⟨g, hA, h3⟩
    rcases seenOld_cases r time with ⟨j, u, hj, hle, hs, hgt⟩ | ⟨hs, hgt⟩
    · obtain ⟨g, rfl, hp⟩ := hk j u hj
      have hjl := (List.getElem?_eq_some_iff.1 hj).1
      refine ⟨_, ⟨.pointer (some ⟨g, j * 3, none⟩), ?_, ?_⟩, at_found w b g (r.old.length - 1) c j (fun q => ((r.old[q]?).getD default).time) op time txn (by omega) (by rw [c0]; congr 2; omega) hoth (fun q hq => ?_) (by omega) (by simpa [hj] using hle) (fun q h1 h2 => ?_)⟩
      · simp [RowS.at, hm', hs]
      · simp [RowS.at, hm', hs]; exact hp
      · obtain ⟨x, hx⟩ : ∃ x, r.old[q]? = some x := ⟨r.old[q], List.getElem?_eq_getElem (by omega)⟩
        obtain ⟨g', hg', hc'⟩ := T q x hx
        cases hg'
        rw [hc', hx]; rfl
      · obtain ⟨x, hx⟩ : ∃ x, r.old[q]? = some x := ⟨r.old[q], List.getElem?_eq_getElem (by omega)⟩
        rw [hx]; exact hgt q x h1 hx
    · refine ⟨_, ⟨.pointer none, ?_, ?_⟩, at_none w b r.old.length c A (fun q => ((r.old[q]?).getD default).time) op r.lost time txn hl c0 c1 hoth (fun q hq => ?_) (fun q hq => ?_)⟩
      · simp [RowS.at, hm', hs]
      · simp [RowS.at, hm', hs, VPtr]
      · obtain ⟨x, hx⟩ : ∃ x, r.old[q]? = some x := ⟨r.old[q], List.getElem?_eq_getElem (by omega)⟩
        obtain ⟨g', hg', hc'⟩ := T q x hx
        exact ⟨g', hg', by rw [hc', hx]; rfl⟩
      · obtain ⟨x, hx⟩ : ∃ x, r.old[q]? = some x := ⟨r.old[q], List.getElem?_eq_getElem (by omega)⟩
        rw [hx]; exact hgt q x hx
end Go.Ju

/- Slices whose array the call owns ('Own'), and what append comes to. No program is named. -/
import Derived.Test.YthdnjokioboehaaGreatDoorBase
import Derived.Laws.AppendOwn
import Derived.OwnWalk
namespace Go.Ju
open Go.RowKit

/-- Slice value v has n elements of type e (size cells each), the cells xs, in an array of its own that begins at a block's head. -/
def Own (G : Gh) (e : TypeId) (size : Nat) (v : Value) (n : Nat) (xs : List Value) : Prop :=
  xs.length = n * size ∧ ((v = .slice none 0 0 ∧ n = 0) ∨
    ∃ g cap cur, v = .slice (some ⟨g, 0, none⟩) n cap ∧ G g = some (.cells cur e (0, 0)) ∧ n ≤ cap ∧ cap ≤ maxLen ∧ cur.size = cap * size ∧ cur.toList.take (n * size) = xs)

section
variable {G G' : Gh} {e size n : Nat} {v : Value} {xs : List Value}
theorem Own.nil (G : Gh) (e size : Nat) : Own G e size (.slice none 0 0) 0 [] := ⟨by simp, .inl ⟨rfl, rfl⟩⟩
theorem Own.keep (h : Own G e size v n xs) (hk : ∀ b o, v.ownBlock = some b → G b = some o → G' b = some o) : Own G' e size v n xs := by
  obtain ⟨h1, h2⟩ := h
  refine ⟨h1, ?_⟩
  rcases h2 with h2 | ⟨g, cap, cur, rfl, hg, r⟩
  · exact .inl h2
  · exact .inr ⟨g, cap, cur, rfl, hk g _ rfl hg, r⟩
theorem Own.row (h : Own G e size v n xs) {w : World} (hG : Holds G w) : w.ownsRow 0 e size v n xs := by
  obtain ⟨h1, h2⟩ := h
  refine ⟨h1, ?_⟩
  rcases h2 with ⟨rfl, rfl⟩ | ⟨g, cap, cur, rfl, hg, h3, h4, h5, h6⟩
  · exact .inl ⟨rfl, rfl⟩
  · exact .inr ⟨g, cap, cur, rfl, Nat.zero_le _, hG g _ hg, h3, h4, h5, h6⟩
theorem Own.form (h : Own G e size v n xs) : ∃ A c, v = .slice A n c ∧ n ≤ c ∧ Span G A xs := by
  obtain ⟨h1, h2⟩ := h
  rcases h2 with ⟨rfl, rfl⟩ | ⟨g, cap, cur, rfl, hg, h3, _, _, h6⟩
  · exact ⟨none, 0, rfl, Nat.le_refl _, .inl (List.eq_nil_of_length_eq_zero (by simpa using h1))⟩
  · refine ⟨_, cap, rfl, h3, .inr ⟨g, 0, cur, e, _, rfl, hg, fun j u hj => ?_⟩⟩
    rw [← h6, List.getElem?_take] at hj
    split at hj
    · simpa using hj
    · cases hj
theorem Own.span {A : Option Addr} {c : Nat} (h : Own G e size (.slice A n c) n xs) : Span G A xs := by
  obtain ⟨A', c', hv, _, hs⟩ := h.form
  cases hv
  exact hs
theorem Own.of_row {w : World} (hG : Holds G w) {base : Nat} (h : w.ownsRow base e size v n xs) (hb : ∀ g, v.ownBlock = some g → ∃ o, G g = some o) : Own G e size v n xs := by
  obtain ⟨h1, h2⟩ := h
  refine ⟨h1, ?_⟩
  rcases h2 with ⟨rfl, rfl⟩ | ⟨g, cap, cur, rfl, _, hh, h3, h4, h5, h6⟩
  · exact .inl ⟨rfl, rfl⟩
  · obtain ⟨o, ho⟩ := hb g rfl
    have := hG g o ho
    rw [hh] at this
    cases this
    exact .inr ⟨g, cap, cur, rfl, ho, h3, h4, h5, h6⟩
end

theorem add_mk (b o j : Nat) : (⟨b, o, none⟩ : Addr).add j = ⟨b, o + j, none⟩ := by
  unfold Addr.add
  split
  · simp [*]
  · rfl

section
variable {P : Program} {w : World} {G : Gh}

/-- What append comes to, in one word: a slice that owns its array; nothing known has turned but that array, which is the old one or new. -/
def Appended (G : Gh) (w : World) (e size : Nat) (v : Value) (n : Nat) (ys : List Value) (v' : Value) (G' : Gh) (w' : World) : Prop :=
  Ev G w G' w' ∧ Own G' e size v' n ys ∧ (∀ b, some b ≠ v.ownBlock → b ≠ w.heap.size → G' b = G b) ∧ (v'.ownBlock = v.ownBlock ∨ v'.ownBlock = some w.heap.size) ∧
    (v'.ownBlock = none → n = 0)

theorem setRow_ev (hG : Holds G w) {g : Nat} {cur cs : Array Value} {t : TypeId} {fr : Nat × Nat} (hg : G g = some (.cells cur t fr)) : Ev G w (G.put g (.cells cs t fr)) (w.setRow g cs) := by
  refine ⟨fun k o hk => ?_, rfl, rfl, rfl, by simp [World.setRow], fun k hk hn => setRow_other w g k cs (fun e => by rw [e, hg] at hn; cases hn), fun k hk => ?_⟩
  · by_cases e : k = g
    · subst e
      rw [Gh.put_same] at hk
      cases hk
      exact setRow_heap w k cur cs t fr (hG k _ hg)
    · rw [Gh.put_other _ _ e] at hk
      rw [setRow_other w g k cs e]
      exact hG k o hk
  · by_cases e : k = g
    · exact .inl (by rw [e, hg]; simp)
    · rw [Gh.put_other _ _ e] at hk
      exact .inl hk

/-- append(s, x...): s owns its array. -/
theorem run_append_ev (hG : Holds G w) (t ty e : TypeId) (i : TypeInfo) (z : Value) (size bytes : Nat) (ht : P.underlying t = some (.slice e)) (hi : P.info? e = some i) (hz : i.zero = some z)
    (hsize : i.size = size) (hby : i.bytes = bytes) (hzs : z.cells.size = size) (hsz : 0 < size)
    (v : Value) (n : Nat) (xs : List Value) (hown : Own G e size v n xs)
    (X : Option Addr) (m c : Nat) (news : List Value) (hl : news.length = m * size) (hnews : Span G X news) (hX : X = none → m = 0) (h1 : ∀ u ∈ news, u.oneCell' = true)
    (h63 : n + m ≤ maxLen) (hbytes : (n + m) * bytes ≤ 140737488355328) :
    ∃ v' G' w', (Builtin.append_ #[t, t] ty #[v, .slice X m c]).run P w = .ok v' w' ∧ Appended G w e size v (n + m) (xs ++ news) v' G' w' := by
  subst hsize
  subst hby
  have hsmall : n + m ≤ 9223372036854775807 := by simp only [maxLen] at h63; omega
  have hlen : (xs ++ news).length = (n + m) * i.size := by rw [List.length_append, hown.1, hl, Nat.add_mul]
  have grown : ∀ (old : Nat),
      Appended G w e i.size v (n + m) (xs ++ news) (.slice (some ⟨w.heap.size, 0, none⟩) (n + m) (grownCap w (n + m) old e))
        (G.put w.heap.size (.cells (xs.toArray ++ news.toArray ++ Builtin.zeroCells z.cells (grownCap w (n + m) old e - (n + m))) e))
        (w.drew.alloc (.cells (xs.toArray ++ news.toArray ++ Builtin.zeroCells z.cells (grownCap w (n + m) old e - (n + m))) e)) := by
    intro old
    have hge := grownCap_ge w (n + m) old e
    have hcm : grownCap w (n + m) old e ≤ maxLen := grownCap_le_maxLen w (n + m) old e h63
    refine ⟨((Ev.refl hG).drew).alloc _, ⟨hlen, .inr ⟨w.heap.size, _, _, rfl, Gh.put_same _ _ _, hge, hcm, ?_, ?_⟩⟩, fun b _ hb => Gh.put_other _ _ hb, .inr rfl, by simp [Value.ownBlock]⟩
    · simp only [Array.size_append, List.size_toArray, size_zeroCells, hzs, hown.1, hl, ← Nat.add_mul]
      congr 1
      omega
    · simp only [Array.toList_append, List.append_assoc]
      rw [← List.append_assoc, ← hlen]
      exact List.take_left
  have same : news = [] → m = 0 → Appended G w e i.size v (n + m) (xs ++ news) v G w := by
    rintro rfl rfl
    refine ⟨Ev.refl hG, by simpa using hown, fun _ _ _ => rfl, .inl rfl, fun hv => ?_⟩
    rcases hown.2 with ⟨_, h0⟩ | ⟨g, cap, cur, rfl, _⟩
    · simpa using h0
    · simp [Value.ownBlock] at hv
  cases X with
  | none =>
    obtain rfl := hX rfl
    have hn : news = [] := List.eq_nil_of_length_eq_zero (by simpa using hl)
    refine ⟨v, G, w, ?_, same hn rfl⟩
    rcases hown.2 with ⟨rfl, rfl⟩ | ⟨g, cap, cur, rfl, _, hnc, _⟩
    · simp [Builtin.append_, run_underlying ht, sizeOf, typeInfo, hi, Builtin.lenOf, Builtin.firstCells]
    · simp [Builtin.append_, run_underlying ht, sizeOf, typeInfo, hi, Builtin.lenOf, Builtin.firstCells, hnc, storeCells]
  | some a =>
    have hnews' : ∀ j u, news[j]? = some u → w.cell? (a.add j) = some u := by
      rcases hnews with rfl | ⟨b, o, cs, t', fr, ha, hb, hc⟩
      · intro j u hu; simp at hu
      · cases ha
        intro j u hu
        rw [add_mk]
        exact hG.cell hb (hc j u hu)
    rcases hown.2 with ⟨rfl, rfl⟩ | ⟨g, cap, cur, rfl, hg, hnc, hcm, hcs, htake⟩
    · have hx : xs = [] := List.eq_nil_of_length_eq_zero (by simpa using hown.1)
      subst hx
      by_cases hm : m = 0
      · have hn : news = [] := List.eq_nil_of_length_eq_zero (by subst hm; simpa using hl)
        refine ⟨.slice none 0 0, G, w, ?_, same hn hm⟩
        subst hm
        simp [Builtin.append_, run_underlying ht, sizeOf, typeInfo, hi, Builtin.lenOf, Builtin.firstCells, loadCells, loadCellsFrom]
      · have hr := run_append_nil (P := P) w t ty e i z ht hi hz a m c news hl hnews' (by omega) (by omega) (by have hb := hbytes; simp only [Nat.zero_add] at hb; omega)
        have hgr := grown 0
        simp only [Nat.zero_add, List.nil_append, Array.empty_append] at hgr ⊢
        exact ⟨_, _, _, hr, hgr⟩
    · by_cases hroom : n + m ≤ cap
      · have hfit : n * i.size + news.length ≤ cur.size := by rw [hl, hcs, ← Nat.add_mul]; exact Nat.mul_le_mul_right _ hroom
        have hr := run_append_room (P := P) w t ty e i ht hi g n cap cur (hG g _ hg) a m c news hl hnews' h1 hroom hfit
        refine ⟨_, _, _, hr, setRow_ev hG hg, ⟨hlen, .inr ⟨g, cap, _, rfl, Gh.put_same _ _ _, hroom, hcm, ?_, ?_⟩⟩, fun b hb _ => Gh.put_other _ _ (fun e => hb (by simp [Value.ownBlock, e])), .inl rfl, by simp [Value.ownBlock]⟩
        · simp only [List.size_toArray, List.length_append, List.length_take, List.length_drop, Array.length_toList]
          omega
        · rw [htake, ← hlen]
          exact List.take_left
      · have holds : ∀ j u, xs[j]? = some u → w.cell? ((⟨g, 0, none⟩ : Addr).add j) = some u := (hown.row hG).cells (g := g) rfl
        have hr := run_append_grow (P := P) w t ty e i z ht hi hz ⟨g, 0, none⟩ n cap xs hown.1 holds a m c news hl hnews' (by omega) (by omega) (growslice_fits (by omega) hbytes)
        exact ⟨_, _, _, hr, grown cap⟩

/-- append(s, x...): s is read from wherever it lies, and has no room: a new array. -/
theorem run_append_away (hG : Holds G w) (t ty e : TypeId) (i : TypeInfo) (z : Value) (size bytes : Nat) (ht : P.underlying t = some (.slice e)) (hi : P.info? e = some i) (hz : i.zero = some z)
    (hsize : i.size = size) (hby : i.bytes = bytes) (hzs : z.cells.size = size)
    (A : Addr) (n cap : Nat) (xs : List Value) (hlx : xs.length = n * size) (hxs : Span G (some A) xs)
    (X : Addr) (m c : Nat) (news : List Value) (hl : news.length = m * size) (hnews : Span G (some X) news) (hcap : cap < n + m)
    (h63 : n + m ≤ maxLen) (hbytes : (n + m) * bytes ≤ 140737488355328) :
    ∃ v' G' w', (Builtin.append_ #[t, t] ty #[.slice (some A) n cap, .slice (some X) m c]).run P w = .ok v' w' ∧ Ev G w G' w' ∧ Own G' e size v' (n + m) (xs ++ news) ∧ (∀ b, b ≠ w.heap.size → G' b = G b) ∧ v'.ownBlock = some w.heap.size := by
  subst hsize
  subst hby
  have hsmall : n + m ≤ 9223372036854775807 := by simp only [maxLen] at h63; omega
  have hlen : (xs ++ news).length = (n + m) * i.size := by rw [List.length_append, hlx, hl, Nat.add_mul]
  have rd : ∀ (a : Addr) (ys : List Value), Span G (some a) ys → ∀ j u, ys[j]? = some u → w.cell? (a.add j) = some u := by
    intro a ys hs j u hu
    rcases hs with rfl | ⟨b, o, cs, t', fr, ha, hb, hc⟩
    · simp at hu
    · cases ha
      rw [add_mk]
      exact hG.cell hb (hc j u hu)
  have hr := run_append_grow (P := P) w t ty e i z ht hi hz A n cap xs hlx (rd A xs hxs) X m c news hl (rd X news hnews) hcap (by omega) (growslice_fits hcap hbytes)
  have hge := grownCap_ge w (n + m) cap e
  have hcm : grownCap w (n + m) cap e ≤ maxLen := grownCap_le_maxLen w (n + m) cap e h63
  refine ⟨_, _, _, hr, ((Ev.refl hG).drew).alloc _, ⟨hlen, .inr ⟨w.heap.size, _, _, rfl, Gh.put_same _ _ _, hge, hcm, ?_, ?_⟩⟩, fun b hb => Gh.put_other _ _ hb, rfl⟩
  · simp only [Array.size_append, List.size_toArray, size_zeroCells, hzs, hlx, hl, ← Nat.add_mul]
    congr 1
    omega
  · simp only [Array.toList_append, List.append_assoc]
    rw [← List.append_assoc, ← hlen]
    exact List.take_left

/-- AT THE OPERATION. -/
theorem wpList_append_ev {ops : Array Oper} {rest : List Oper} {o : Oper} {a : Act} {Q : Exit → Act → World → Prop} (hgd : o.guard = none) (s x : Operand) (t : TypeId)
    (ho : o.op = .call { callee := .builtin .append, args := #[s, x], argTypes := #[t, t] }) (hG : Holds G w)
    (e : TypeId) (i : TypeInfo) (z : Value) (size bytes : Nat) (ht : P.underlying t = some (.slice e)) (hi : P.info? e = some i) (hz : i.zero = some z)
    (hsize : i.size = size) (hby : i.bytes = bytes) (hzs : z.cells.size = size) (hsz : 0 < size)
    (v : Value) (n : Nat) (xs : List Value) (hs : a.eval s = v) (hown : Own G e size v n xs)
    (X : Option Addr) (m c : Nat) (news : List Value) (hx : a.eval x = .slice X m c) (hl : news.length = m * size) (hnews : Span G X news) (hX : X = none → m = 0) (h1 : ∀ u ∈ news, u.oneCell' = true)
    (h63 : n + m ≤ maxLen) (hbytes : (n + m) * bytes ≤ 140737488355328)
    (h : ∀ v' G' w', Appended G w e size v (n + m) (xs ++ news) v' G' w' → wpList P ops Q rest (a.put o.dst v') w') : wpList P ops Q (o :: rest) a w := by
  refine wpList_plain hgd fun _ hK => ?_
  obtain ⟨v', G', w', hr, h2⟩ := run_append_ev (P := P) hG t o.type e i z size bytes ht hi hz hsize hby hzs hsz v n xs hown X m c news hl hnews hX h1 h63 hbytes
  unfold Oper.wp execOp
  simp only [ho, resolve, invoke, builtin, Sem.run_bind, Sem.run_pure, Result.andThen_ok, List.map_toArray, List.map_cons, List.map_nil, hs, hx, hr]
  exact hK _ _ (h v' G' w' h2)
end
end Go.Ju

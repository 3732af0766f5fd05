/- A slice of acts, opened. -/
import Derived.Test.YthdnjokioboehaaGreatDoorActs
import Derived.Test.YthdnjokioboehaaGreatDoorOpen
import Derived.Deep.Slices
import Derived.SizedLaws
set_option maxRecDepth 100000
namespace Go.Ju
open Go.ChangeShapes Go.WideShapes Go.ChangeAt Go.RowKit Go.Deep
open Go.Proofs
def oldG (W : World) : Gh := fun b => W.heap[b]?
theorem oldG_holds (W : World) : Holds (oldG W) W := fun _ _ h => h
theorem exists_list {α : Type} {P : Nat → α → Prop} : ∀ n, (∀ i, i < n → ∃ a, P i a) → ∃ l : List α, l.length = n ∧ ∀ i a, l[i]? = some a → P i a
  | 0, _ => ⟨[], rfl, fun i a h => by simp at h⟩
  | n + 1, h => by
    obtain ⟨l, h1, h2⟩ := exists_list n (fun i hi => h i (by omega))
    obtain ⟨a, ha⟩ := h n (by omega)
    refine ⟨l ++ [a], by simp [h1], fun i b hb => ?_⟩
    by_cases e : i < n
    · rw [List.getElem?_append_left (by omega)] at hb; exact h2 i b hb
    · rw [List.getElem?_append_right (by omega)] at hb
      have : i = n := by
        have := (List.getElem?_eq_some_iff.1 hb).1
        simp at this; omega
      subst this
      simp [h1] at hb
      subst hb
      exact ha
theorem flat_lenC {c : Nat} : ∀ {css : List (List Value)}, (∀ x ∈ css, x.length = c) → css.flatten.length = css.length * c
  | [], _ => by simp
  | y :: r, h => by
    rw [List.flatten_cons, List.length_append, h y (by simp), flat_lenC (css := r) (fun x hx => h x (by simp [hx])), List.length_cons, Nat.add_mul]
    omega
theorem span_of {W : World} {a : Addr} {c : Nat} (hc0 : 0 < c) {css : List (List Value)} (hc : ∀ x ∈ css, x.length = c)
    (h : ∀ i x, css[i]? = some x → ∀ j, j < c → W.cell? (a.add (i * c + j)) = x[j]?) : Span (oldG W) (some a) css.flatten := by
  cases css with
  | nil => exact .inl rfl
  | cons x0 rest =>
    obtain ⟨b, o, sp⟩ := a
    have hx0 := hc x0 (by simp)
    have h0 := h 0 x0 rfl 0 hc0
    rw [List.getElem?_eq_getElem (by omega)] at h0
    have hsp : sp = none := by simpa [Addr.add] using World.cell?_spot h0
    subst hsp
    have hb : ∃ cs t fr, W.heap[b]? = some (.cells cs t fr) := by
      rw [add_mk] at h0
      unfold World.cell? at h0
      dsimp only at h0
      cases hh : W.heap[b]? with
      | none => rw [hh] at h0; simp at h0
      | some ob =>
        rw [hh] at h0
        cases ob with
        | cells cs t fr => exact ⟨cs, t, fr, rfl⟩
        | _ => simp at h0
    obtain ⟨cs, t, fr, hb⟩ := hb
    refine .inr ⟨b, o, cs, t, fr, rfl, hb, fun j u hj => ?_⟩
    have hr : j % c < c := Nat.mod_lt _ hc0
    have hjd : j / c * c + j % c = j := by rw [Nat.mul_comm]; exact Nat.div_add_mod j c
    have hlt : j / c < (x0 :: rest).length := by
      have h5 := (List.getElem?_eq_some_iff.1 hj).1
      have h6 := flat_lenC hc
      rw [h6] at h5
      exact Nat.div_lt_of_lt_mul (by rw [Nat.mul_comm]; exact h5)
    have hx := List.getElem?_eq_getElem hlt
    have h7 := flatten_get hc hx hr
    rw [hjd, hj] at h7
    have h8 := h _ _ hx _ hr
    rw [hjd, add_mk, ← h7] at h8
    simpa [World.cell?, hb] using h8

section
variable {H : Type} {enc : TypeId × Value → H} {W : World}
/-- A row of values, opened. -/
theorem open_rowV {m : Nat} {rv : Value} {x : DataW H × List MemPlace} (h : DataW.trod enc Tryz.prog W 0 (fun _ => true) true m 41 [rv] = some x) (hw : ∀ q ∈ x.1.weights Tryz.prog 41, q ≤ reachBytes) :
    ∃ row, RowAt (oldG W) rv row ∧ row.length ≤ 140737488351232 := by
  have c82 : Tryz.prog.cellsOf 82 = 3 := by kernel_rfl
  have b82 : Tryz.prog.bytesOf 82 = 32 := by kernel_rfl
  have c80 : Tryz.prog.cellsOf 80 = 1 := by kernel_rfl
  have c3' : Tryz.prog.cellsOf 3 = 1 := by kernel_rfl
  have c9' : Tryz.prog.cellsOf 9 = 1 := by kernel_rfl
  rcases open_slice Tryz.underlying41 h with ⟨hc, hx⟩ | ⟨a, len, cap, m', n, D, Pl, hc, _, hl, hm, hmm, hx, hi⟩
  · simp only [List.cons.injEq, and_true] at hc
    subst hc
    exact ⟨[], ⟨none, 0, rfl, Nat.le_refl _, .inl rfl⟩, by simp⟩
  · simp only [List.cons.injEq, and_true] at hc
    subst hc
    simp only [if_true] at hmm
    subst hmm
    have hlen : len ≤ 140737488351232 := by
      subst hx
      have := hw ((((List.range len).map D).length + ((List.range (m' - len)).map fun j => D (len + j)).length) * Tryz.prog.bytesOf 82) (by simp [DataW.weights, Tryz.underlying41])
      rw [b82] at this
      simp only [List.length_map, List.length_range] at this
      unfold reachBytes at this
      omega
    obtain ⟨row, h1, h2⟩ := exists_list (P := fun i (v : Val) => ∀ j, j < 3 → W.cell? (a.add (i * 3 + j)) = v.cells[j]?) len (fun i hi' => by
      obtain ⟨cs', hcs, ht⟩ := hi i (by omega)
      rw [c82] at hcs
      obtain ⟨xs, n', _, _, hcl, hlen', hg⟩ := DataW.trod_struct Tryz.underlying82 ht
      obtain ⟨_, hl3, hcell⟩ := World.cells?_some hcs
      match cs', hl3 with
      | [k0, k1, k2], _ =>
        match xs, hlen' with
        | [y0, y1, y2], _ =>
          have g0 : DataW.trod enc Tryz.prog W 0 (fun _ => true) true n' 80 [k0] = some y0 := by simpa [c80] using hg 0 _ rfl
          have g1 : DataW.trod enc Tryz.prog W 0 (fun _ => true) true n' 3 [k1] = some y1 := by simpa [c3'] using hg 1 _ rfl
          have g2 : DataW.trod enc Tryz.prog W 0 (fun _ => true) true n' 9 [k2] = some y2 := by simpa [c9'] using hg 2 _ rfl
          obtain ⟨u0, e0, _, _⟩ := DataW.trod_int Tryz.underlying80 g0
          obtain ⟨u1, e1, _, _⟩ := DataW.trod_int Tryz.underlying3 g1
          obtain ⟨u2, e2, _, _⟩ := DataW.trod_string Tryz.underlying9 g2
          simp only [List.cons.injEq, and_true] at e0 e1 e2
          subst e0 e1 e2
          refine ⟨⟨u0, u1, u2⟩, fun j hj => ?_⟩
          have := hcell j hj
          rw [Go.Deep.add_add] at this
          exact this)
    refine ⟨row, ⟨some a, m', by rw [h1], by omega, ?_⟩, by omega⟩
    have hsp := span_of (W := W) (a := a) (c := 3) (by omega) (css := row.map Val.cells) (fun x hx => by obtain ⟨v, _, rfl⟩ := List.mem_map.1 hx; rfl) (fun i x hx j hj => by
      rw [List.getElem?_map, Option.map_eq_some_iff] at hx
      obtain ⟨v, hv, rfl⟩ := hx
      exact h2 i v hv j hj)
    unfold rowCells
    rw [List.flatMap_def]
    exact hsp
theorem mem_weightsAll {P : Program} {e : TypeId} {d : DataW H} {q : Nat} (hq : q ∈ d.weights P e) : ∀ {l : List (DataW H)}, d ∈ l → q ∈ DataW.weightsAll P e l
  | [], h => by simp at h
  | y :: r, h => by
    unfold DataW.weightsAll
    rcases List.mem_cons.1 h with rfl | h
    · exact List.mem_append_left _ hq
    · exact List.mem_append_right _ (mem_weightsAll hq h)
/-- An act's cells, opened. -/
theorem open_actCells {m : Nat} {cs : List Value} {x : DataW H × List MemPlace} (h : DataW.trod enc Tryz.prog W 0 (fun _ => true) true m 43 cs = some x) (hw : ∀ q ∈ x.1.weights Tryz.prog 43, q ≤ reachBytes) : ∃ a : ActM, ActIs (oldG W) a cs := by
  have c3' : Tryz.prog.cellsOf 3 = 1 := by kernel_rfl
  have c9' : Tryz.prog.cellsOf 9 = 1 := by kernel_rfl
  have c41' : Tryz.prog.cellsOf 41 = 1 := by kernel_rfl
  obtain ⟨xs, n, _, hx, hcl, hlen, hg⟩ := DataW.trod_struct Tryz.underlying43 h
  match cs, hcl.trans cells43, xs, hlen with
  | [c0, c1, c2, c3, c4, c5, c6], _, [y0, y1, y2, y3, y4, y5, y6], _ =>
    have g0 : DataW.trod enc Tryz.prog W 0 (fun _ => true) true n 3 [c0] = some y0 := by simpa [c3'] using hg 0 _ rfl
    have g1 : DataW.trod enc Tryz.prog W 0 (fun _ => true) true n 9 [c1] = some y1 := by simpa [c9'] using hg 1 _ rfl
    have g2 : DataW.trod enc Tryz.prog W 0 (fun _ => true) true n 9 [c2] = some y2 := by simpa [c9'] using hg 2 _ rfl
    have g3 : DataW.trod enc Tryz.prog W 0 (fun _ => true) true n 3 [c3] = some y3 := by simpa [c3'] using hg 3 _ rfl
    have g4 : DataW.trod enc Tryz.prog W 0 (fun _ => true) true n 3 [c4] = some y4 := by simpa [c3'] using hg 4 _ rfl
    have g5 : DataW.trod enc Tryz.prog W 0 (fun _ => true) true n 3 [c5] = some y5 := by simpa [c3'] using hg 5 _ rfl
    have g6 : DataW.trod enc Tryz.prog W 0 (fun _ => true) true n 41 [c6] = some y6 := by simpa [c41'] using hg 6 _ rfl
    obtain ⟨op, e0, f0, w0⟩ := DataW.trod_int Tryz.underlying3 g0
    obtain ⟨o, e1, f1, w1⟩ := DataW.trod_string Tryz.underlying9 g1
    obtain ⟨nm, e2, f2, w2⟩ := DataW.trod_string Tryz.underlying9 g2
    obtain ⟨txn, e3, f3, w3⟩ := DataW.trod_int Tryz.underlying3 g3
    obtain ⟨id, e4, f4, w4⟩ := DataW.trod_int Tryz.underlying3 g4
    obtain ⟨nn, e5, f5, w5⟩ := DataW.trod_int Tryz.underlying3 g5
    simp only [List.cons.injEq, and_true] at e0 e1 e2 e3 e4 e5
    subst e0 e1 e2 e3 e4 e5
    subst f0 f1 f2 f3 f4 f5
    subst hx
    have hwe : ∀ q, q ∈ DataW.weightsEach Tryz.prog [3, 9, 9, 3, 3, 3, 41] ([DataW.lit (.int .i64 op), .lit (.string o.data.toList), .lit (.string nm.data.toList), .lit (.int .i64 txn), .lit (.int .i64 id), .lit (.int .i64 nn), y6.1]) → q ≤ reachBytes := fun q hq => hw q (by
      simp only [List.map_cons, List.map_nil]
      unfold DataW.weights
      rw [Tryz.underlying43]
      exact hq)
    obtain ⟨row, hr, hrl⟩ := open_rowV g6 (fun q hq => hwe q (by simp [DataW.weightsEach, hq]))
    have s1 := hwe o.data.toList.length (by simp [DataW.weightsEach, DataW.weights])
    have s2 := hwe nm.data.toList.length (by simp [DataW.weightsEach, DataW.weights])
    unfold reachBytes at s1 s2
    exact ⟨⟨op, (o, nm), txn, id, nn, row⟩, ⟨⟨c6, rfl, hr⟩, wf_okI w0, wf_okI w3, wf_okI w4, wf_okI w5, by rw [Array.length_toList] at s1; exact s1, by rw [Array.length_toList] at s2; exact s2, hrl⟩⟩
/-- A slice of acts, opened. -/
theorem open_acts {v : Value} {d : DataW H} {p : List MemPlace} {r : Reach} {b0 : Nat} (hv : Value.okWide Tryz.prog W r b0 35 v) (h : DataW.Trod enc Tryz.prog W 0 (fun _ => true) true 35 v d p) (hw : ∀ q ∈ d.weights Tryz.prog 35, q ≤ reachBytes) : ∃ l : List ActM, ActsAt (oldG W) v l := by
  have b43 : Tryz.prog.bytesOf 43 = 88 := by kernel_rfl
  obtain ⟨a0, len0, cap0, rfl⟩ := okWide_slice Tryz.underlying35 hv
  obtain ⟨fuel, hf⟩ := h
  rcases open_slice Tryz.underlying35 hf with ⟨hc, hx⟩ | ⟨a, len, cap, m', n, D, Pl, hc, _, hl, hm, hmm, hx, hi⟩
  · simp only [Value.cells, List.cons.injEq, and_true] at hc
    injection hc with e1 e2 e3
    subst e1 e2 e3
    exact ⟨[], [], none, 0, .nil, rfl, Nat.le_refl _, by simp, .inl rfl⟩
  · simp only [Value.cells, List.cons.injEq, and_true] at hc
    injection hc with e1 e2 e3
    subst e1 e2 e3
    simp only [if_true] at hmm
    subst hmm
    simp only [Prod.mk.injEq] at hx
    obtain ⟨hx, _⟩ := hx
    subst hx
    have hsz : (len0 + (m' - len0)) * 88 ≤ 140737488351232 := by
      have := hw ((((List.range len0).map D).length + ((List.range (m' - len0)).map fun j => D (len0 + j)).length) * Tryz.prog.bytesOf 43) (by simp [DataW.weights, Tryz.underlying35])
      rw [b43] at this
      simp only [List.length_map, List.length_range] at this
      exact this
    have hwD : ∀ i, i < len0 → ∀ q ∈ (D i).weights Tryz.prog 43, q ≤ reachBytes := fun i hi' q hq => hw q (by
      unfold DataW.weights
      rw [Tryz.underlying35]
      refine List.mem_cons_of_mem _ (List.mem_append_left _ (mem_weightsAll hq ?_))
      exact List.mem_map.2 ⟨i, List.mem_range.2 hi', rfl⟩)
    obtain ⟨qs, h1, h2⟩ := exists_list (P := fun i (q : ActM × List Value) => ActIs (oldG W) q.1 q.2 ∧ q.2.length = 7 ∧ ∀ j, j < 7 → W.cell? (a.add (i * 7 + j)) = q.2[j]?) len0 (fun i hi' => by
      obtain ⟨cs', hcs, ht⟩ := hi i (by omega)
      rw [cells43] at hcs
      obtain ⟨_, hl7, hcell⟩ := World.cells?_some hcs
      obtain ⟨act, hact⟩ := open_actCells ht (hwD i hi')
      refine ⟨(act, cs'), hact, hl7, fun j hj => ?_⟩
      have := hcell j hj
      rw [Go.Deep.add_add] at this
      exact this)
    refine ⟨qs.map Prod.fst, qs.map Prod.snd, some a, m', ?_, by rw [List.length_map, h1], by rw [List.length_map, h1]; exact hl, by rw [List.length_map, h1]; omega, ?_⟩
    · have : ∀ l : List (ActM × List Value), (∀ q ∈ l, ActIs (oldG W) q.1 q.2) → All2 (ActIs (oldG W)) (l.map Prod.fst) (l.map Prod.snd) := fun l => by
        induction l with
        | nil => intro _; exact .nil
        | cons q l ih => intro hl; exact .cons (hl q (by simp)) (ih fun x hx => hl x (by simp [hx]))
      exact this qs fun q hq => by
        obtain ⟨i, hi'⟩ := List.mem_iff_getElem?.1 hq
        exact (h2 i q hi').1
    · refine span_of (W := W) (a := a) (c := 7) (by omega) (fun x hx => ?_) (fun i x hx j hj => ?_)
      · obtain ⟨q, hq, rfl⟩ := List.mem_map.1 hx
        obtain ⟨i, hi'⟩ := List.mem_iff_getElem?.1 hq
        exact (h2 i q hi').2.1
      · rw [List.getElem?_map, Option.map_eq_some_iff] at hx
        obtain ⟨q, hq, rfl⟩ := hx
        exact (h2 i q hq).2.2 j hj
end
end Go.Ju

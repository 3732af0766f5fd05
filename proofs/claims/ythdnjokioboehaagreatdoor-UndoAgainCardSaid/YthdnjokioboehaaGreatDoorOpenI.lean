/- An image, opened. -/
import Derived.Test.YthdnjokioboehaaGreatDoorSameIn
import Derived.Test.YthdnjokioboehaaGreatDoorOpenS
set_option maxRecDepth 100000
namespace Go.Ju
open Go.ChangeShapes Go.WideShapes Go.ChangeAt Go.RowKit Go.Deep
open Go.Proofs
section
variable {H : Type} {enc : TypeId × Value → H} {W : World}
/-- A slice, element by element. -/
theorem open_list {α : Type} {P : α → List Value → Prop} {T e c b m : Nat} {rv : Value} {x : DataW H × List MemPlace} (hT : Tryz.prog.underlying T = some (.slice e)) (hc : Tryz.prog.cellsOf e = c) (hc0 : 0 < c) (hb : Tryz.prog.bytesOf e = b) (hb0 : 0 < b)
    (h : DataW.trod enc Tryz.prog W 0 (fun _ => true) true m T [rv] = some x) (hw : ∀ q ∈ x.1.weights Tryz.prog T, q ≤ reachBytes)
    (hel : ∀ m' cs y, DataW.trod enc Tryz.prog W 0 (fun _ => true) true m' e cs = some y → (∀ q ∈ y.1.weights Tryz.prog e, q ≤ reachBytes) → ∃ a, P a cs) :
    ∃ l css A cap, All2 P l css ∧ rv = .slice A l.length cap ∧ l.length ≤ cap ∧ l.length ≤ 140737488351232 ∧ Span (oldG W) A css.flatten := by
  rcases open_slice hT h with ⟨hcv, hx⟩ | ⟨a, len, cap, m', n, D, Pl, hcv, _, hl, hm, hmm, hx, hi⟩
  · simp only [List.cons.injEq, and_true] at hcv
    subst hcv
    exact ⟨[], [], none, 0, .nil, rfl, Nat.le_refl _, by simp, .inl rfl⟩
  · simp only [List.cons.injEq, and_true] at hcv
    subst hcv
    simp only [if_true] at hmm
    subst hmm
    subst hx
    have hlen : len ≤ 140737488351232 := by
      have := hw ((((List.range len).map D).length + ((List.range (m' - len)).map fun j => D (len + j)).length) * Tryz.prog.bytesOf e) (by simp [DataW.weights, hT])
      rw [hb] at this
      simp only [List.length_map, List.length_range] at this
      unfold reachBytes at this
      have h2 : len + (m' - len) ≤ (len + (m' - len)) * b := Nat.le_mul_of_pos_right _ hb0
      omega
    have hwD : ∀ i, i < len → ∀ q ∈ (D i).weights Tryz.prog e, q ≤ reachBytes := fun i hi' q hq => hw q (by
      unfold DataW.weights
      rw [hT]
      refine List.mem_cons_of_mem _ (List.mem_append_left _ (mem_weightsAll hq ?_))
      exact List.mem_map.2 ⟨i, List.mem_range.2 hi', rfl⟩)
    obtain ⟨qs, h1, h2⟩ := exists_list (P := fun i (q : α × List Value) => P q.1 q.2 ∧ q.2.length = c ∧ ∀ j, j < c → W.cell? (a.add (i * c + j)) = q.2[j]?) len (fun i hi' => by
      obtain ⟨cs', hcs, ht⟩ := hi i (by omega)
      rw [hc] at hcs
      obtain ⟨_, hlc, hcell⟩ := World.cells?_some hcs
      obtain ⟨act, hact⟩ := hel _ _ _ ht (hwD i hi')
      refine ⟨(act, cs'), hact, hlc, fun j hj => ?_⟩
      have := hcell j hj
      rw [Go.Deep.add_add] at this
      exact this)
    refine ⟨qs.map Prod.fst, qs.map Prod.snd, some a, m', ?_, by rw [List.length_map, h1], by rw [List.length_map, h1]; exact hl, by rw [List.length_map, h1]; exact hlen, ?_⟩
    · have : ∀ l : List (α × List Value), (∀ q ∈ l, P q.1 q.2) → All2 P (l.map Prod.fst) (l.map Prod.snd) := fun l => by
        induction l with
        | nil => intro _; exact .nil
        | cons q l ih => intro hl; exact .cons (hl q (by simp)) (ih fun x hx => hl x (by simp [hx]))
      exact this qs fun q hq => by
        obtain ⟨i, hi'⟩ := List.mem_iff_getElem?.1 hq
        exact (h2 i q hi').1
    · refine span_of (W := W) (a := a) (c := c) hc0 (fun x hx => ?_) (fun i x hx j hj => ?_)
      · obtain ⟨q, hq, rfl⟩ := List.mem_map.1 hx
        obtain ⟨i, hi'⟩ := List.mem_iff_getElem?.1 hq
        exact (h2 i q hi').2.1
      · rw [List.getElem?_map, Option.map_eq_some_iff] at hx
        obtain ⟨q, hq, rfl⟩ := hx
        exact (h2 i q hq).2.2 j hj
def heldFit (h : Int × List Val) : Prop := i64 h.1 ∧ h.2.length ≤ 140737488351232
/-- A row with its number, opened. -/
theorem open_heldV {m : Nat} {cs : List Value} {x : DataW H × List MemPlace} (h : DataW.trod enc Tryz.prog W 0 (fun _ => true) true m 74 cs = some x) (hw : ∀ q ∈ x.1.weights Tryz.prog 74, q ≤ reachBytes) : ∃ a : Int × List Val, HeldIs (oldG W) a cs ∧ heldFit a := by
  have c3' : Tryz.prog.cellsOf 3 = 1 := by kernel_rfl
  have c41' : Tryz.prog.cellsOf 41 = 1 := by kernel_rfl
  have ct : Tryz.prog.cellsOf 74 = 2 := by kernel_rfl
  obtain ⟨xs, n, _, hx, hcl, hlen, hg⟩ := DataW.trod_struct Tryz.underlying74 h
  match cs, hcl.trans ct, xs, hlen with
  | [c0, c1], _, [y0, y1], _ =>
    have g0 : DataW.trod enc Tryz.prog W 0 (fun _ => true) true n 3 [c0] = some y0 := by simpa [c3'] using hg 0 _ rfl
    have g1 : DataW.trod enc Tryz.prog W 0 (fun _ => true) true n 41 [c1] = some y1 := by simpa [c41'] using hg 1 _ rfl
    obtain ⟨id, e0, f0, w0⟩ := DataW.trod_int Tryz.underlying3 g0
    simp only [List.cons.injEq, and_true] at e0
    subst e0 f0 hx
    have hwe : ∀ q, q ∈ DataW.weightsEach Tryz.prog [3, 41] ([DataW.lit (.int .i64 id), y1.1]) → q ≤ reachBytes := fun q hq => hw q (by
      simp only [List.map_cons, List.map_nil]
      unfold DataW.weights
      rw [Tryz.underlying74]
      exact hq)
    obtain ⟨row, hr, hrl⟩ := open_rowV g1 (fun q hq => hwe q (by simp [DataW.weightsEach, hq]))
    exact ⟨(id, row), ⟨c1, rfl, hr⟩, wf_okI w0, hrl⟩
structure storedFit (s : StoredM) : Prop where
  next : i64 s.next
  s1 : s.key.1.size ≤ 140737488351232
  s2 : s.key.2.size ≤ 140737488351232
  len : s.rows.length ≤ 140737488351232
  rows : ∀ h ∈ s.rows, heldFit h
theorem all2_and {α : Type} {P : α → List Value → Prop} {Q : α → Prop} {l : List α} {css : List (List Value)} (h : All2 (fun a cs => P a cs ∧ Q a) l css) : All2 P l css ∧ ∀ a ∈ l, Q a := by
  induction h with
  | nil => exact ⟨.nil, by simp⟩
  | cons h1 _ ih =>
    refine ⟨.cons h1.1 ih.1, fun a ha => ?_⟩
    rcases List.mem_cons.1 ha with rfl | ha
    · exact h1.2
    · exact ih.2 a ha
/-- A table, opened. -/
theorem open_storedV {m : Nat} {cs : List Value} {x : DataW H × List MemPlace} (h : DataW.trod enc Tryz.prog W 0 (fun _ => true) true m 72 cs = some x) (hw : ∀ q ∈ x.1.weights Tryz.prog 72, q ≤ reachBytes) : ∃ a : StoredM, StoredIs2 (oldG W) a cs ∧ storedFit a := by
  have c3' : Tryz.prog.cellsOf 3 = 1 := by kernel_rfl
  have c9' : Tryz.prog.cellsOf 9 = 1 := by kernel_rfl
  have c45' : Tryz.prog.cellsOf 45 = 1 := by kernel_rfl
  have ct : Tryz.prog.cellsOf 72 = 4 := by kernel_rfl
  obtain ⟨xs, n, _, hx, hcl, hlen, hg⟩ := DataW.trod_struct Tryz.underlying72 h
  match cs, hcl.trans ct, xs, hlen with
  | [c0, c1, c2, c3], _, [y0, y1, y2, y3], _ =>
    have g0 : DataW.trod enc Tryz.prog W 0 (fun _ => true) true n 9 [c0] = some y0 := by simpa [c9'] using hg 0 _ rfl
    have g1 : DataW.trod enc Tryz.prog W 0 (fun _ => true) true n 9 [c1] = some y1 := by simpa [c9'] using hg 1 _ rfl
    have g2 : DataW.trod enc Tryz.prog W 0 (fun _ => true) true n 45 [c2] = some y2 := by simpa [c45'] using hg 2 _ rfl
    have g3 : DataW.trod enc Tryz.prog W 0 (fun _ => true) true n 3 [c3] = some y3 := by simpa [c3'] using hg 3 _ rfl
    obtain ⟨o, e0, f0, _⟩ := DataW.trod_string Tryz.underlying9 g0
    obtain ⟨nm, e1, f1, _⟩ := DataW.trod_string Tryz.underlying9 g1
    obtain ⟨nx, e3, f3, w3⟩ := DataW.trod_int Tryz.underlying3 g3
    simp only [List.cons.injEq, and_true] at e0 e1 e3
    subst e0 e1 e3 f0 f1 f3 hx
    have hwe : ∀ q, q ∈ DataW.weightsEach Tryz.prog [9, 9, 45, 3] ([DataW.lit (.string o.data.toList), .lit (.string nm.data.toList), y2.1, .lit (.int .i64 nx)]) → q ≤ reachBytes := fun q hq => hw q (by
      simp only [List.map_cons, List.map_nil]
      unfold DataW.weights
      rw [Tryz.underlying72]
      exact hq)
    obtain ⟨l, css, A, cap, q1, rfl, q3, q4, q5⟩ := open_list (P := fun (a : Int × List Val) cs => HeldIs (oldG W) a cs ∧ heldFit a) (b := 32) Tryz.underlying45 (show Tryz.prog.cellsOf 74 = 2 by kernel_rfl) (by omega) (by kernel_rfl) (by omega) g2 (fun q hq => hwe q (by simp [DataW.weightsEach, hq])) (fun m' cs y ht hwy => open_heldV ht hwy)
    obtain ⟨r1, r2⟩ := all2_and q1
    have s1 := hwe o.data.toList.length (by simp [DataW.weightsEach, DataW.weights])
    have s2 := hwe nm.data.toList.length (by simp [DataW.weightsEach, DataW.weights])
    unfold reachBytes at s1 s2
    exact ⟨⟨(o, nm), l, nx⟩, ⟨_, rfl, css, A, cap, r1, rfl, q3, q5⟩, wf_okI w3, by rw [Array.length_toList] at s1; exact s1, by rw [Array.length_toList] at s2; exact s2, q4, r2⟩
structure imgFit (i : Img) : Prop where
  time : i64 i.time
  len : i.tabs.length ≤ 140737488351232
  tabs : ∀ s ∈ i.tabs, storedFit s
def ImgIn (G : Gh) (v : Value) (i : Img) : Prop := ∃ tv, v = .agg #[.int .i64 i.time, tv] ∧ StoredIn G tv i.tabs ∧ imgFit i
theorem open_image {v : Value} {d : DataW H} {p : List MemPlace} {r : Reach} {b0 : Nat} (hv : Value.okWide Tryz.prog W r b0 24 v) (h : DataW.Trod enc Tryz.prog W 0 (fun _ => true) true 24 v d p) (hw : ∀ q ∈ d.weights Tryz.prog 24, q ≤ reachBytes) : ∃ i : Img, ImgIn (oldG W) v i := by
  have c3' : Tryz.prog.cellsOf 3 = 1 := by kernel_rfl
  have c22' : Tryz.prog.cellsOf 22 = 1 := by kernel_rfl
  have ct : Tryz.prog.cellsOf 24 = 2 := by kernel_rfl
  obtain ⟨cs, rfl, hsz⟩ := okWide_struct Tryz.underlying24 hv
  obtain ⟨l⟩ := cs
  match l, hsz.trans ct with
  | [c0, c1], _ =>
    obtain ⟨fuel, hf⟩ := h
    obtain ⟨xs, n, _, hx, _, hlen, hg⟩ := DataW.trod_struct Tryz.underlying24 hf
    match xs, hlen with
    | [y0, y1], _ =>
      have g0 : DataW.trod enc Tryz.prog W 0 (fun _ => true) true n 3 [c0] = some y0 := by simpa [Value.cells, c3'] using hg 0 _ rfl
      have g1 : DataW.trod enc Tryz.prog W 0 (fun _ => true) true n 22 [c1] = some y1 := by simpa [Value.cells, c22'] using hg 1 _ rfl
      obtain ⟨tm, e0, f0, w0⟩ := DataW.trod_int Tryz.underlying3 g0
      simp only [List.cons.injEq, and_true] at e0
      subst e0 f0
      simp only [Prod.mk.injEq] at hx
      obtain ⟨hx, _⟩ := hx
      subst hx
      have hwe : ∀ q, q ∈ DataW.weightsEach Tryz.prog [3, 22] ([DataW.lit (.int .i64 tm), y1.1]) → q ≤ reachBytes := fun q hq => hw q (by
        simp only [List.map_cons, List.map_nil]
        unfold DataW.weights
        rw [Tryz.underlying24]
        exact hq)
      obtain ⟨l, css, A, cap, q1, rfl, q3, q4, q5⟩ := open_list (P := fun (a : StoredM) cs => StoredIs2 (oldG W) a cs ∧ storedFit a) (b := 64) Tryz.underlying22 (show Tryz.prog.cellsOf 72 = 4 by kernel_rfl) (by omega) (by kernel_rfl) (by omega) g1 (fun q hq => hwe q (by simp [DataW.weightsEach, hq])) (fun m' cs y ht hwy => open_storedV ht hwy)
      obtain ⟨r1, r2⟩ := all2_and q1
      exact ⟨⟨tm, l⟩, _, rfl, ⟨css, A, cap, r1, rfl, q3, q5⟩, wf_okI w0, q4, r2⟩
end
end Go.Ju

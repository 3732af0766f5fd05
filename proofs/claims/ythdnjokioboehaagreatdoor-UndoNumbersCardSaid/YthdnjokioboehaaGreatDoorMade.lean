/- 'made': a store with which some calls were made. -/
import Derived.Test.YthdnjokioboehaaGreatDoorDo
namespace Go.Ju
open Go.RowKit
open Go.Proofs
open Go.ChangeMaps

theorem Inv.doA {n : Nat} {M : St} (h : Inv n M) (a : ActM) : Inv (n + 2) (M.doA a).1 := by
  unfold St.doA
  split
  · exact h.addA _ _ _
  split
  · exact h.putA _ _ _ _
  split
  · exact h.delA _ _ _
  split
  · exact h.mono (by omega)
  split
  · exact (h.backA _ _).mono (by omega)
  split
  · exact (h.commitA _).mono (by omega)
  split
  · exact (h.abortA _).mono (by omega)
  split
  · exact h.mono (by omega)
  split
  · exact h.mono (by omega)
  split
  · exact h.mono (by omega)
  · exact h.dropA _
def runs (M : St) (l : List ActM) : St := l.foldl (fun M a => (M.doA a).1) M
theorem runs_snoc (M : St) {l : List ActM} {k : Nat} {a : ActM} (h : l[k]? = some a) : runs M (l.take (k + 1)) = ((runs M (l.take k)).doA a).1 := by
  unfold runs
  rw [List.take_add_one, h, List.foldl_append]
  rfl
theorem i64_ok {n : Int} (h : i64 n) : okI n := okI_of (by have := h.1; omega) (by have := h.2; omega)
theorem rowFor_old {w0 u : World} {G Ga : Gh} {rv : Value} {l : List Val} (hG : Holds Ga w0) (hb : Below w0.heap.size w0 u) (hr : RowAt Ga rv l) (hl : l.length ≤ 30) : RowFor w0 G u rv l :=
  ⟨Ga, ⟨hG.below hb, hr, fun c hc => by
    obtain ⟨A, c', h1, _, h2⟩ := hr
    rw [hc] at h1
    injection h1 with a1 a2 a3
    subst a1
    have := rowCells_len l
    rw [Span.none_nil h2] at this
    simp at this
    omega, by omega⟩, .inl fun b hb' => by
    cases hx : Ga b with
    | none => exact absurd hx hb'
    | some o => exact hG.lt hx⟩
theorem few_row {l : List ActM} (h : fewB l = true) {a : ActM} (ha : a ∈ l) : a.row.length ≤ 30 := by
  unfold fewB at h
  rw [Bool.and_eq_true, List.all_eq_true] at h
  have := h.1 a ha
  unfold fewA at this
  rw [Bool.and_eq_true, decide_eq_true_eq] at this
  exact this.1
theorem few_len {l : List ActM} (h : fewB l = true) : l.length ≤ 300 := by
  unfold fewB at h
  rw [Bool.and_eq_true, decide_eq_true_eq] at h
  exact h.2
/-- An act that came in, for a call of 'do'. -/
theorem Stage.act {w0 u : World} {p n : Nat} {M : St} {G Ga : Gh} (h : Stage w0 p n M G u) (hn : n ≤ 1000000) (hnul : Nul w0) (hGa : Holds Ga w0) {a : ActM} {cs : List Value} (ha : ActIs Ga a cs) (hl : a.row.length ≤ 30) {A : Option Addr} {c : Nat} (hr : RowAt Ga (.slice A a.row.length c) a.row) :
    Calls Tryz.prog 22 #[ptr p, actVal a (.slice A a.row.length c)] u (DoIs w0 p (n + 2) (M.doA a).1 G (M.doA a).2) :=
  h.do hn hnul a A a.row.length c (rowFor_old hGa h.below hr hl) (i64_ok ha.id) (i64_ok ha.n)

set_option maxRecDepth 100000 in
set_option maxHeartbeats 1000000 in
theorem made_any {w0 u : World} {G Ga : Gh} (hb : Below w0.heap.size w0 u) (hG : Holds G u) (hnul : Nul w0) (hGa : Holds Ga w0) {v : Value} {l : List ActM} (h : ActsAt Ga v l) (hfew : fewB l = true) :
    Calls Tryz.prog 26 #[v] u fun e u' => ∃ p, e = .returned (ptr p) ∧ Stage w0 p 600 (runs St.empty l) G u' := by
  obtain ⟨A, c, rfl, hc, hm, hs⟩ := act_at h
  have HV := Lib.hid hs
  have HGa := Lib.hid hGa
  have HNul := Lib.hid hnul
  have HNew := Lib.hid (stage_new hb hG)
  have hlen := few_len hfew
  have HR := Lib.hid (fun (j : Nat) (a : ActM) (hj : l[j]? = some a) => few_row hfew (List.mem_of_getElem? hj))
  have HDo := Lib.hid (fun (p n : Nat) (M : St) (G : Gh) (u : World) (a : ActM) (cs : List Value) (A : Option Addr) (c : Nat) (hS : Stage w0 p n M G u) (hn : n ≤ 1000000) (ha : ActIs Ga a cs) (hl : a.row.length ≤ 30) (hr : RowAt Ga (.slice A a.row.length c) a.row) => hS.act hn hnul hGa ha hl hr)
  clear hs hGa h hb hG hnul hfew
  generalize hn : l.length = n at *
  unfold actVal at *
  go_enter Tryz.func26, Tryz.ntmps26
  go_wp2_with (go_at_call 19; refine HNew.out.mono ?_; rintro e u0 ⟨p, rfl, hS⟩; replace hS := Lib.hid hS; unfold ptr at *)
  go_loopw [9] (fun i wr => ∃ k : Nat, k ≤ n ∧ i = .int .i64 k ∧ Stage w0 p (2 * k) (runs St.empty (l.take k)) G wr) (fun i _ => n - (RowKit.intOf i).toNat)
  case atStart => exact ⟨0, Nat.zero_le _, by simp, hS.out⟩
  case round =>
    obtain ⟨k, hk, rfl, hS1⟩ := hrel
    by_cases hkn : k = n
    · subst hkn
      have HE := Lib.hid hS1
      clear hS1 hS
      go_wp2
      go_ret
      exact ⟨p, rfl, by
        have := HE.out
        rw [List.take_of_length_le (by omega)] at this
        exact this.mono (by omega)⟩
    · obtain ⟨x, hx⟩ : ∃ x, l[k]? = some x := ⟨l[k]'(by omega), List.getElem?_eq_getElem _⟩
      have hklt : k < n := by omega
      have hk1 : (k : Int) < (n : Int) := by omega
      have hk0 : (0 : Int) ≤ (k : Int) := Int.natCast_nonneg _
      obtain ⟨b, o, rv, cs, rfl, hact, -, hrow, hcel⟩ := HV.out k x hx
      obtain ⟨q0, q1, q2, q3, q4, q5, q6⟩ := hcel _ (HGa.out.below hS1.below)
      have hrow' := hrow
      obtain ⟨A2, c2, rfl, hc2, -⟩ := hrow'
      have HS := Lib.hid (hS1.alloc (.cells #[.int .i64 x.op, .string x.key.1, .string x.key.2, .int .i64 x.txn, .int .i64 x.id, .int .i64 x.n, .slice A2 x.row.length c2] 43))
      have HSub := Lib.hid (Sub.put_new hS1.holds (.cells #[.int .i64 x.op, .string x.key.1, .string x.key.2, .int .i64 x.txn, .int .i64 x.id, .int .i64 x.n, .slice A2 x.row.length c2] 43))
      have HX := Lib.hid (And.intro hact (And.intro hrow (HR.out k x hx)))
      have HT := Lib.hid (runs_snoc St.empty hx)
      clear hx hact hrow hcel hS1 hkn hS
      go_wp2_with (go_at_call 22; refine (HDo.out p _ _ _ _ x _ A2 c2 HS.out (by omega) HX.out.1 HX.out.2.2 HX.out.2.1).mono ?_; rintro e u' ⟨rv', hv', G', rfl, hS2, hs2, -⟩; replace hS2 := Lib.hid hS2; replace hs2 := Lib.hid hs2)
      go_roundw
      case rel => exact ⟨k + 1, by omega, by go_num, by rw [HT.out]; exact (hS2.out.weaken (HSub.out.trans hs2.out)).mono (by omega)⟩
      case measure => simp [RowKit.intOf]; omega
end Go.Ju

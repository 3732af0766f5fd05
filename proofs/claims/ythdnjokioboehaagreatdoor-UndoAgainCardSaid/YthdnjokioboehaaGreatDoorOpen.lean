/- Arguments opened: an act; the listed variable. -/
import Derived.Test.YthdnjokioboehaaGreatDoorRows
import Derived.ProofKit
import Derived.LaidMore
import Derived.OpenShut
import Derived.Deep.Fields
import Derived.Stop.Joined
import Derived.MakeChecks
set_option maxRecDepth 100000
namespace Go.Ju
open Go.ChangeShapes Go.WideShapes Go.ChangeAt Go.RowKit Go.Deep
open Go.Proofs

theorem cells43 : Tryz.prog.cellsOf 43 = 7 := by kernel_rfl
section
variable {H : Type} {enc : TypeId × Value → H} {w : World} {base : Nat} {spare : Nat → Bool} {held : Bool}
theorem wf_okI {n : Int} (h : (Lit.int .i64 n).wf = true) : -9223372036854775808 ≤ n ∧ n ≤ 9223372036854775807 := bounds_i64 h
/-- An act, opened. -/
theorem open_act {r : Reach} {b0 : Nat} {v : Value} {d : DataW H} {p : List MemPlace} (hv : Value.okWide Tryz.prog w r b0 43 v) (h : DataW.Trod enc Tryz.prog w base spare held 43 v d p) :
    ∃ (op txn id n : Int) (o nm : ByteArray) (rv : Value) (x : DataW H × List MemPlace) (m : Nat), v = .agg #[.int .i64 op, .string o, .string nm, .int .i64 txn, .int .i64 id, .int .i64 n, rv] ∧
      (-9223372036854775808 ≤ op ∧ op ≤ 9223372036854775807) ∧ (-9223372036854775808 ≤ txn ∧ txn ≤ 9223372036854775807) ∧ (-9223372036854775808 ≤ id ∧ id ≤ 9223372036854775807) ∧ (-9223372036854775808 ≤ n ∧ n ≤ 9223372036854775807) ∧
      o.size ≤ maxLen ∧ nm.size ≤ maxLen ∧ DataW.trod enc Tryz.prog w base spare held m 41 [rv] = some x := by
  obtain ⟨cs, rfl, hsz⟩ := okWide_struct Tryz.underlying43 hv
  obtain ⟨l⟩ := cs
  match l, hsz.trans cells43 with
  | [c0, c1, c2, c3, c4, c5, c6], _ =>
    obtain ⟨fuel, hf⟩ := h
    obtain ⟨xs, n, _, _, _, hlen, hg⟩ := DataW.trod_struct Tryz.underlying43 hf
    have c3' : Tryz.prog.cellsOf 3 = 1 := by kernel_rfl
    have c9' : Tryz.prog.cellsOf 9 = 1 := by kernel_rfl
    have c41' : Tryz.prog.cellsOf 41 = 1 := by kernel_rfl
    match xs, hlen with
    | [y0, y1, y2, y3, y4, y5, y6], _ =>
      have g0 : DataW.trod enc Tryz.prog w base spare held n 3 [c0] = some y0 := by simpa [Value.cells, c3'] using hg 0 _ rfl
      have g1 : DataW.trod enc Tryz.prog w base spare held n 9 [c1] = some y1 := by simpa [Value.cells, c9'] using hg 1 _ rfl
      have g2 : DataW.trod enc Tryz.prog w base spare held n 9 [c2] = some y2 := by simpa [Value.cells, c9'] using hg 2 _ rfl
      have g3 : DataW.trod enc Tryz.prog w base spare held n 3 [c3] = some y3 := by simpa [Value.cells, c3'] using hg 3 _ rfl
      have g4 : DataW.trod enc Tryz.prog w base spare held n 3 [c4] = some y4 := by simpa [Value.cells, c3'] using hg 4 _ rfl
      have g5 : DataW.trod enc Tryz.prog w base spare held n 3 [c5] = some y5 := by simpa [Value.cells, c3'] using hg 5 _ rfl
      have g6 : DataW.trod enc Tryz.prog w base spare held n 41 [c6] = some y6 := by simpa [Value.cells, c41'] using hg 6 _ rfl
      obtain ⟨op, e0, _, w0⟩ := DataW.trod_int Tryz.underlying3 g0
      obtain ⟨o, e1, _, w1⟩ := DataW.trod_string Tryz.underlying9 g1
      obtain ⟨nm, e2, _, w2⟩ := DataW.trod_string Tryz.underlying9 g2
      obtain ⟨txn, e3, _, w3⟩ := DataW.trod_int Tryz.underlying3 g3
      obtain ⟨id, e4, _, w4⟩ := DataW.trod_int Tryz.underlying3 g4
      obtain ⟨nn, e5, _, w5⟩ := DataW.trod_int Tryz.underlying3 g5
      simp only [List.cons.injEq, and_true] at e0 e1 e2 e3 e4 e5
      subst e0 e1 e2 e3 e4 e5
      exact ⟨op, txn, id, nn, o, nm, c6, y6, n, rfl, wf_okI w0, wf_okI w3, wf_okI w4, wf_okI w5, w1, w2, g6⟩
/-- A slice, as a value. -/
theorem open_sl {m : Nat} {t e : TypeId} {rv : Value} {x : DataW H × List MemPlace} (ht : Tryz.prog.underlying t = some (.slice e)) (h : DataW.trod enc Tryz.prog w base spare held m t [rv] = some x) :
    ∃ A l c, rv = .slice A l c := by
  rcases DataW.trod_slice ht h with ⟨hc, _⟩ | ⟨a, len, cap, _, _, _, _, hc, _⟩
  · simp only [List.cons.injEq, and_true] at hc
    exact ⟨_, _, _, hc⟩
  · simp only [List.cons.injEq, and_true] at hc
    exact ⟨_, _, _, hc⟩
end

/-- The variable value.Null, as the row's condition lays it. -/
theorem nul_cells {W : World} (h : laidMetH Tryz.prog [("justiciar/value.Null", YthdnjokioboehaaGreatDoor.Rows.laid_justiciar_value_Null)] W) : ∃ t fr, W.heap[0]? = some (.cells #[.int .i64 0, .int .i64 0, .string ⟨#[]⟩] t fr) := by
  rw [MakeChecks.laidMetH_plain _ _ _ (by kernel_rfl)] at h
  obtain ⟨ps, ⟨g0, t0, cs0, f0, p0, q0, hg0, ht0, hv0, hd0, _, _⟩, _, _⟩ := h
  have hg : Tryz.prog.globalNamed "justiciar/value.Null" = some 0 := by kernel_rfl
  obtain rfl := Option.some.inj (hg.symm.trans hg0)
  have ht : (Tryz.prog.globals[0]?).map (·.type) = some 82 := by kernel_rfl
  obtain rfl := Option.some.inj (ht.symm.trans ht0)
  have hcs : cs0 = #[.int .i64 0, .int .i64 0, .string ⟨#[]⟩] := by
    obtain ⟨xs, n, _, hx, hl, hlen, hgg⟩ := DataW.trod_struct Tryz.underlying82 hd0
    have cc : Tryz.prog.cellsOf 82 = 3 := by kernel_rfl
    have c3' : Tryz.prog.cellsOf 3 = 1 := by kernel_rfl
    have c9' : Tryz.prog.cellsOf 9 = 1 := by kernel_rfl
    have c80' : Tryz.prog.cellsOf 80 = 1 := by kernel_rfl
    obtain ⟨l⟩ := cs0
    match l, hl.trans cc, xs, hlen with
    | [c0, c1, c2], _, [y0, y1, y2], _ =>
      have g0 : DataW.trod (fun _ => ()) Tryz.prog W 0 (fun _ => true) false n 80 [c0] = some y0 := by simpa [c80'] using hgg 0 _ rfl
      have g1 : DataW.trod (fun _ => ()) Tryz.prog W 0 (fun _ => true) false n 3 [c1] = some y1 := by simpa [c3'] using hgg 1 _ rfl
      have g2 : DataW.trod (fun _ => ()) Tryz.prog W 0 (fun _ => true) false n 9 [c2] = some y2 := by simpa [c9'] using hgg 2 _ rfl
      obtain ⟨a0, e0, f0', _⟩ := DataW.trod_int Tryz.underlying80 g0
      obtain ⟨a1, e1, f1', _⟩ := DataW.trod_int Tryz.underlying3 g1
      obtain ⟨a2, e2, f2', _⟩ := DataW.trod_string Tryz.underlying9 g2
      simp only [List.cons.injEq, and_true] at e0 e1 e2
      subst e0 e1 e2
      subst f0' f1' f2'
      simp [YthdnjokioboehaaGreatDoor.Rows.laid_justiciar_value_Null] at hx
      obtain ⟨⟨h1, h2, h3⟩, _⟩ := hx
      subst h1 h2
      obtain ⟨⟨l2⟩⟩ := a2
      simp at h3
      subst h3
      rfl
  subst hcs
  unfold World.var? at hv0
  rw [hg] at hv0
  simp only [Option.bind_some] at hv0
  cases hb : W.heap[0]? with
  | none => rw [hb] at hv0; cases hv0
  | some o =>
    rw [hb] at hv0
    cases o with
    | cells cs t fr => cases hv0; exact ⟨t, fr, rfl⟩
    | _ => cases hv0
end Go.Ju

/- 'slices.Backward' at changes: its function calls yield for each element, from the last to the first. -/
import Derived.Test.YthdnjokioboehaaGreatDoorUndo
import Derived.RangeFuncNested
import Derived.RangeFuncBound
import Derived.RangeFuncCalls
import Derived.RangeFuncLeaves
import Derived.Shelf.Abstract
import Derived.Shelf.RegionOpen
import Derived.WalkKit
import Derived.OwnWalkIn
import Derived.TacticsInMore
import Derived.LoopNIn
import Derived.LoopIn
namespace Go.Ju
open Go.RowKit
open Go.Proofs
open Go.ChangeMaps
attribute [local go_sem] Oper.semAt_some

/-- The cells of element i of a slice of changes. -/
def ElemAt (W : World) (b o i : Nat) (c : Chg) (op : Value) : Prop :=
  W.cell? ⟨b, o + i * 5, none⟩ = some (.string c.key.1) ∧ W.cell? ⟨b, o + i * 5 + 1, none⟩ = some (.string c.key.2) ∧ W.cell? ⟨b, o + i * 5 + 2, none⟩ = some (.int .i64 c.drops) ∧ W.cell? ⟨b, o + i * 5 + 3, none⟩ = some (.int .i64 c.id) ∧ W.cell? ⟨b, o + i * 5 + 4, none⟩ = some op
def chgVal (c : Chg) (op : Value) : Value := .agg #[.string c.key.1, .string c.key.2, .int .i64 c.drops, .int .i64 c.id, op]

set_option maxRecDepth 100000 in
theorem backward1_in (n l bB : Nat) (A : Option Addr) (m cp : Nat) (L : List (Chg × Value)) (J : Nat → World → Prop) (hm : L.length = m) (hmx : m ≤ 1000000000)
    (hJ : ∀ k W, J k W → W.cell? ⟨bB, 0, none⟩ = some (.slice A m cp) ∧ ∀ i p, L[i]? = some p → ∃ b o, A = some ⟨b, o, none⟩ ∧ ElemAt W b o i p.1 p.2)
    (hY : ∀ k W, J k W → ∀ i p, L[i]? = some p → k + i + 1 = m → YieldAt Fence.wide (n - 1) Tryz.prog l #[.int .i64 i, chgVal p.1 p.2] W fun e W' => e = .returned (.bool true) ∧ J (k + 1) W')
    (W : World) (h0 : J 0 W) (hn : 1 ≤ n) :
    CallsIn Fence.wide n Tryz.prog 101 #[.func (.yield l) #[] #[], .pointer (some ⟨bB, 0, none⟩)] W fun e W' => (∃ v, e = .returned v) ∧ J m W' := by
  refine callsIn_of_wp Tryz.func101 rfl trivial ?_ rfl
  simp only [Tryz.ntmps101, List.size_toArray, List.length_cons, List.length_nil, Nat.reduceAdd, Nat.reduceSub, Array.replicate_succ, Array.replicate_zero, List.push_toArray, List.append_toArray, List.nil_append, List.cons_append]
  have c0 := (hJ 0 W h0).1
  have HJ := Lib.hid hJ
  have HY := Lib.hid hY
  clear hJ hY
  gi_wp2
  gi_loopw [3] (fun p wr => ∃ k : Nat, k ≤ m ∧ p = .int .i64 ((m : Int) - 1 - k) ∧ J k wr) (fun p _ => (intOf p + 1).toNat)
  case atStart => exact ⟨0, Nat.zero_le _, by go_num, h0⟩
  case round =>
    obtain ⟨k, hk, rfl, hJk⟩ := hrel
    by_cases hkm : k = m
    · subst hkm
      gi_wp2
      go_end0
      exact ⟨⟨_, rfl⟩, hJk⟩
    · obtain ⟨i, hi⟩ : ∃ i : Nat, k + i + 1 = m := ⟨m - 1 - k, by omega⟩
      have hii : (m : Int) - 1 - k = (i : Int) := by omega
      obtain ⟨p, hp⟩ : ∃ p, L[i]? = some p := ⟨L[i], List.getElem?_eq_getElem (by omega)⟩
      obtain ⟨c1, hel⟩ := HJ.out k wr hJk
      obtain ⟨b, o, rfl, q0, q1, q2, q3, q4⟩ := hel i p hp
      obtain ⟨fn, tmps, assign, body, hy, hR⟩ := HY.out k wr hJk i p hp hi
      have HR := Lib.hid hR
      have him : i < m := by omega
      have hi0 : (0 : Int) ≤ (i : Int) := Int.natCast_nonneg _
      have hi1 : (i : Int) < (m : Int) := by omega
      rw [hii]
      unfold chgVal at hy
      clear hR hkm hk hJk hel
      gi_wp2
      refine HR.out.mono ?_
      rintro e W3 ⟨rfl, hJ3⟩
      gi_wp2
      go_roundw
      case rel => exact ⟨k + 1, by omega, by go_num, hJ3⟩
      case measure => simp [intOf]
/-- slices.Backward itself: the slice is boxed; the function holds the box. -/
theorem backward_any (A : Option Addr) (n c : Nat) (w : World) : Calls Tryz.prog 66 #[.slice A n c] w fun e w' => e = .returned (.func (.func 101) #[] #[.pointer (some ⟨w.heap.size, 0, none⟩)]) ∧ w.alloc (.cells #[.slice A n c] 128) = w' := by
  go_enter Tryz.func66, Tryz.ntmps66
  go_wp2
  go_ret
  exact ⟨rfl, rfl⟩
end Go.Ju

/- 'order' of tables, and the library's two sorts. -/
import Derived.Test.YthdnjokioboehaaGreatDoorCollect
import Derived.Test.YthdnjokioboehaaGreatDoorShelf
import Derived.Lib.SlKeysI
import Derived.Sort.OwnSorted
import Derived.Sort.Walk0
namespace Go.Ju
open Go.RowKit
open Go.Proofs
open Go.ChangeMaps

def cmpS (a b : ByteArray) : Int := if Op.bytesLess a.toList b.toList = true then -1 else if (a.toList == b.toList) = true then 0 else 1
def orI (p q : Int) : Int := if p = 0 then q else p
def cmpK (a b : Key) : Int := orI (cmpS a.1 b.1) (cmpS a.2 b.2)

theorem cmpStr_any (x y : ByteArray) (w : World) : Calls Tryz.prog 84 #[.string x, .string y] w fun e w' => e = .returned (.int .i64 (cmpS x y)) ∧ w = w' := by
  have hn : ∀ (x : ByteArray) (w : World), Calls Tryz.prog 110 #[.string x] w fun e w' => e = .returned (.bool false) ∧ w = w' := by
    intro x w
    go_enter Tryz.func110, Tryz.ntmps110
    go_wp2
    go_ret
    exact ⟨by simp, rfl⟩
  have HN := Lib.hid hn
  clear hn
  cases h1 : Op.bytesLess x.toList y.toList with
  | true =>
    have HC : Hid (cmpS x y = -1) := by unfold Hid; simp [cmpS, h1]
    go_enter Tryz.func84, Tryz.ntmps84
    go_wp2_with (go_at_call 110; refine (HN.out _ _).mono ?_; rintro e w2 ⟨rfl, rfl⟩)
    go_ret
    exact ⟨by rw [HC.out]; rfl, rfl⟩
  | false =>
    cases h2 : (x.toList == y.toList) with
    | true =>
      have HC : Hid (cmpS x y = 0) := by unfold Hid; simp [cmpS, h1, h2]
      go_enter Tryz.func84, Tryz.ntmps84
      go_wp2_with (go_at_call 110; refine (HN.out _ _).mono ?_; rintro e w2 ⟨rfl, rfl⟩)
      go_ret
      exact ⟨by rw [HC.out]; rfl, rfl⟩
    | false =>
      have HC : Hid (cmpS x y = 1) := by unfold Hid; simp [cmpS, h1, h2]
      go_enter Tryz.func84, Tryz.ntmps84
      go_wp2_with (go_at_call 110; refine (HN.out _ _).mono ?_; rintro e w2 ⟨rfl, rfl⟩)
      go_ret
      exact ⟨by rw [HC.out]; rfl, rfl⟩

theorem or_any (b : Nat) (p q : Int) (w : World) (c0 : w.cell? ⟨b, 0, none⟩ = some (.int .i64 p)) (c1 : w.cell? ⟨b, 1, none⟩ = some (.int .i64 q)) :
    Calls Tryz.prog 83 #[.slice (some ⟨b, 0, none⟩) 2 2] w fun e w' => e = .returned (.int .i64 (orI p q)) ∧ w = w' := by
  by_cases hp : p = 0
  · have HC : Hid (orI p q = q) := by unfold Hid; simp [orI, hp]
    subst hp
    go_enter Tryz.func83, Tryz.ntmps83
    go_wp2
    refine wp_loop_rounds 3 ?_
    rw [rounds_succ]
    go_wp2
    rw [rounds_succ]
    by_cases hq : q = 0
    · subst hq
      go_wp2
      rw [rounds_succ]
      go_wp2
      go_ret
      exact ⟨by rw [HC.out]; rfl, rfl⟩
    · have hqb : (q == 0) = false := by simpa using hq
      have hqn : (q != 0) = true := by simpa using hq
      go_wp2
      go_ret
      exact ⟨by rw [HC.out]; rfl, rfl⟩
  · have HC : Hid (orI p q = p) := by unfold Hid; simp [orI, hp]
    have hqb : (p == 0) = false := by simpa using hp
    have hqn : (p != 0) = true := by simpa using hp
    go_enter Tryz.func83, Tryz.ntmps83
    go_wp2
    refine wp_loop_rounds 1 ?_
    rw [rounds_succ]
    go_wp2
    go_ret
    exact ⟨by rw [HC.out]; rfl, rfl⟩

set_option maxRecDepth 100000 in
theorem order_any (a b : Key) (w : World) : Calls Tryz.prog 45 #[encK a, encK b] w fun e w' => e = .returned (.int .i64 (cmpK a b)) ∧ ∃ q os', w' = Go.Sort.grow (w.drewN q) os' := by
  have HC : Hid (cmpK a b = orI (cmpS a.1 b.1) (cmpS a.2 b.2)) := rfl
  unfold encK
  go_enter Tryz.func45, Tryz.ntmps45
  go_wp2
  refine World.abs (fun u => (∃ os', u = Go.Sort.grow w os') ∧ (u.cell? ⟨w.heap.size, 0, none⟩ = some (.string a.1) ∧ u.cell? ⟨w.heap.size, 1, none⟩ = some (.string a.2)) ∧ (u.cell? ⟨w.heap.size + 1, 0, none⟩ = some (.string b.1) ∧ u.cell? ⟨w.heap.size + 1, 1, none⟩ = some (.string b.2)) ∧ w.heap.size + 1 < u.heap.size) ?_ ?_
  · refine ⟨⟨_, by rw [Go.Sort.alloc_eq_grow, Go.Sort.alloc_eq_grow, Go.Sort.grow_grow]⟩, ⟨?_, ?_⟩, ⟨?_, ?_⟩, by simp⟩
    all_goals simp
  rintro u ⟨⟨os0, hb⟩, ⟨e1, e2⟩, ⟨e3, e4⟩, hlt⟩
  generalize hka : w.heap.size = ka at *
  generalize hkb : ka + 1 = kb at *
  have HB := Lib.hid (And.intro hb hlt)
  have hlt1 : ka < u.heap.size := by omega
  clear hb hkb
  refine wp_region_still_tail 10 (by kernel_rfl) (by kernel_rfl) ?_
  change wpStill _ _ u.drew (fun a' => wpList _ _ _ _ a' u.drew) _ _
  simp only [List.take_succ_cons, List.take_zero, List.drop_succ_cons, List.drop_zero]
  iterate 4 still_step
  still_call ((cmpStr_any a.1 b.1 _).mono fun e w' h => ⟨h.1, h.2.symm⟩)
  iterate 4 still_step
  still_call ((cmpStr_any a.2 b.2 _).mono fun e w' h => ⟨h.1, h.2.symm⟩)
  refine wpStill_nil ?_
  generalize cmpS a.1 b.1 = p at *
  generalize cmpS a.2 b.2 = q at *
  have HO := Lib.hid (fun bb W c0 c1 => or_any bb p q W c0 c1)
  go_wp2_with (go_at_call 83; refine (HO.out _ _ (by simp) (by simp)).mono ?_; rintro e w2 ⟨rfl, rfl⟩)
  go_ret
  refine ⟨by rw [HC.out]; rfl, ?_⟩
  refine ⟨1, os0 ++ #[.cells #[.int .i64 p, .int .i64 q] 3], ?_⟩
  rw [← Go.Sort.grow_grow, Go.Sort.alloc_eq_grow, HB.out.1]
  rfl
theorem order_below (a b : Key) (w : World) : Calls Tryz.prog 45 #[encK a, encK b] w fun e w' => e = .returned (.int .i64 (cmpK a b)) ∧ Below w.heap.size w w' :=
  (order_any a b w).mono fun e w' ⟨h1, q, os', h2⟩ => ⟨h1, by rw [h2]; exact (Below.of_drewN _ w q).trans (by
    refine ⟨rfl, rfl, rfl, by simp [Go.Sort.grow], fun k hk => ?_⟩
    simp only [Go.Sort.grow]
    rw [Array.getElem?_append_left (by simpa using hk)])⟩
end Go.Ju

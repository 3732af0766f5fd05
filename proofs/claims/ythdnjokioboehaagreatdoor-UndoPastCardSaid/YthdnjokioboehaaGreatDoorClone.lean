/- Clones of slices. -/
import Derived.Test.YthdnjokioboehaaGreatDoorVal
namespace Go.Ju
open Go.RowKit
open Go.Proofs

/-- G' knows all that G knows. -/
def Sub (G G' : Gh) : Prop := ∀ b o, G b = some o → G' b = some o
theorem Sub.refl (G : Gh) : Sub G G := fun _ _ h => h
theorem Sub.trans {G G' G'' : Gh} (h : Sub G G') (k : Sub G' G'') : Sub G G'' := fun b o hb => k b o (h b o hb)
theorem Sub.put_new {G : Gh} {w : World} (hG : Holds G w) (o : Obj) : Sub G (G.put w.heap.size o) := fun _ _ hb => Gh.put_some G hb (hG.ne_size hb)
theorem Appended.sub {G G' : Gh} {w w' : World} {e size n : Nat} {v v' : Value} {ys : List Value} (h : Appended G w e size v n ys v' G' w') (hG : Holds G w) (hv : ∀ g o, v.ownBlock = some g → G g = some o → False) : Sub G G' := fun b o hb => by
  rw [h.2.2.1 b (fun e => hv b o e.symm hb) (hG.ne_size hb)]
  exact hb

/-- A call that makes new blocks, of which all is known that is handed back, and turns nothing old. -/
def Makes (w : World) (R : Value → Gh → Prop) (e : Ending) (w' : World) : Prop := ∃ v Gr, e = .returned v ∧ Below w.heap.size w w' ∧ Holds Gr w' ∧ (∀ b, Gr b ≠ none → w.heap.size ≤ b) ∧ R v Gr
def newPart (n : Nat) (G : Gh) : Gh := fun b => if n ≤ b then G b else none
theorem newPart_at {n b : Nat} (G : Gh) (h : n ≤ b) : newPart n G b = G b := by simp [newPart, h]
theorem newPart_ge {n b : Nat} {G : Gh} (h : newPart n G b ≠ none) : n ≤ b := by
  unfold newPart at h
  split at h
  · assumption
  · exact absurd rfl h
theorem Holds.newPart {G : Gh} {w : World} (h : Holds G w) (n : Nat) : Holds (newPart n G) w := fun b o hb => by
  rw [newPart_at _ (newPart_ge (by rw [hb]; simp))] at hb
  exact h b o hb
theorem Ev.below_sub {G G' : Gh} {w w' : World} (h : Ev G w G' w') (hG : Holds G w) (hs : Sub G G') : Below w.heap.size w w' :=
  ⟨h.os, h.tape, h.output, h.size, fun b hb => by
    cases hg : G b with
    | none => exact h.keep b hb hg
    | some o => rw [hG b o hg, h.holds b o (hs b o hg)]⟩

theorem cell_ok_val (v : Val) : ∀ u ∈ v.cells, u.oneCell' = true := by
  intro u hu
  simp only [Val.cells, List.mem_cons, List.not_mem_nil, or_false] at hu
  rcases hu with rfl | rfl | rfl <;> rfl
theorem cell_ok_row (l : List Val) : ∀ u ∈ rowCells l, u.oneCell' = true := by
  intro u hu
  obtain ⟨v, _, h⟩ := List.mem_flatMap.1 hu
  exact cell_ok_val v u h

theorem Tryz.infoVal : (Tryz.prog.info? 82).map (fun i => (i.zero, i.size, i.bytes)) = some (some (.agg #[.int .i64 0, .int .i64 0, .string ⟨#[]⟩]), 3, 32) := by kernel_rfl
theorem Tryz.infoVer : (Tryz.prog.info? 98).map (fun i => (i.zero, i.size, i.bytes)) = some (some (.agg #[.int .i64 0, .bool false, .slice none 0 0]), 3, 40) := by kernel_rfl

/-- slices.Clone at rows' values: from wherever the cells lie. -/
theorem slClone_any (G : Gh) (A : Option Addr) (n c : Nat) (xs : List Value) (w : World) (hG : Holds G w) (hs : Span G A xs) (hx : xs.length = n * 3) (h1 : ∀ u ∈ xs, u.oneCell' = true) (hA : A = none → n = 0) (hl : n * 32 ≤ 140737488355328) :
    Calls Tryz.prog 79 #[.slice A n c] w (Makes w fun v Gr => Own Gr 82 3 v n xs) := by
  cases A with
  | none =>
    obtain rfl := hA rfl
    have hx0 : xs = [] := List.eq_nil_of_length_eq_zero (by simpa using hx)
    have hq := fun (w : World) => Lib.run_eql_slice_nil (P := Tryz.prog) w 41 82 none 0 c 0 0 Tryz.underlying41
    clear hG hs
    go_enter Tryz.func79, Tryz.ntmps79
    go_wp2
    go_ret
    subst hx0
    exact ⟨_, Gh.nil, rfl, Below.refl _ _, Holds.nil _, fun b h => absurd rfl h, Own.nil _ _ _⟩
  | some a =>
    have hq := fun (w : World) => Lib.run_eql_slice_nil (P := Tryz.prog) w 41 82 (some a) n c 0 0 Tryz.underlying41
    obtain ⟨i0, hi, hz0, hz1, hz2⟩ := info_parts Tryz.infoVal
    have hev := (Ev.refl hG).alloc (.cells #[] 82)
    have hsub := Sub.put_new hG (.cells #[] 82)
    have hown : Own (G.put w.heap.size (.cells #[] 82)) 82 3 (.slice (some ⟨w.heap.size, 0, none⟩) 0 0) 0 [] :=
      ⟨rfl, .inr ⟨w.heap.size, 0, #[], rfl, Gh.put_same _ _ _, Nat.le_refl _, by unfold maxLen; omega, rfl, rfl⟩⟩
    have hs1 := hs.sub hsub
    have HL := Lib.hid hl
    have H1 := Lib.hid h1
    have HX := Lib.hid hx
    clear hl h1 hx
    go_enter Tryz.func79, Tryz.ntmps79
    go_wp2_with (at_builtin; refine wpList_append_ev rfl _ _ 41 rfl hev.holds 82 i0 _ 3 32 Tryz.underlying41 hi hz0 hz1 hz2 rfl (by decide) _ 0 [] rfl hown (some a) n c xs rfl HX.out hs1 (by simp) H1.out (by unfold maxLen; have := HL.out; omega) (by have := HL.out; omega) ?_; intro v' G' w1 happ)
    go_ret
    have hsub2 : Sub G G' := by
      intro b o hb
      have hb' := hG.lt hb
      have q1 : some b ≠ (Value.slice (some ⟨w.heap.size, 0, none⟩) 0 0).ownBlock := fun e => by
        injection e with e
        change b = w.heap.size at e
        omega
      have q2 : b ≠ (w.alloc (.cells #[] 82)).heap.size := by rw [World.size_alloc]; omega
      rw [happ.2.2.1 b q1 q2, Gh.put_other _ _ (by omega)]
      exact hb
    have hfin := hev.trans happ.1
    refine ⟨v', newPart w.heap.size G', rfl, hfin.below_sub hG hsub2, hfin.holds.newPart _, fun b hb => newPart_ge hb, ?_⟩
    have ho : Own G' 82 3 v' n xs := by simpa using happ.2.1
    refine ho.keep fun b o hb hg => ?_
    rw [newPart_at _ ?_]
    · exact hg
    · rcases happ.2.2.2.1 with e | e
      · rw [hb] at e
        injection e with e
        change b = w.heap.size at e
        omega
      · rw [hb] at e
        injection e with e
        rw [World.size_alloc] at e
        omega
/-- slices.Clone at versions. -/
theorem vsClone_any (G : Gh) (A : Option Addr) (n c : Nat) (xs : List Value) (w : World) (hG : Holds G w) (hs : Span G A xs) (hx : xs.length = n * 3) (h1 : ∀ u ∈ xs, u.oneCell' = true) (hA : A = none → n = 0) (hl : n * 40 ≤ 140737488355328) :
    Calls Tryz.prog 102 #[.slice A n c] w (Makes w fun v Gr => Own Gr 98 3 v n xs) := by
  cases A with
  | none =>
    obtain rfl := hA rfl
    have hx0 : xs = [] := List.eq_nil_of_length_eq_zero (by simpa using hx)
    have hq := fun (w : World) => Lib.run_eql_slice_nil (P := Tryz.prog) w 99 98 none 0 c 0 0 Tryz.underlying99
    clear hG hs
    go_enter Tryz.func102, Tryz.ntmps102
    go_wp2
    go_ret
    subst hx0
    exact ⟨_, Gh.nil, rfl, Below.refl _ _, Holds.nil _, fun b h => absurd rfl h, Own.nil _ _ _⟩
  | some a =>
    have hq := fun (w : World) => Lib.run_eql_slice_nil (P := Tryz.prog) w 99 98 (some a) n c 0 0 Tryz.underlying99
    obtain ⟨i0, hi, hz0, hz1, hz2⟩ := info_parts Tryz.infoVer
    have hev := (Ev.refl hG).alloc (.cells #[] 98)
    have hsub := Sub.put_new hG (.cells #[] 98)
    have hown : Own (G.put w.heap.size (.cells #[] 98)) 98 3 (.slice (some ⟨w.heap.size, 0, none⟩) 0 0) 0 [] :=
      ⟨rfl, .inr ⟨w.heap.size, 0, #[], rfl, Gh.put_same _ _ _, Nat.le_refl _, by unfold maxLen; omega, rfl, rfl⟩⟩
    have hs1 := hs.sub hsub
    have HL := Lib.hid hl
    have H1 := Lib.hid h1
    have HX := Lib.hid hx
    clear hl h1 hx
    go_enter Tryz.func102, Tryz.ntmps102
    go_wp2_with (at_builtin; refine wpList_append_ev rfl _ _ 99 rfl hev.holds 98 i0 _ 3 40 Tryz.underlying99 hi hz0 hz1 hz2 rfl (by decide) _ 0 [] rfl hown (some a) n c xs rfl HX.out hs1 (by simp) H1.out (by unfold maxLen; have := HL.out; omega) (by have := HL.out; omega) ?_; intro v' G' w1 happ)
    go_ret
    have hsub2 : Sub G G' := by
      intro b o hb
      have hb' := hG.lt hb
      have q1 : some b ≠ (Value.slice (some ⟨w.heap.size, 0, none⟩) 0 0).ownBlock := fun e => by
        injection e with e
        change b = w.heap.size at e
        omega
      have q2 : b ≠ (w.alloc (.cells #[] 98)).heap.size := by rw [World.size_alloc]; omega
      rw [happ.2.2.1 b q1 q2, Gh.put_other _ _ (by omega)]
      exact hb
    have hfin := hev.trans happ.1
    refine ⟨v', newPart w.heap.size G', rfl, hfin.below_sub hG hsub2, hfin.holds.newPart _, fun b hb => newPart_ge hb, ?_⟩
    have ho : Own G' 98 3 v' n xs := by simpa using happ.2.1
    refine ho.keep fun b o hb hg => ?_
    rw [newPart_at _ ?_]
    · exact hg
    · rcases happ.2.2.2.1 with e | e
      · rw [hb] at e
        injection e with e
        change b = w.heap.size at e
        omega
      · rw [hb] at e
        injection e with e
        rw [World.size_alloc] at e
        omega

/-- valid.Clone. -/
theorem clone_any (G : Gh) (A : Option Addr) (l : List Val) (c : Nat) (w : World) (hG : Holds G w) (hs : Span G A (rowCells l)) (hA : A = none → l.length = 0) (hl : l.length * 32 ≤ 140737488355328) :
    Calls Tryz.prog 42 #[.slice A l.length c] w (Makes w fun v Gr => RowAt Gr v l) := by
  have H1 := Lib.hid (slClone_any G A l.length c (rowCells l) w hG hs (rowCells_len l) (cell_ok_row l) hA hl)
  clear hs hG hA
  go_enter Tryz.func42, Tryz.ntmps42
  go_wp2_with (go_at_call 79; refine H1.out.mono ?_; rintro e w1 ⟨v, Gr, rfl, hev, hho, hfr, hown⟩)
  go_ret
  obtain ⟨A', c', hv, hc, hsp⟩ := hown.form
  exact ⟨v, Gr, rfl, hev, hho, hfr, A', c', hv, hc, hsp⟩
end Go.Ju

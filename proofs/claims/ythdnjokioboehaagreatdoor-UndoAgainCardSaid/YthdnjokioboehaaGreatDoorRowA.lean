/- 'Row', 'Drop'. -/
import Derived.Test.YthdnjokioboehaaGreatDoorGet
namespace Go.Ju
open Go.RowKit
open Go.Proofs
open Go.ChangeMaps

def St.rowA (M : St) (k : Key) (time txn id : Int) : List Val × Int := if M.look k time txn ≠ 0 then ([], M.look k time txn) else match M.row k id with
  | none => ([], 4)
  | some r => if (r.at time txn).2 then match (r.at time txn).1 with
    | none => ([], 4)
    | some v => if v.gone then ([], 4) else (v.row, 0)
    else ([], 26)
theorem Makes.of_below {w w' : World} {R : Value → Gh → Prop} {v : Value} (hb : Below w.heap.size w w') (h : R v Gh.nil) : Makes w R (.returned v) w' := ⟨v, Gh.nil, rfl, hb, Holds.nil _, fun _ h => absurd rfl h, h⟩
theorem RowAt.nil (G : Gh) : RowAt G (.slice none 0 0) [] := ⟨none, 0, rfl, Nat.le_refl _, Span.nil _ _⟩

/-- What is read of a store, whatever has been made since. -/
structure Looks (y : Lay) (M : St) (k : Key) (t : Tab) (W : World) : Prop where
  tM : W.cell? ⟨y.p, 1, none⟩ = some (.map (some y.tM))
  look : (Instr.lookup 83 (.map (some y.tM)) (.agg #[.string k.1, .string k.2]) false).run Tryz.prog W = .ok (.pointer (some ⟨y.tb k, 0, none⟩)) W
  rM : W.cell? ⟨y.tb k, 0, none⟩ = some (.map (some (y.rM k)))
theorem Rep.looks {B : Nat} {g : Comp → Gh} {y : Lay} {M : St} {k : Key} {t : Tab} {W : World} (h : Rep y M g) (hF : Fam B g W) (ha : aget M.tabs k = some t) : Looks y M k t W := by
  have hl := h.lookT k (hF.holds .tM)
  rw [ha] at hl
  exact ⟨(h.cells hF).2.1, hl, (hF.holds (.tab k)).cell (h.tab k t (aget_mem ha)).1 rfl⟩

set_option maxRecDepth 100000 in
theorem rowA_any {B N : Nat} {g : Comp → Gh} {w : World} {y : Lay} {M : St} (hF : Fam B g w) (h : Rep y M g) (hfit : Fit N M) (k : Key) (time txn id : Int) (hi : okI id)
    (hlen : ∀ k t i r v, aget M.tabs k = some t → aget t.rows i = some r → v ∈ r.old ∨ r.opn = some v → v.row.length * 32 ≤ 140737488355328) :
    Calls Tryz.prog 50 #[ptr y.p, .string k.1, .string k.2, .int .i64 time, .int .i64 txn, encI id] w (Makes w fun v Gr => ∃ rv, v = .tuple #[rv, .int .i64 (M.rowA k time txn id).2] ∧ RowAt Gr rv (M.rowA k time txn id).1) := by
  have HLook := Lib.hid (look_any hF h k time txn)
  have HF := Lib.hid (fun W (hW : Below w.heap.size w W) => ((FEv.refl hF).of_below hW).fam)
  by_cases hlk : M.look k time txn = 0
  · rw [hlk] at HLook
    cases ha : aget M.tabs k with
    | none =>
      have HM : Hid (M.rowA k time txn id = ([], 4)) := by unfold Hid; simp [St.rowA, hlk, St.row, ha]
      have HL := Lib.hid (fun W (hW : Below w.heap.size w W) => And.intro (h.cells (HF.out W hW)).2.1 (h.lookT k ((HF.out W hW).holds .tM)))
      rw [ha] at HL
      clear hF h hfit ha hlk hlen
      unfold ptr encI encK at *
      go_enter Tryz.func50, Tryz.ntmps50
      go_wp2_with fail
      refine HLook.out.mono ?_
      rintro e w1 ⟨rfl, hb1⟩
      obtain ⟨c1, l1⟩ := HL.out w1 hb1
      go_wp2
      go_ret2
      exact Makes.of_below hb1 ⟨_, by rw [HM.out]; rfl, by rw [HM.out]; exact RowAt.nil _⟩
    | some t =>
      cases hr : aget t.rows id with
      | none =>
        have HM : Hid (M.rowA k time txn id = ([], 4)) := by unfold Hid; simp [St.rowA, hlk, St.row, ha, hr]
        have HL := Lib.hid (fun W (hW : Below w.heap.size w W) => And.intro (h.looks (HF.out W hW) ha) (h.lookR (aget_mem ha) hi ((HF.out W hW).holds (.tab k))))
        rw [hr] at HL
        clear hF h hfit ha hlk hlen hr hi
        unfold ptr encI at *
        go_enter Tryz.func50, Tryz.ntmps50
        go_wp2_with fail
        refine HLook.out.mono ?_
        rintro e w1 ⟨rfl, hb1⟩
        obtain ⟨⟨c1, l1, c2⟩, l2⟩ := HL.out w1 hb1
        go_wp2
        go_ret2
        exact Makes.of_below hb1 ⟨_, by rw [HM.out]; rfl, by rw [HM.out]; exact RowAt.nil _⟩
      | some r =>
        have hm : M.rowA k time txn id = if (r.at time txn).2 then (match (r.at time txn).1 with | none => (([], 4) : List Val × Int) | some v => if v.gone then ([], 4) else (v.row, 0)) else (([], 26) : List Val × Int) := by simp [St.rowA, hlk, St.row, ha, hr]
        have hat := fun W (hW : Below w.heap.size w W) => atV_any _ _ W _ r time txn ((HF.out W hW).holds _) ((HF.out W hW).holds .imm) (h.row k t (aget_mem ha) id r (aget_mem hr)) (by have := hfit.old k t (aget_mem ha) id r (aget_mem hr); omega)
        have HL := Lib.hid (fun W (hW : Below w.heap.size w W) => And.intro (h.looks (HF.out W hW) ha) (And.intro (h.lookR (aget_mem ha) hi ((HF.out W hW).holds (.tab k))) (hat W hW)))
        rw [hr] at HL
        have hlv : ∀ v, (r.at time txn).1 = some v → v.row.length * 32 ≤ 140737488355328 := fun v hv => by
          refine hlen k t id r v ha hr ?_
          unfold RowS.at at hv
          split at hv
          · exact .inr hv
          · split at hv
            · rename_i x hx
              cases hv
              unfold RowS.seenOld at hx
              exact .inl (List.mem_reverse.1 (List.mem_of_find?_eq_some hx))
            · cases hv
        have HLv := Lib.hid hlv
        have HI := Lib.hid (fun W (hW : Below w.heap.size w W) => (HF.out W hW).holds .imm)
        clear hF h hfit ha hlk hlen hr hi hat hlv
        unfold ptr encI at *
        go_enter Tryz.func50, Tryz.ntmps50
        go_wp2_with fail
        refine HLook.out.mono ?_
        rintro e w1 ⟨rfl, hb1⟩
        obtain ⟨⟨c1, l1, c2⟩, l2, v0, ⟨pv, rfl, hpv⟩, hq⟩ := HL.out w1 hb1
        have HQ := Lib.hid hq
        clear hq
        cases hok : (r.at time txn).2 with
        | false =>
          rw [hok] at hm HQ
          have HM : Hid (M.rowA k time txn id = ([], 26)) := hm
          clear hm hpv
          unfold ptr at *
          go_wp2_with (go_at_call 87; refine HQ.out.at.mono ?_; rintro e w2 ⟨rfl, m, rfl⟩)
          go_ret2
          exact Makes.of_below (hb1.trans (Below.of_drewN _ _ _)) ⟨_, by rw [HM.out]; rfl, by rw [HM.out]; exact RowAt.nil _⟩
        | true =>
          rw [hok] at hm HQ
          have HTh := Lib.hid (fun n => there_any _ (w1.drewN n) _ _ (hpv.drewN n))
          cases hv : (r.at time txn).1 with
          | none =>
            rw [hv] at hm HTh
            have HM : Hid (M.rowA k time txn id = ([], 4)) := hm
            clear hm hpv
            unfold ptr there at *
            go_wp2_with (first | (go_at_call 87; refine HQ.out.at.mono ?_; rintro e w2 ⟨rfl, m, rfl⟩) | (go_at_call 88; refine (HTh.out _).mono ?_; rintro e w3 ⟨rfl, rfl⟩))
            go_ret2
            exact Makes.of_below (hb1.trans (Below.of_drewN _ _ _)) ⟨_, by rw [HM.out]; rfl, by rw [HM.out]; exact RowAt.nil _⟩
          | some v =>
            rw [hv] at hm HTh hpv
            have hlv := HLv.out v hv
            cases hg : v.gone with
            | true =>
              simp only [there, hg] at hm HTh
              have HM : Hid (M.rowA k time txn id = ([], 4)) := hm
              clear hm hpv
              unfold ptr at *
              go_wp2_with (first | (go_at_call 87; refine HQ.out.at.mono ?_; rintro e w2 ⟨rfl, m, rfl⟩) | (go_at_call 88; refine (HTh.out _).mono ?_; rintro e w3 ⟨rfl, rfl⟩))
              go_ret2
              exact Makes.of_below (hb1.trans (Below.of_drewN _ _ _)) ⟨_, by rw [HM.out]; rfl, by rw [HM.out]; exact RowAt.nil _⟩
            | false =>
              simp only [there, hg] at hm HTh
              have HM : Hid (M.rowA k time txn id = (v.row, 0)) := hm
              obtain ⟨vb, vo, rv, rfl, hvb, _, _, hcell, hrow⟩ := hpv
              have HCl := Lib.hid (fun n => (hrow.arg ((HI.out w1 hb1).drewN n) hlv).clone)
              clear hm hrow hlv
              unfold ptr at *
              go_wp2_with (first | (go_at_call 87; refine HQ.out.at.mono ?_; rintro e w2 ⟨rfl, m, rfl⟩) | (go_at_call 88; refine (HTh.out _).mono ?_; rintro e w3 ⟨rfl, rfl⟩))
              refine (HCl.out _).mono ?_
              rintro e w4 ⟨rv4, Gr, rfl, hb4, hh4, hf4, hrow4⟩
              go_wp2
              go_ret2
              refine ⟨_, Gr, rfl, hb1.trans ((Below.of_drewN _ _ m).trans (hb4.mono hb1.size)), hh4, fun b hb => Nat.le_trans hb1.size (hf4 b hb), _, by rw [HM.out]; rfl, by rw [HM.out]; exact hrow4⟩
  · have HM : Hid (M.rowA k time txn id = ([], M.look k time txn)) := by unfold Hid; simp [St.rowA, hlk]
    have hne : (M.look k time txn == 0) = false := by simpa using hlk
    generalize M.look k time txn = lk at *
    clear hF h hfit hlk hlen
    unfold ptr encI at *
    go_enter Tryz.func50, Tryz.ntmps50
    go_wp2_with (go_at_call 64; refine HLook.out.mono ?_; rintro e w1 ⟨rfl, hb1⟩)
    go_ret2
    exact Makes.of_below hb1 ⟨_, by rw [HM.out]; rfl, by rw [HM.out]; exact RowAt.nil _⟩
end Go.Ju

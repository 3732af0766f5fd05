/- 'touched'. -/
import Derived.Test.YthdnjokioboehaaGreatDoorAbort
import Derived.LoopN
namespace Go.Ju
open Go.RowKit
open Go.Proofs
open Go.ChangeMaps

section
variable {κ β : Type} [DecidableEq κ] {P : Program} {kt t e : TypeId} {enc : κ → Value} {ok : κ → Prop} {Wd : World → Prop} {G : Gh} {m : Nat} {L : List (κ × β)} {f : κ × β → Value}
/-- 'MapAt.update' where the keys' law asks something of the world. -/
theorem MapAt.updateW (K : KL P kt enc ok Wd) (ht : P.underlying t = some (.map kt e)) {W : World} (hw : Wd W) (hG : Holds G W) (h : MapAt G m enc ok (L.map fun p => (p.1, f p))) {k : κ} (hk : ok k) (b : β) :
    ∃ x, (Instr.mapUpdate t (.map (some m)) (enc k) (f (k, b))).run P W = .ok () (setBlock W m x) ∧ Ev G W (G.put m x) (setBlock W m x) ∧ MapAt (G.put m x) m enc ok ((aput L k b).map fun p => (p.1, f p)) := by
  obtain ⟨es, clk, hm, hmap⟩ := h
  by_cases hin : k ∈ L.map Prod.fst
  · obtain ⟨p, hp, rfl⟩ := List.mem_map.1 hin
    obtain ⟨es', hrun, hmap'⟩ := run_update_old K ht (w := W) hw (hG m _ hm) hmap hk (List.mem_map_of_mem (f := fun p => (p.1, f p)) hp) (f (p.1, b))
    refine ⟨.map es' clk, hrun W hw (hG m _ hm), (Ev.refl hG).setBlock hm _, es', clk, Gh.put_same _ _ _, ?_⟩
    have : ((aput L p.1 b).map fun q => (q.1, f q)) = (L.map fun q => (q.1, f q)).map fun q => if q.1 = p.1 then (p.1, f (p.1, b)) else q := by
      unfold aput
      rw [if_pos hin, List.map_map, List.map_map]
      apply List.map_congr_left
      intro q _
      simp only [Function.comp]
      by_cases e : q.1 = p.1
      · simp [e]
      · simp [e]
    rw [this]
    exact hmap'
  · obtain ⟨es', hrun, hmap'⟩ := run_update_new K ht (w := W) hw (hG m _ hm) hmap hk (by rw [keys_map]; exact hin) (f (k, b))
    refine ⟨.map es' (clk + 1), hrun W hw (hG m _ hm), (Ev.refl hG).setBlock hm _, es', clk + 1, Gh.put_same _ _ _, ?_⟩
    have : ((aput L k b).map fun q => (q.1, f q)) = (L.map fun q => (q.1, f q)) ++ [(k, f (k, b))] := by
      unfold aput
      rw [if_neg hin, List.map_append]
      rfl
    rw [this]
    exact hmap'.congr (List.perm_append_singleton _ _).symm
end

/-- What a caller holds beside the store, and made itself, turns. -/
theorem FEv.own {B : Nat} {g g' : Comp → Gh} {G G' : Gh} {w w1 w2 : World} (h : FEv B g w g' w1) (hb : Beside g' G w1) (he : Ev G w1 G' w2) (hn : ∀ b, G b ≠ none → w.heap.size ≤ b) : FEv B g w g' w2 ∧ Beside g' G' w2 := by
  refine ⟨⟨⟨fun c => he.frame (h.fam.holds c) (hb.apart c).symm, h.fam.apart, h.fam.base, Nat.le_trans h.fam.le he.size⟩, he.os.trans h.os, he.tape.trans h.tape, he.output.trans h.output, Nat.le_trans h.size he.size, fun k hk hg => ?_, h.fresh⟩, he.holds, fun c => (he.apart (h.fam.holds c) (hb.apart c).symm).symm⟩
  rw [he.keep k (Nat.lt_of_lt_of_le hk h.size) ?_]
  · exact h.keep k hk hg
  · cases hc : G k with
    | none => rfl
    | some o => have := hn k (by rw [hc]; simp); omega
/-- A ghost part that lies from a block on. -/
def From (n : Nat) (G : Gh) : Prop := ∀ b, G b ≠ none → n ≤ b
theorem From.put {n : Nat} {G : Gh} (h : From n G) {b : Nat} (hb : n ≤ b) (o : Obj) : From n (G.put b o) := fun k hk => by
  by_cases e : k = b
  · subst e; exact hb
  · rw [Gh.put_other _ _ e] at hk; exact h k hk
/-- Does a change touch a row that is open? -/
def tch (M : St) (c : Chg) : Bool := decide (c.drops = M.dr c.key) && match M.row c.key c.id with | none => false | some r => r.opn.isSome
/-- The rows that a log touches, by their addresses, each with the last change. -/
def tents (y : Lay) (M : St) (L : List (Chg × Value)) : List (Nat × (Chg × Value)) := L.foldl (fun E p => if tch M p.1 then aput E (y.rb p.1.key p.1.id) p else E) []
theorem tents_snoc (y : Lay) (M : St) (L : List (Chg × Value)) (p : Chg × Value) : tents y M (L ++ [p]) = if tch M p.1 then aput (tents y M L) (y.rb p.1.key p.1.id) p else tents y M L := by simp [tents]
/-- The addresses of a store's rows. -/
def RowB (y : Lay) (M : St) (b : Nat) : Prop := ∃ k t i r, aget M.tabs k = some t ∧ aget t.rows i = some r ∧ y.rb k i = b
theorem Rep.rowB {B : Nat} {g : Comp → Gh} {y : Lay} {M : St} {W : World} (h : Rep y M g) (hF : Fam B g W) : ∀ b, RowB y M b → ∃ cs t, W.heap[b]? = some (.cells cs t (0, 0)) := by
  rintro b ⟨k, t, i, r, ht, hr, rfl⟩
  obtain ⟨sv, op, h1, _⟩ := h.row k t (aget_mem ht) i r (aget_mem hr)
  exact ⟨_, _, hF.holds _ _ _ h1⟩
def TMap (y : Lay) (M : St) (GM : Gh) (bo : Nat) (E : List (Nat × (Chg × Value))) : Prop := MapAt GM bo ptr (RowB y M) (E.map fun e => (e.1, chgVal e.2.1 e.2.2))

set_option maxRecDepth 100000 in
set_option maxHeartbeats 1000000 in
theorem touched_any (B N : Nat) (g : Comp → Gh) (w : World) (y : Lay) (M : St) (txn : Int) (hF : Fam B g w) (h : Rep y M g) (hfit : Fit N M) (hN : N ≤ 1000000) (hx : okI txn)
    (htab : ∀ c ∈ M.lg txn, c.drops = M.dr c.key → ∃ t, aget M.tabs c.key = some t) (hid : ∀ c ∈ M.lg txn, okI c.id) :
    Calls Tryz.prog 68 #[ptr y.p, encI txn] w fun e w' => ∃ bo L GM, e = .returned (.map (some bo)) ∧ FEv B g w g w' ∧ L.map Prod.fst = M.lg txn ∧ (∀ p ∈ L, OpnAt (g .imm) p.2 p.1.before) ∧ Beside g GM w' ∧ TMap y M GM bo (tents y M L) ∧ From w.heap.size GM := by
  obtain ⟨lgv, ⟨css, hall, hown⟩, hlk⟩ := h.logAt hx
  obtain ⟨L, hL1, rfl, hL3⟩ := all2_chgs hall
  obtain ⟨A, cp, rfl, _, _⟩ := hown.form
  have hlen : L.length = (M.lg txn).length := by rw [← hL1, List.length_map]
  have hmm := @run_makeMap Tryz.prog
  have HE := Lib.hid (FEv.refl hF)
  have HX := Lib.hid (And.intro h (And.intro hfit (And.intro hN (And.intro htab (And.intro hid (And.intro hown (And.intro hL1 hL3)))))))
  have HLk := Lib.hid hlk
  obtain ⟨_, _, _, c3⟩ := h.cells ((FEv.refl hF).more (.map #[] 0)).fam
  have f1 := hlk (w.alloc (.map #[] 0)) ((hF.holds .lM).more _)
  clear hF h hfit htab hid hown hL1 hL3 hall hlk hx
  unfold encI ptr at *
  go_enter Tryz.func68, Tryz.ntmps68
  go_wp2
  have HI0 : FEv B g w g (w.alloc (.map #[] 0)) ∧ Beside g (Gh.nil.put w.heap.size (.map #[] 0)) (w.alloc (.map #[] 0)) ∧ TMap y M (Gh.nil.put w.heap.size (.map #[] 0)) w.heap.size (tents y M []) ∧ From w.heap.size (Gh.nil.put w.heap.size (.map #[] 0)) := ⟨HE.out.more _, Beside.new HE.out.fam _, ⟨#[], 0, Gh.put_same _ _ _, MapOf.empty _⟩, From.put (fun _ h => absurd rfl h) (Nat.le_refl _) _⟩
  have hlenN : (M.lg txn).length ≤ 1000000 := by have := HX.out.2.1.lg txn; have := HX.out.2.2.1; omega
  generalize hbow : w.heap.size = bo at *
  generalize hnn : (M.lg txn).length = n at *
  have HI := Lib.hid HI0
  clear HI0 f1 hlen
  go_loopw [17] (fun i wr => ∃ k : Nat, k ≤ n ∧ i = .int .i64 k ∧ ∃ GM, FEv B g w g wr ∧ Beside g GM wr ∧ TMap y M GM bo (tents y M (L.take k)) ∧ From bo GM) (fun i _ => n - (intOf i).toNat)
  case atStart => exact ⟨0, Nat.zero_le _, by simp, _, HI.out⟩
  case round =>
    obtain ⟨k, hk, rfl, GM, hu, hbk, htm, hfr⟩ := hrel
    have hk0 : (0 : Int) ≤ (k : Int) := Int.natCast_nonneg _
    have hLlen : L.length = n := by rw [← hnn, ← HX.out.2.2.2.2.2.2.1, List.length_map]
    clear HI
    by_cases hkn : k = n
    · subst hkn
      go_wp2
      go_ret
      refine ⟨bo, L, GM, rfl, hu, HX.out.2.2.2.2.2.2.1, HX.out.2.2.2.2.2.2.2, hbk, ?_⟩
      rw [List.take_of_length_le (by omega)] at htm
      exact ⟨htm, by rw [hbow]; exact hfr⟩
    · obtain ⟨p, hp⟩ : ∃ p, L[k]? = some p := ⟨L[k]'(by omega), List.getElem?_eq_getElem _⟩
      have hklt : k < n := by omega
      have hk1 : (k : Int) < (n : Int) := by omega
      obtain ⟨b, rfl, q0, q1, q2, q3, q4⟩ := elem_at HX.out.2.2.2.2.2.1 (hu.fam.holds (.log txn)) hp
      have hpm : p ∈ L := List.mem_of_getElem? hp
      have hpl : p.1 ∈ M.lg txn := by rw [← HX.out.2.2.2.2.2.2.1]; exact List.mem_map_of_mem hpm
      obtain ⟨q, hq⟩ := (HX.out.2.2.2.2.2.2.2 p hpm).ptr
      have hsnoc : L.take (k + 1) = L.take k ++ [p] := by rw [List.take_add_one, hp]; rfl
      rw [hq] at q4
      rw [Nat.zero_add] at q0 q1 q2 q3 q4
      have HP := Lib.hid (And.intro hu (And.intro hbk (And.intro htm (And.intro hfr (And.intro hpl (And.intro hq hsnoc))))))
      clear hfr hsnoc hpl hq hp
      clear hu hbk htm hpm hkn hk
      go_wp2
      refine World.abs (fun u => ∃ GM, FEv B g w g u ∧ Beside g GM u ∧ TMap y M GM bo (tents y M (L.take k)) ∧ From bo GM ∧ GM wr.heap.size = some (.cells #[.string p.1.key.1, .string p.1.key.2, .int .i64 p.1.drops, .int .i64 p.1.id, .pointer q] 133 (0, 0))) ?_ ?_
      · obtain ⟨hu, hbk, htm, hfr, _⟩ := HP.out
        refine ⟨_, hu.more _, hbk.alloc _ hu, ?_, hfr.put (by rw [← hbow]; exact hu.size) _, Gh.put_same _ _ _⟩
        obtain ⟨es, clk, h1, h2⟩ := htm
        exact ⟨es, clk, Gh.put_some _ h1 (hbk.holds.ne_size h1), h2⟩
      clear q0 q1 q2 q3 q4
      rintro u ⟨GM2, hu, hbk, htm, hfr2, hbox⟩
      obtain ⟨_, _, _, _, hpl, hq, hsnoc⟩ := HP.out
      generalize wr.heap.size = kx at *
      have b0 : u.cell? ⟨kx, 0, none⟩ = some (.string p.1.key.1) := hbk.holds.cell hbox rfl
      have b1 : u.cell? ⟨kx, 1, none⟩ = some (.string p.1.key.2) := hbk.holds.cell hbox rfl
      have b2 : u.cell? ⟨kx, 2, none⟩ = some (.int .i64 p.1.drops) := hbk.holds.cell hbox rfl
      have b3 : u.cell? ⟨kx, 3, none⟩ = some (.int .i64 p.1.id) := hbk.holds.cell hbox rfl
      have b4 : u.cell? ⟨kx, 4, none⟩ = some (.pointer q) := hbk.holds.cell hbox rfl
      obtain ⟨d0, d1, d2, d3⟩ := HX.out.1.cells hu.fam
      have l1 := fun n => HX.out.1.lookD p.1.key (W := u.drewN n) (hu.fam.holds .dM)
      have HU := Lib.hid (And.intro hu (And.intro hbk (And.intro htm hfr2)))
      clear hfr2
      have HS := Lib.hid hsnoc
      unfold encK at l1
      by_cases hdd : p.1.drops = M.dr p.1.key
      · have hdb : (p.1.drops != M.dr p.1.key) = false := by simpa using hdd
        obtain ⟨t, ht⟩ := HX.out.2.2.2.1 p.1 hpl hdd
        have hid := HX.out.2.2.2.2.1 p.1 hpl
        have l2 := fun n => HX.out.1.lookT p.1.key (W := u.drewN n) (hu.fam.holds .tM)
        have l3 := fun n => HX.out.1.lookR (aget_mem ht) hid (W := u.drewN n) (hu.fam.holds (.tab p.1.key))
        have d4 : u.cell? ⟨y.tb p.1.key, 0, none⟩ = some (.map (some (y.rM p.1.key))) := (hu.fam.holds (.tab p.1.key)).cell (HX.out.1.tab p.1.key t (aget_mem ht)).1 rfl
        rw [ht] at l2
        cases hr : aget t.rows p.1.id with
        | none =>
          rw [hr] at l3
          have HT : Hid (tch M p.1 = false) := by unfold Hid; simp [tch, St.row, ht, hr]
          unfold encK encI ptr at *
          clear hdd hu hbk htm hbox hpl hsnoc hq ht hr hid
          go_quiet (fail)
          go_wp2
          go_quiet (fail)
          go_wp2
          go_roundw
          case rel => exact ⟨k + 1, by omega, by go_num, GM2, HU.out.1.drewN _, HU.out.2.1.drewN _, by rw [HS.out, tents_snoc, HT.out]; exact HU.out.2.2.1, HU.out.2.2.2⟩
          case measure => simp [intOf]; omega
        | some r =>
          rw [hr] at l3
          obtain ⟨sv, op, _, _, hop2, _, d6⟩ := HX.out.1.rowCells hu.fam ht hr
          cases ho : r.opn with
          | none =>
            rw [ho] at hop2
            obtain rfl : op = .pointer none := hop2
            have HT : Hid (tch M p.1 = false) := by unfold Hid; simp [tch, St.row, ht, hr, ho]
            unfold encK encI ptr at *
            clear hdd hu hbk htm hbox hpl hsnoc hq ht hr hid ho
            go_quiet (fail)
            go_wp2
            go_quiet (fail)
            go_wp2
            go_roundw
            case rel => exact ⟨k + 1, by omega, by go_num, GM2, HU.out.1.drewN _, HU.out.2.1.drewN _, by rw [HS.out, tents_snoc, HT.out]; exact HU.out.2.2.1, HU.out.2.2.2⟩
            case measure => simp [intOf]; omega
          | some v =>
            rw [ho] at hop2
            obtain ⟨vb, cs, rfl, _⟩ := hop2
            have HT : Hid (tch M p.1 = true) := by unfold Hid; simp [tch, St.row, ht, hr, ho, hdd]
            have HRB : Hid (RowB y M (y.rb p.1.key p.1.id)) := ⟨_, t, _, r, ht, hr, rfl⟩
            have HBox := Lib.hid hbox
            unfold encK ptr at l2
            unfold encI ptr at l3
            clear hdd hu hbk htm hbox hpl hsnoc ht hr hid ho
            go_quiet (fail)
            go_wp2
            go_quiet (fail)
            refine World.abs (fun u' => FEv B g w g u' ∧ Beside g GM2 u' ∧ u'.cell? ⟨y.rb p.1.key p.1.id, 2, none⟩ = some (.pointer (some ⟨vb, 0, none⟩))) ⟨(HU.out.1.drewN _).drewN _, (HU.out.2.1.drewN _).drewN _, d6⟩ ?_
            clear b0 b1 b2 b3 b4 d0 d1 d2 d3 d4 d6 l1 l2 l3
            rintro u2 ⟨hu2, hbk2, d6⟩
            have b0 : u2.cell? ⟨kx, 0, none⟩ = some (.string p.1.key.1) := hbk2.holds.cell HBox.out rfl
            have b1 : u2.cell? ⟨kx, 1, none⟩ = some (.string p.1.key.2) := hbk2.holds.cell HBox.out rfl
            have b2 : u2.cell? ⟨kx, 2, none⟩ = some (.int .i64 p.1.drops) := hbk2.holds.cell HBox.out rfl
            have b3 : u2.cell? ⟨kx, 3, none⟩ = some (.int .i64 p.1.id) := hbk2.holds.cell HBox.out rfl
            have b4 : u2.cell? ⟨kx, 4, none⟩ = some (.pointer q) := hbk2.holds.cell HBox.out rfl
            obtain ⟨x, hx1, hx2, hx3⟩ := MapAt.updateW (klP (RowB y M)) Tryz.underlying135 (HX.out.1.rowB hu2.fam) hbk2.holds HU.out.2.2.1 (k := y.rb p.1.key p.1.id) HRB.out p
            simp only [chgVal, hq] at hx1
            have HZ := Lib.hid (And.intro hu2 (And.intro hbk2 (And.intro hx2 hx3)))
            unfold ptr at hx1
            clear hu2 hbk2 hx2 hx3 hq
            go_wp2
            go_roundw
            case rel =>
              have hb3 := HZ.out.1.own HZ.out.2.1 HZ.out.2.2.1 (by rw [hbow]; exact HU.out.2.2.2)
              exact ⟨k + 1, by omega, by go_num, GM2.put bo x, hb3.1, hb3.2, by rw [HS.out, tents_snoc, HT.out]; exact HZ.out.2.2.2, HU.out.2.2.2.put (Nat.le_refl _) _⟩
            case measure => simp [intOf]; omega
      · have hdb : (p.1.drops != M.dr p.1.key) = true := by simpa using hdd
        have HT : Hid (tch M p.1 = false) := by unfold Hid; simp [tch, hdd]
        clear hdd hu hbk htm hbox hpl hsnoc hq
        go_quiet (fail)
        go_wp2
        go_roundw
        case rel => exact ⟨k + 1, by omega, by go_num, GM2, HU.out.1.drewN _, HU.out.2.1.drewN _, by rw [HS.out, tents_snoc, HT.out]; exact HU.out.2.2.1, HU.out.2.2.2⟩
        case measure => simp [intOf]; omega
end Go.Ju

/- 'Back'. -/
import Derived.Test.YthdnjokioboehaaGreatDoorRound
import Derived.StillTailTactics
namespace Go.Ju
open Go.RowKit
open Go.Proofs
open Go.ChangeMaps
attribute [local go_sem] Oper.semAt_some

/-- Changes can be undone one behind the other: the rows are there. -/
def UndoSafe : St → List Chg → Prop
  | _, [] => True
  | M, c :: cs => ((c.drops = M.dr c.key → ∃ r, M.row c.key c.id = some r ∧ r.old.length ≤ 1000) ∧ okI c.id) ∧ UndoSafe (M.undo1 c) cs
theorem UndoSafe.at {l : List Chg} {c : Chg} : ∀ {M : St} {k : Nat}, UndoSafe M l → l[k]? = some c →
    (c.drops = ((l.take k).foldl St.undo1 M).dr c.key → ∃ r, ((l.take k).foldl St.undo1 M).row c.key c.id = some r ∧ r.old.length ≤ 1000) ∧ okI c.id := by
  induction l with
  | nil => intro M k _ h; simp at h
  | cons d ds ih =>
    intro M k h hk
    cases k with
    | zero =>
      simp at hk
      subst hk
      exact h.1
    | succ k =>
      simp at hk
      exact ih h.2 hk
theorem undo1_log (M : St) (c : Chg) : (M.undo1 c).log = M.log ∧ (M.undo1 c).time = M.time ∧ (M.undo1 c).drops = M.drops := by
  unfold St.undo1 St.delRow St.putRow
  split
  · split
    · exact ⟨rfl, rfl, rfl⟩
    · split
      · split <;> exact ⟨rfl, rfl, rfl⟩
      · split <;> exact ⟨rfl, rfl, rfl⟩
  · exact ⟨rfl, rfl, rfl⟩
theorem undos_log (l : List Chg) (M : St) : (l.foldl St.undo1 M).log = M.log := by
  induction l generalizing M with
  | nil => rfl
  | cons c cs ih => rw [List.foldl_cons, ih, (undo1_log M c).1]
theorem all2_chgs {I : Gh} {l : List Chg} {css : List (List Value)} (h : All2 (ChgIs I) l css) : ∃ L : List (Chg × Value), L.map Prod.fst = l ∧ css = L.map (fun p => note p.1.key p.1.drops p.1.id p.2) ∧ ∀ p ∈ L, OpnAt I p.2 p.1.before := by
  induction h with
  | nil => exact ⟨[], rfl, rfl, by simp⟩
  | cons h1 _ ih =>
    obtain ⟨L, h2, h3, h4⟩ := ih
    obtain ⟨op, h5, h6⟩ := h1
    refine ⟨(_, op) :: L, by rw [List.map_cons, h2], by rw [List.map_cons, h3, h5]; rfl, fun p hp => ?_⟩
    rcases List.mem_cons.1 hp with rfl | hp
    · exact h6
    · exact h4 p hp
theorem Ev.putObj {G G' : Gh} {w w' : World} (h : Ev G w G' w') {b : Nat} {o : Obj} (hb : G' b = some o) (x : Obj) : Ev G w (G'.put b x) (w'.putObj b x) := h.setBlock hb x
theorem Beside.alloc {B : Nat} {g g0 : Comp → Gh} {w0 : World} {G : Gh} {w : World} (h : Beside g G w) (o : Obj) (hF : FEv B g0 w0 g w := by assumption) : Beside g (G.put w.heap.size o) (w.alloc o) :=
  ⟨h.holds.alloc o, fun c b => by
    by_cases e : b = w.heap.size
    · subst e; exact .inl (hF.fam.holds c).fresh
    · rw [Gh.put_other _ _ e]; exact h.apart c b⟩
theorem Beside.weaken {g : Comp → Gh} {G G' : Gh} {w : World} (h : Beside g G w) (hs : ∀ b o, G' b = some o → G b = some o) : Beside g G' w :=
  ⟨fun b o hb => h.holds b o (hs b o hb), fun c b => by
    rcases h.apart c b with h1 | h1
    · exact .inl h1
    · right
      cases hx : G' b with
      | none => rfl
      | some o => rw [hs b o hx] at h1; cases h1⟩
theorem Beside.put {B : Nat} {g : Comp → Gh} {G : Gh} {w : World} (hF : Fam B g w) (h : Beside g G w) {b : Nat} {o : Obj} (hb : G b = some o) (x : Obj) : Fam B g (w.putObj b x) ∧ Beside g (G.put b x) (w.putObj b x) := by
  have he := (Ev.refl h.holds).putObj hb x
  refine ⟨⟨fun c => he.frame (hF.holds c) (h.apart c).symm, hF.apart, hF.base, Nat.le_trans hF.le he.size⟩, he.holds, fun c => (he.apart (hF.holds c) (h.apart c).symm).symm⟩
theorem FEv.put {B : Nat} {g g' : Comp → Gh} {w w' : World} {G : Gh} (h : FEv B g w g' w') (hb : Beside g' G w') {b : Nat} {o : Obj} (ho : G b = some o) (hn : w.heap.size ≤ b) (x : Obj) : FEv B g w g' (w'.putObj b x) := by
  have hp := hb.put h.fam ho x
  refine ⟨hp.1, h.os, h.tape, h.output, by simp [World.putObj]; exact h.size, fun k hk hg => ?_, h.fresh⟩
  rw [World.putObj_heap_other (by omega)]
  exact h.keep k hk hg
theorem Own.take {G : Gh} {e size n c k : Nat} {A : Option Addr} {xs : List Value} (h : Own G e size (.slice A n c) n xs) (hk : k ≤ n) : Own G e size (.slice A k c) k (xs.take (k * size)) := by
  obtain ⟨h1, h2⟩ := h
  have hks : k * size ≤ n * size := Nat.mul_le_mul_right _ hk
  refine ⟨by rw [List.length_take, h1]; omega, ?_⟩
  rcases h2 with ⟨hv, h0⟩ | ⟨b, cap, cur, hv, hb, hc1, hc2, hc3, hc4⟩
  · injection hv with a1 a2 a3
    subst a1; subst a3
    have : k = 0 := by omega
    subst this
    exact .inl ⟨rfl, rfl⟩
  · injection hv with a1 a2 a3
    subst a1; subst a3
    refine .inr ⟨b, c, cur, rfl, hb, by omega, hc2, hc3, ?_⟩
    rw [← hc4, List.take_take, Nat.min_eq_left hks]
theorem elem_at {G : Gh} {A : Option Addr} {n c : Nat} {L : List (Chg × Value)} (h : Own G 133 5 (.slice A n c) n (L.map fun p => note p.1.key p.1.drops p.1.id p.2).flatten) {W : World} (hG : Holds G W) {j : Nat} {p : Chg × Value} (hp : L[j]? = some p) :
    ∃ b, A = some ⟨b, 0, none⟩ ∧ ElemAt W b 0 j p.1 p.2 := by
  have hcs : (L.map fun p => note p.1.key p.1.drops p.1.id p.2)[j]? = some (note p.1.key p.1.drops p.1.id p.2) := by rw [List.getElem?_map, hp]; rfl
  have hlen : ∀ x ∈ (L.map fun p => note p.1.key p.1.drops p.1.id p.2), x.length = 5 := fun x hx => by
    obtain ⟨q, _, rfl⟩ := List.mem_map.1 hx
    rfl
  have g : ∀ i, i < 5 → _ := fun i hi => flatten_get (c := 5) hlen hcs hi
  obtain ⟨h1, h2⟩ := h
  rcases h2 with ⟨_, h0⟩ | ⟨b, cap, cur, hv, hb, _, _, _, htake⟩
  · have := (List.getElem?_eq_some_iff.1 hp).1
    rw [List.length_flatten] at h1
    exfalso
    subst h0
    cases L with
    | nil => simp at hp
    | cons q r => simp [note] at h1
  · injection hv with hA _ _
    have cel : ∀ i u, (L.map fun p => note p.1.key p.1.drops p.1.id p.2).flatten[i]? = some u → W.cell? ⟨b, i, none⟩ = some u := fun i u hi => by
      refine hG.cell hb ?_
      rw [← htake, List.getElem?_take] at hi
      split at hi
      · simpa using hi
      · cases hi
    refine ⟨b, hA, ?_, ?_, ?_, ?_, ?_⟩
    · rw [Nat.zero_add]; exact cel _ _ ((g 0 (by omega)).trans rfl)
    · rw [Nat.zero_add]; exact cel _ _ ((g 1 (by omega)).trans rfl)
    · rw [Nat.zero_add]; exact cel _ _ ((g 2 (by omega)).trans rfl)
    · rw [Nat.zero_add]; exact cel _ _ ((g 3 (by omega)).trans rfl)
    · rw [Nat.zero_add]; exact cel _ _ ((g 4 (by omega)).trans rfl)
def St.backA (M : St) (txn mark : Int) : St × Int := if !numB txn then (M, 2) else if mark < 0 ∨ ((M.lg txn).length : Int) < mark then (M, 21) else (M.back txn mark.toNat, 0)

set_option maxRecDepth 100000 in
set_option maxHeartbeats 4000000 in
theorem back_any (B N : Nat) (g : Comp → Gh) (w : World) (y : Lay) (M : St) (txn mark : Int) (hF : Fam B g w) (h : Rep y M g) (hfit : Fit N M) (hN : N ≤ 1000000) (hmk : okI mark) (hsafe : UndoSafe M ((M.lg txn).drop mark.toNat).reverse) :
    Calls Tryz.prog 32 #[ptr y.p, encI txn, encI mark] w (Does B g w fun u g' => u = .int .i64 (M.backA txn mark).2 ∧ ∃ y', Rep y' (M.backA txn mark).1 g' ∧ y'.p = y.p) := by
  have HMk := Lib.hid (fun W (hW : Fam B g W) => mark_any hW h txn 0)
  have HE := Lib.hid (FEv.refl hF)
  refine callsIn_wide.1 (callsIn_of_wp_marks (n := 3) Tryz.func32 rfl trivial (wpIn_wide.2 ?_) rfl)
  simp only [Tryz.ntmps32, List.size_toArray, List.length_cons, List.length_nil, Nat.reduceAdd, Nat.reduceSub, Array.replicate_succ, Array.replicate_zero, List.push_toArray, List.append_toArray, List.nil_append, List.cons_append]
  cases hn : numB txn with
  | false =>
    have hmm : M.mark txn = (0, 2) := by simp [St.mark, hn]
    have HM : Hid (M.backA txn mark = (M, 2)) := by unfold Hid; simp [St.backA, hn]
    rw [hmm] at HMk
    unfold encI ptr at *
    go_wp2_with fail
    refine (HMk.out _ (HE.out.more _).fam).mono ?_
    rintro e w1 ⟨rfl, rfl⟩
    go_wp2
    (try simp only [Exit.inBlock, Exit.then])
    refine ⟨_, results_tmp rfl _ _ _, ?_⟩
    exact ⟨_, _, rfl, HE.out.more _, (congrArg (fun p : St × Int => Value.int .i64 p.2) HM.out).symm, y, by rw [HM.out]; exact h, rfl⟩
  | true =>
    have hmm : M.mark txn = (((M.lg txn).length : Int), 0) := by simp [St.mark, hn]
    rw [hmm] at HMk
    by_cases hout : mark < 0 ∨ ((M.lg txn).length : Int) < mark
    · have HM : Hid (M.backA txn mark = (M, 21)) := by unfold Hid; simp [St.backA, hn, hout]
      unfold encI ptr at *
      rcases hout with hout | hout
      · go_wp2_with fail
        refine (HMk.out _ (HE.out.more _).fam).mono ?_
        rintro e w1 ⟨rfl, rfl⟩
        go_wp2
        (try simp only [Exit.inBlock, Exit.then])
        refine ⟨_, results_tmp rfl _ _ _, ?_⟩
        exact ⟨_, _, rfl, HE.out.more _, (congrArg (fun p : St × Int => Value.int .i64 p.2) HM.out).symm, y, by rw [HM.out]; exact h, rfl⟩
      · have hm0 : (0 : Int) ≤ mark := by omega
        go_wp2_with fail
        refine (HMk.out _ (HE.out.more _).fam).mono ?_
        rintro e w1 ⟨rfl, rfl⟩
        go_wp2
        (try simp only [Exit.inBlock, Exit.then])
        refine ⟨_, results_tmp rfl _ _ _, ?_⟩
        exact ⟨_, _, rfl, HE.out.more _, (congrArg (fun p : St × Int => Value.int .i64 p.2) HM.out).symm, y, by rw [HM.out]; exact h, rfl⟩
    · have HM : Hid (M.backA txn mark = (M.back txn mark.toNat, 0)) := by unfold Hid; simp only [St.backA, hn, hout]; rfl
      obtain ⟨mk, rfl⟩ : ∃ mk : Nat, mark = mk := ⟨mark.toNat, by omega⟩
      have hmk1 : mk ≤ (M.lg txn).length := by omega
      have HX := Lib.hid (And.intro h (And.intro hfit (And.intro hN (And.intro hmk1 (And.intro hsafe (numB_ok hn))))))
      have hm0 : (0 : Int) ≤ (mk : Int) := Int.natCast_nonneg _
      have hm1 : (mk : Int) ≤ ((M.lg txn).length : Int) := by omega
      have hd0 : decide ((mk : Int) < 0) = false := by simp
      have hd1 : decide (((M.lg txn).length : Int) < (mk : Int)) = false := by simpa using hm1
      clear h hfit hN hsafe hmk hF hn hmm hout
      unfold encI ptr at *
      go_wp2_with fail
      refine (HMk.out _ (HE.out.more _).fam).mono ?_
      rintro e w1 ⟨rfl, rfl⟩
      refine World.abs (fun u => FEv B g w g u ∧ Beside g (Gh.nil.put w.heap.size (.cells #[.pointer (some ⟨y.p, 0, none⟩)] 27)) u ∧ w.heap.size < u.heap.size) ⟨HE.out.more _, Beside.new HE.out.fam _, by rw [World.heap_drewN, World.size_alloc]; exact Nat.lt_succ_self _⟩ ?_
      rintro u ⟨hu, hbk, hkbu⟩
      obtain ⟨c0, c1, c2, c3⟩ := HX.out.1.cells hu.fam
      have e1 : u.cell? ⟨w.heap.size, 0, none⟩ = some (.pointer (some ⟨y.p, 0, none⟩)) := hbk.holds.cell (Gh.put_same _ _ _) rfl
      obtain ⟨lgv, ⟨css, hall, hown⟩, hlk⟩ := HX.out.1.logAt HX.out.2.2.2.2.2
      obtain ⟨A, cp, rfl, hcp, _⟩ := hown.form
      have f1 := hlk u (hu.fam.holds .lM)
      unfold encI at f1
      generalize hkbw : w.heap.size = kb at *
      have HU := Lib.hid (And.intro hu (And.intro hbk (And.intro hall (And.intro hown hcp))))
      clear hu hbk hall hown hcp hlk
      by_cases hcm : cp = mk
      · have hcm' := hcm.symm
        clear hcm
        subst hcm'
        go_wp2_with fail
        refine (backward_any _ _ _ _).mono ?_
        rintro e w2 ⟨rfl, rfl⟩
        go_wp2_with fail
        obtain ⟨A', hA'⟩ : ∃ A', A = A' := ⟨_, rfl⟩
        obtain ⟨cp', hcp'⟩ : ∃ c : Nat, 0 = c := ⟨_, rfl⟩
        have hmlen : (M.lg txn).length = mk := by have := HU.out.2.2.2.2; omega
        rw [show Value.slice A ((M.lg txn).length - mk) 0 = Value.slice A' ((M.lg txn).length - mk) cp' by rw [hA', hcp']]
        clear hcp'
        generalize hm2 : (M.lg txn).length - mk = m
        refine World.abs (fun u0 => FEv B g w g u0 ∧ Beside g ((Gh.nil.put kb (.cells #[.pointer (some ⟨y.p, 0, none⟩)] 27)).put u.heap.size (.cells #[.slice A' m cp'] 128)) u0 ∧ u.heap.size < u0.heap.size) ⟨HU.out.1.more _, HU.out.2.1.alloc _ HU.out.1, by rw [World.size_alloc]; exact Nat.lt_succ_self _⟩ ?_
        rintro u0 ⟨hu0, hbk0, hbu0⟩
        generalize u.heap.size = bB at *
        generalize hact : Act.mk _ _ = act
        generalize hasg : Code.region 7 _ _ = asg
        generalize hbdy : Code.block 2 _ = bdy
        have hg : act.eval (Operand.tmp 37) = .func (.func 101) #[] #[.pointer (some ⟨bB, 0, none⟩)] := by rw [← hact]; rfl
        refine wpIn_wide.1 (wpIn_rangeFunc (F := Fence.wide) (n := 3) ?_)
        intro fn hfn
        obtain ⟨rec, hrec⟩ : ∃ rec : LoopState → Loop, rec = fun st => { state := st, pending := none, fn, tmps := act.tmps, params := #[38, 39], assign := asg, body := bdy, defers := u0.heap.size } := ⟨_, rfl⟩
        obtain ⟨W1, hW1⟩ : ∃ W1, (u0.alloc (.deferred (some []))).alloc (.loop (rec .ready)) = W1 := ⟨_, rfl⟩
        refine ⟨u0.heap.size + 1, [{ target := .collected u0.heap.size, args := #[] }], W1, { target := .fn (.func 101) #[.pointer (some ⟨bB, 0, none⟩)], args := #[.func (.yield (u0.heap.size + 1)) #[] #[]] }, W1, 101, #[.func (.yield (u0.heap.size + 1)) #[] #[]] ++ #[.pointer (some ⟨bB, 0, none⟩)], W1, ?_, ?_, ?_, ?_, (fun h => by cases h), ?_⟩
        · rw [← hW1, hrec]; exact run_enterLoop_outer _ _ _ _ _
        · simp only [resolve, hg]
          simp [go_sem]
        · intro f' _
          trivial
        · simp [invoke, go_sem]
        · have hGL0 := (hbk0.alloc (.deferred (some [])) hu0).alloc (.loop (rec .ready)) (hu0.more _)
          rw [World.size_alloc, hW1] at hGL0
          have hE1 : FEv B g w g W1 := by rw [← hW1]; exact (hu0.more _).more _
          obtain ⟨L0, hL1, rfl, hL3⟩ := all2_chgs HU.out.2.2.1
          have hLlen : (L0.drop mk).length = m := by rw [List.length_drop, ← hm2, ← hL1, List.length_map]
          have hnw := hE1.size
          have hle0 : w.heap.size ≤ u0.heap.size := hu0.size
          generalize hll : u0.heap.size + 1 = l at *
          generalize hDD : u0.heap.size = D at *
          have hkb : kb ≠ l ∧ bB ≠ l ∧ D ≠ l ∧ kb ≠ D ∧ bB ≠ D ∧ kb ≠ bB := ⟨by omega, by omega, by omega, by omega, by omega, by omega⟩
          have hkl : w.heap.size ≤ l := by omega
          refine (backward1_in (3 - 1) l bB A' m cp' (L0.drop mk) (fun k W => ∃ g' y', FEv B g w g' W ∧ Rep y' ((((M.lg txn).drop mk).reverse.take k).foldl St.undo1 M) g' ∧ y'.p = y.p ∧ (∀ x, g' (.log x) = g (.log x)) ∧ g' .imm = g .imm ∧ Beside g' ((((Gh.nil.put kb (.cells #[.pointer (some ⟨y.p, 0, none⟩)] 27)).put bB (.cells #[.slice A' m cp'] 128)).put D (.deferred (some []))).put l (.loop (rec .ready))) W) hLlen ?_ ?_ ?_ W1 ?_ (by decide)).mono ?_
          · have := HX.out.2.1.lg txn
            have := HX.out.2.2.1
            omega
          · rintro k W ⟨g', y', hE', hR', hp', hl', hi', hb'⟩
            have hbB : W.cell? ⟨bB, 0, none⟩ = some (.slice A' m cp') := hb'.holds.cell (by rw [Gh.put_other _ _ hkb.2.1, Gh.put_other _ _ hkb.2.2.2.2.1]; exact Gh.put_same _ _ _) rfl
            refine ⟨hbB, fun i p hp => ?_⟩
            have h0 := (List.getElem?_eq_some_iff.1 hp).1
            omega
          · rintro k W _ i p hp hki
            exfalso
            omega
          · exact ⟨g, y, hE1, HX.out.1, rfl, fun _ => rfl, rfl, hGL0⟩
          · rintro e W2 ⟨⟨v, rfl⟩, g2, y2, hE2, hR2, hp2, hl2, hi2, hb2⟩
            have hrl : W2.heap[l]? = some (.loop (rec .ready)) := hb2.holds l _ (Gh.put_same _ _ _)
            have hend := run_endLoop (P := Tryz.prog) hrl (by rw [hrec]; simp)
            have hpend : (rec .ready).pending = none := by rw [hrec]
            obtain ⟨W3, hW3⟩ : ∃ W3, W2.putObj l (.loop { rec .ready with state := .exhausted }) = W3 := ⟨_, rfl⟩
            rw [hW3, hpend] at hend
            refine ⟨none, W3, hend, ?_⟩
            clear hend
            subst hW3
            refine World.abs (fun u => FEv B g w g2 u ∧ Beside g2 (((((Gh.nil.put kb (.cells #[.pointer (some ⟨y.p, 0, none⟩)] 27)).put bB (.cells #[.slice A' m cp'] 128)).put D (.deferred (some []))).put l (.loop (rec .ready))).put l (.loop { rec .ready with state := .exhausted })) u) ⟨hE2.put hb2 (Gh.put_same _ _ _) hkl _, (hb2.put hE2.fam (Gh.put_same _ _ _) _).2⟩ ?_
            have hfull : (((M.lg txn).drop mk).reverse.take m) = ((M.lg txn).drop mk).reverse := List.take_of_length_le (by rw [List.length_reverse, List.length_drop]; omega)
            rw [hfull] at hR2
            have hfin : ∀ (M2 : St), M2 = (((M.lg txn).drop mk).reverse).foldl St.undo1 M → (M.back txn mk) = { M2 with log := aput M2.log txn ((M2.lg txn).take mk) } ∧ M2.lg txn = M.lg txn := fun M2 h2 => by
              have hlg : M2.log = M.log := by rw [h2, undos_log]
              have hlg2 : M2.lg txn = M.lg txn := by unfold St.lg; rw [hlg]
              refine ⟨?_, hlg2⟩
              rw [hlg2, h2]
              rfl
            obtain ⟨hback, hlg2⟩ := hfin _ rfl
            generalize (((M.lg txn).drop mk).reverse).foldl St.undo1 M = M2 at *
            have HZ := Lib.hid (And.intro hback (And.intro hlg2 (And.intro hR2 hp2)))
            clear hE2 hb2 hrl hpend hbk0 hu0 hGL0 hE1 hfull hfin hL3 hL1 hback hW1
            rintro u2 ⟨hu2, hk2⟩
            have e2 : u2.cell? ⟨kb, 0, none⟩ = some (.pointer (some ⟨y.p, 0, none⟩)) := hk2.holds.cell (by rw [Gh.put_other _ _ hkb.1, Gh.put_other _ _ hkb.1, Gh.put_other _ _ hkb.2.2.2.1, Gh.put_other _ _ hkb.2.2.2.2.2]; exact Gh.put_same _ _ _) rfl
            have hKD : u2.heap[D]? = some (.deferred (some [])) := hk2.holds D _ (by rw [Gh.put_other _ _ hkb.2.2.1, Gh.put_other _ _ hkb.2.2.1]; exact Gh.put_same _ _ _)
            obtain ⟨_, _, _, c3⟩ := hR2.cells hu2.fam
            rw [hp2] at c3
            obtain ⟨lg2, ⟨css2, hall2, hown2⟩, hlk2⟩ := hR2.logAt HX.out.2.2.2.2.2
            obtain ⟨A2, cp2, rfl, hcp2, _⟩ := hown2.form
            have f2 := hlk2 u2.drew (hu2.fam.holds .lM)
            rw [hlg2] at f2 hown2 hcp2
            obtain ⟨x, hx1, hx2, hx3⟩ := MapAt.update klI Tryz.underlying85 (hu2.fam.holds .lM) hR2.lM (k := txn) HX.out.2.2.2.2.2 ((M2.lg txn).take mk) (fun p => ins y2.lv txn (.slice A2 mk cp2) p.1) (fun p _ hne => by rw [ins_other _ _ hne])
            have f3 := hx1 u2.drew (hu2.fam.holds .lM)
            rw [ins_same] at f3
            unfold encI at f2 f3
            have HW := Lib.hid (And.intro hu2 (And.intro hk2 (And.intro hall2 (And.intro hown2 (And.intro hx2 hx3)))))
            have hmc : mk ≤ cp2 := by omega
            have hmc1 : (mk : Int) ≤ (cp2 : Int) := by omega
            clear hu2 hk2 hall2 hown2 hx1 hx2 hx3 hlk2 hR2
            rw [← hact]
            go_wp2
            refine wp_region_still_tail 13 (by kernel_rfl) (by kernel_rfl) ?_
            change wpStill _ _ u2.drew (fun a' => wpList _ _ _ _ a' u2.drew) _ _
            simp only [List.take_succ_cons, List.take_zero, List.drop_succ_cons, List.drop_zero]
            repeat still_step
            refine wpStill_nil ?_
            go_wp2
            obtain ⟨hu2, hk2, hall2, hown2, hx2, hx3⟩ := HW.out
            obtain ⟨hback, hlg2, hR2, hp2⟩ := HZ.out
            have hst := (FEv.refl hu2.fam).drew.then (c := .lM) (hx2 u2.drew (hu2.fam.holds .lM))
            have hk3 := hk2.step hst
            have hGD : (((((Gh.nil.put kb (.cells #[.pointer (some ⟨y.p, 0, none⟩)] 27)).put bB (.cells #[.slice A' m cp'] 128)).put D (.deferred (some []))).put l (.loop (rec .ready))).put l (.loop { rec .ready with state := .exhausted })) D = some (.deferred (some [])) := by
              rw [Gh.put_other _ _ hkb.2.2.1, Gh.put_other _ _ hkb.2.2.1]
              exact Gh.put_same _ _ _
            refine ⟨by simp, .inl ⟨_, _, rfl, run_takeDeferred (hk3.holds D _ hGD), ?_⟩⟩
            refine ⟨_, results_tmp rfl _ _ _, ?_⟩
            refine ⟨_, _, rfl, (hu2.trans hst).put hk3 hGD hle0 _, (congrArg (fun p : St × Int => Value.int .i64 p.2) HM.out).symm, { y2 with lv := ins y2.lv txn (.slice A2 mk cp2) }, ?_, hp2⟩
            rw [HM.out]
            change Rep _ (M.back txn mk) _
            rw [hback]
            refine hR2.setLog txn _ (.slice A2 mk cp2) (fun c n1 n2 n3 n4 => upd_other _ _ n3) (by rw [upd_other _ _ (by simp)]; exact Sub.refl _) (by rw [upd_same]; exact hx3) ?_
            rw [upd_other _ _ (by simp), upd_other _ _ (by simp)]
            have hcl : ∀ x ∈ css2, x.length = 5 := fun x hx => by
              obtain ⟨i, hi⟩ := List.getElem?_of_mem hx
              have hlt := (List.getElem?_eq_some_iff.1 hi).1
              obtain ⟨c, hc⟩ : ∃ c, (M2.lg txn)[i]? = some c := ⟨(M2.lg txn)[i]'(by rw [hall2.length]; exact hlt), List.getElem?_eq_getElem _⟩
              obtain ⟨cs, h1, op, h2, _⟩ := hall2.get hc
              rw [hi] at h1
              cases h1
              rw [h2]
              rfl
            refine ⟨css2.take mk, hall2.take mk, ?_⟩
            rw [flatten_take mk hcl, List.length_take, hlg2, Nat.min_eq_left HX.out.2.2.2.1]
            exact hown2.take HX.out.2.2.2.1
      · go_wp2_with fail
        refine (backward_any _ _ _ _).mono ?_
        rintro e w2 ⟨rfl, rfl⟩
        go_wp2_with fail
        generalize hA' : Option.map (fun x : Addr => x.add (mk * 5)) A = A' at *
        generalize hm2 : (M.lg txn).length - mk = m
        generalize cp - mk = cp'
        refine World.abs (fun u0 => FEv B g w g u0 ∧ Beside g ((Gh.nil.put kb (.cells #[.pointer (some ⟨y.p, 0, none⟩)] 27)).put u.heap.size (.cells #[.slice A' m cp'] 128)) u0 ∧ u.heap.size < u0.heap.size) ⟨HU.out.1.more _, HU.out.2.1.alloc _ HU.out.1, by rw [World.size_alloc]; exact Nat.lt_succ_self _⟩ ?_
        rintro u0 ⟨hu0, hbk0, hbu0⟩
        generalize u.heap.size = bB at *
        generalize hact : Act.mk _ _ = act
        generalize hasg : Code.region 7 _ _ = asg
        generalize hbdy : Code.block 2 _ = bdy
        have hg : act.eval (Operand.tmp 37) = .func (.func 101) #[] #[.pointer (some ⟨bB, 0, none⟩)] := by rw [← hact]; rfl
        refine wpIn_wide.1 (wpIn_rangeFunc (F := Fence.wide) (n := 3) ?_)
        intro fn hfn
        obtain ⟨rec, hrec⟩ : ∃ rec : LoopState → Loop, rec = fun st => { state := st, pending := none, fn, tmps := act.tmps, params := #[38, 39], assign := asg, body := bdy, defers := u0.heap.size } := ⟨_, rfl⟩
        obtain ⟨W1, hW1⟩ : ∃ W1, (u0.alloc (.deferred (some []))).alloc (.loop (rec .ready)) = W1 := ⟨_, rfl⟩
        refine ⟨u0.heap.size + 1, [{ target := .collected u0.heap.size, args := #[] }], W1, { target := .fn (.func 101) #[.pointer (some ⟨bB, 0, none⟩)], args := #[.func (.yield (u0.heap.size + 1)) #[] #[]] }, W1, 101, #[.func (.yield (u0.heap.size + 1)) #[] #[]] ++ #[.pointer (some ⟨bB, 0, none⟩)], W1, ?_, ?_, ?_, ?_, (fun h => by cases h), ?_⟩
        · rw [← hW1, hrec]; exact run_enterLoop_outer _ _ _ _ _
        · simp only [resolve, hg]
          simp [go_sem]
        · intro f' _
          trivial
        · simp [invoke, go_sem]
        · have hGL0 := (hbk0.alloc (.deferred (some [])) hu0).alloc (.loop (rec .ready)) (hu0.more _)
          rw [World.size_alloc, hW1] at hGL0
          have hE1 : FEv B g w g W1 := by rw [← hW1]; exact (hu0.more _).more _
          obtain ⟨L0, hL1, rfl, hL3⟩ := all2_chgs HU.out.2.2.1
          have hLlen : (L0.drop mk).length = m := by rw [List.length_drop, ← hm2, ← hL1, List.length_map]
          have hnw := hE1.size
          have hle0 : w.heap.size ≤ u0.heap.size := hu0.size
          generalize hll : u0.heap.size + 1 = l at *
          generalize hDD : u0.heap.size = D at *
          have hkb : kb ≠ l ∧ bB ≠ l ∧ D ≠ l ∧ kb ≠ D ∧ bB ≠ D ∧ kb ≠ bB := ⟨by omega, by omega, by omega, by omega, by omega, by omega⟩
          have hkl : w.heap.size ≤ l := by omega
          refine (backward1_in (3 - 1) l bB A' m cp' (L0.drop mk) (fun k W => ∃ g' y', FEv B g w g' W ∧ Rep y' ((((M.lg txn).drop mk).reverse.take k).foldl St.undo1 M) g' ∧ y'.p = y.p ∧ (∀ x, g' (.log x) = g (.log x)) ∧ g' .imm = g .imm ∧ Beside g' ((((Gh.nil.put kb (.cells #[.pointer (some ⟨y.p, 0, none⟩)] 27)).put bB (.cells #[.slice A' m cp'] 128)).put D (.deferred (some []))).put l (.loop (rec .ready))) W) hLlen ?_ ?_ ?_ W1 ?_ (by decide)).mono ?_
          · have := HX.out.2.1.lg txn
            have := HX.out.2.2.1
            omega
          · rintro k W ⟨g', y', hE', hR', hp', hl', hi', hb'⟩
            have hbB : W.cell? ⟨bB, 0, none⟩ = some (.slice A' m cp') := hb'.holds.cell (by rw [Gh.put_other _ _ hkb.2.1, Gh.put_other _ _ hkb.2.2.2.2.1]; exact Gh.put_same _ _ _) rfl
            refine ⟨hbB, fun i p hp => ?_⟩
            rw [List.getElem?_drop] at hp
            obtain ⟨b, rfl, hel⟩ := elem_at HU.out.2.2.2.1 (by have := hE'.fam.holds (.log txn); rw [hl'] at this; exact this) hp
            refine ⟨b, 0 + mk * 5, by rw [← hA', Option.map_some, add_mk], ?_⟩
            unfold ElemAt at hel ⊢
            rw [show 0 + mk * 5 + i * 5 = 0 + (mk + i) * 5 by omega]
            exact hel
          · rintro k W ⟨g', y', hE', hR', hp', hl', hi', hb'⟩ i p hp hki
            have hLp : L0[mk + i]? = some p := by rw [List.getElem?_drop] at hp; exact hp
            have hrev : ((M.lg txn).drop mk).reverse[k]? = some p.1 := by
              have hlg : (M.lg txn).drop mk = (L0.drop mk).map Prod.fst := by rw [List.map_drop, hL1]
              rw [hlg, List.getElem?_reverse (by rw [List.length_map, hLlen]; omega), List.length_map, hLlen, show m - 1 - k = i by omega, List.getElem?_map, hp]
              rfl
            have hsafe := HX.out.2.2.2.2.1
            rw [show (mk : Int).toNat = mk by simp] at hsafe
            obtain ⟨hs1, hs2⟩ := hsafe.at hrev
            have hop : OpnAt (g' .imm) p.2 p.1.before := by rw [hi']; exact hL3 p (List.mem_of_getElem? hLp)
            have hnext : (((M.lg txn).drop mk).reverse.take (k + 1)).foldl St.undo1 M = ((((M.lg txn).drop mk).reverse.take k).foldl St.undo1 M).undo1 p.1 := by
              rw [List.take_add_one, hrev, List.foldl_append]
              rfl
            rw [hnext]
            generalize (((M.lg txn).drop mk).reverse.take k).foldl St.undo1 M = Mk at *
            have hrl : W.heap[l]? = some (.loop (rec .ready)) := hb'.holds l _ (Gh.put_same _ _ _)
            refine ⟨_, _, _, _, run_yield hrl (by rw [hrec]; rfl), roundIn_of_wpIn trivial ?_⟩
            have hbrec : ∀ st, (rec st).body = bdy ∧ (rec st).assign = asg ∧ (rec st).tmps = act.tmps ∧ (rec st).params = #[38, 39] := fun st => by rw [hrec]; exact ⟨rfl, rfl, rfl, rfl⟩
            rw [(hbrec _).1, (hbrec _).2.1, (hbrec _).2.2.1, (hbrec _).2.2.2]
            obtain ⟨q, hq1, hq2⟩ : ∃ q, p.2 = .pointer q ∧ True := by obtain ⟨q, hq⟩ := hop.ptr; exact ⟨q, hq, trivial⟩
            have HP := Lib.hid (And.intro hE' (And.intro hR' (And.intro hp' (And.intro hl' (And.intro hi' (And.intro hb' (And.intro hs1 (And.intro hs2 (And.intro hop (And.intro hq1 hrec))))))))))
            clear hE' hR' hp' hl' hi' hb' hs1 hs2 hop hnext hrev hsafe hrl hbrec
            unfold chgVal
            rw [hq1]
            rw [← hact, ← hasg]
            gi_wp2
            obtain ⟨hE', hR', hp', hl', hi', hb', hs1, hs2, hop, hq1, hrec⟩ := HP.out
            have hb2 := hb'.alloc (.cells #[.string p.1.key.1, .string p.1.key.2, .int .i64 p.1.drops, .int .i64 p.1.id, .pointer q] 133) hE'
            have hE2 := hE'.more (.cells #[.string p.1.key.1, .string p.1.key.2, .int .i64 p.1.drops, .int .i64 p.1.id, .pointer q] 133)
            have hlt : ∀ b o, ((((Gh.nil.put kb (.cells #[.pointer (some ⟨y.p, 0, none⟩)] 27)).put bB (.cells #[.slice A' m cp'] 128)).put D (.deferred (some []))).put l (.loop (rec .ready))) b = some o → b < W.heap.size := fun b o h => hb'.holds.lt h
            have hll0 := hlt l _ (Gh.put_same _ _ _)
            have hkb0 := hlt kb _ (by rw [Gh.put_other _ _ hkb.1, Gh.put_other _ _ hkb.2.2.2.1, Gh.put_other _ _ hkb.2.2.2.2.2]; exact Gh.put_same _ _ _)
            generalize hGL : ((((Gh.nil.put kb (.cells #[.pointer (some ⟨y.p, 0, none⟩)] 27)).put bB (.cells #[.slice A' m cp'] 128)).put D (.deferred (some []))).put l (.loop (rec .ready))) = GL at *
            have hGll : GL l = some (.loop (rec .ready)) := by rw [← hGL]; exact Gh.put_same _ _ _
            have hGkb : GL kb = some (.cells #[.pointer (some ⟨y.p, 0, none⟩)] 27 (0, 0)) := by rw [← hGL, Gh.put_other _ _ hkb.1, Gh.put_other _ _ hkb.2.2.2.1, Gh.put_other _ _ hkb.2.2.2.2.2]; exact Gh.put_same _ _ _
            have hrl2 : (GL.put W.heap.size (.cells #[.string p.1.key.1, .string p.1.key.2, .int .i64 p.1.drops, .int .i64 p.1.id, .pointer q] 133)) l = some (.loop (rec .ready)) := Gh.put_some _ hGll (by omega)
            refine ⟨_, run_beginRound (hb2.holds l _ hrl2) (by rw [hrec]), ?_⟩
            refine World.abs (fun u1 => FEv B g w g' u1 ∧ Beside g' ((GL.put W.heap.size (.cells #[.string p.1.key.1, .string p.1.key.2, .int .i64 p.1.drops, .int .i64 p.1.id, .pointer q] 133)).put l (.loop { rec .ready with state := .busy })) u1) ⟨hE2.put hb2 hrl2 hkl _, (hb2.put hE2.fam hrl2 _).2⟩ ?_
            have hGkx : GL W.heap.size = none := by
              cases hc : GL W.heap.size with
              | none => rfl
              | some o => have := hlt _ _ hc; omega
            have hlkx : l ≠ W.heap.size := by omega
            have hkbx : kb ≠ W.heap.size := by omega
            generalize W.heap.size = kx at *
            clear hb2 hE2 hrl2
            rintro u1 ⟨hu1, hk1⟩
            have e1 : u1.cell? ⟨kb, 0, none⟩ = some (.pointer (some ⟨y.p, 0, none⟩)) := hk1.holds.cell (by rw [Gh.put_other _ _ hkb.1, Gh.put_other _ _ hkbx]; exact hGkb) rfl
            have hbox : ((GL.put kx (.cells #[.string p.1.key.1, .string p.1.key.2, .int .i64 p.1.drops, .int .i64 p.1.id, .pointer q] 133)).put l (.loop { rec .ready with state := .busy })) kx = some (.cells #[.string p.1.key.1, .string p.1.key.2, .int .i64 p.1.drops, .int .i64 p.1.id, .pointer q] 133 (0, 0)) := by rw [Gh.put_other _ _ (Ne.symm hlkx)]; exact Gh.put_same _ _ _
            have b0 : u1.cell? ⟨kx, 0, none⟩ = some (.string p.1.key.1) := hk1.holds.cell hbox rfl
            have b1 : u1.cell? ⟨kx, 1, none⟩ = some (.string p.1.key.2) := hk1.holds.cell hbox rfl
            have b2 : u1.cell? ⟨kx, 2, none⟩ = some (.int .i64 p.1.drops) := hk1.holds.cell hbox rfl
            have b3 : u1.cell? ⟨kx, 3, none⟩ = some (.int .i64 p.1.id) := hk1.holds.cell hbox rfl
            have b4 : u1.cell? ⟨kx, 4, none⟩ = some (.pointer q) := hk1.holds.cell hbox rfl
            obtain ⟨c0, c1, c2, c3⟩ := hR'.cells hu1.fam
            rw [hp'] at c0 c1 c2 c3
            have l1 := fun n => hR'.lookD p.1.key (W := u1.drewN n) (hu1.fam.holds .dM)
            have hmix : Tryz.prog.follows .mixedOrders = true := by kernel_rfl
            have HK := Lib.hid (And.intro hu1 hk1)
            unfold encK at l1
            rw [← hbdy]
            -- behind the body
            have hweak : ∀ z : (Comp → Gh) × World, Beside z.1 (((GL.put kx (.cells #[.string p.1.key.1, .string p.1.key.2, .int .i64 p.1.drops, .int .i64 p.1.id, .pointer q] 133)).put l (.loop { rec .ready with state := .busy })).put l (.loop (rec .ready))) z.2 → Beside z.1 GL z.2 := fun z hz => hz.weaken fun b o hb => by
              by_cases e : b = l
              · subst e; rw [hGll] at hb; cases hb; exact Gh.put_same _ _ _
              · rw [Gh.put_other _ _ e, Gh.put_other _ _ e, Gh.put_other _ _ (fun e' => by rw [e', hGkx] at hb; cases hb)]; exact hb
            have HEnd := Lib.hid (fun (z : World) (g'' : Comp → Gh) (y'' : Lay) (hz : FEv B g w g'' z) (hbz : Beside g'' ((GL.put kx (.cells #[.string p.1.key.1, .string p.1.key.2, .int .i64 p.1.drops, .int .i64 p.1.id, .pointer q] 133)).put l (.loop { rec .ready with state := .busy })) z) (hrz : Rep y'' (Mk.undo1 p.1) g'') (hpz : y''.p = y.p) (hlz : ∀ x, g'' (.log x) = g (.log x)) (hiz : g'' .imm = g .imm) =>
              show ∃ v w', (Instr.endRound l none).run Tryz.prog z = .ok v w' ∧ (Ending.returned v = .returned (.bool true) ∧ ∃ g' y', FEv B g w g' w' ∧ Rep y' (Mk.undo1 p.1) g' ∧ y'.p = y.p ∧ (∀ x, g' (.log x) = g (.log x)) ∧ g' .imm = g .imm ∧ Beside g' GL w') from by
                have h1 := run_endRound (P := Tryz.prog) none (hbz.holds l _ (Gh.put_same _ _ _))
                have h2 : ({ ({ rec .ready with state := .busy } : Loop) with state := if (none : Option Code).isNone then .ready else .done, pending := none } : Loop) = rec .ready := by rw [hrec]; rfl
                rw [h2] at h1
                exact ⟨_, _, h1, rfl, g'', y'', hz.put hbz (Gh.put_same _ _ _) hkl _, hrz, hpz, hlz, hiz, hweak (g'', _) (hbz.put hz.fam (Gh.put_same _ _ _) _).2⟩)
            by_cases hdd : p.1.drops = Mk.dr p.1.key
            · have hdb : (p.1.drops == Mk.dr p.1.key) = true := by simpa using hdd
              obtain ⟨r, hr1, hr2⟩ := hs1 hdd
              obtain ⟨t, ht, hrr⟩ : ∃ t, aget Mk.tabs p.1.key = some t ∧ aget t.rows p.1.id = some r := by
                unfold St.row at hr1
                cases ht : aget Mk.tabs p.1.key with
                | none => rw [ht] at hr1; cases hr1
                | some t => rw [ht] at hr1; exact ⟨t, rfl, hr1⟩
              have HUndo := Lib.hid (fun n => undo_any B g' (u1.drewN n) y' Mk p.1 t r (.pointer q) (hu1.fam.drewN n) hR' ht hrr hs2 hr2 (by rw [← hq1]; exact hop))
              have HD := Lib.hid (And.intro (St.undo1_in hdd hr1) (And.intro hp' (And.intro hl' hi')))
              clear hR' hE' hb' hs1 hop hlt hu1 hk1 hGL hGll hGkb hbox hp' hl' hi' hdd hweak hrec
              unfold ptr at *
              rw [HD.out.2.1] at HUndo
              gi_wp2
              refine region_quiet_round l rfl hmix (by kernel_rfl) (by kernel_rfl) ?_
              repeat (gi_big_quiet_step (fail))
              refine wpQuietIn_nil ?_
              rintro u2 ⟨nq, rfl⟩
              gi_wp2_with (refine ⟨trivial, ?_⟩; gi_at_call 67; refine (CallsIn.inRound l (callsIn_wide.2 (HUndo.out _))).mono ?_; rintro e z ⟨vz, gz, rfl, hfz, rfl, yz, hrz, hpz, hlz, hiz⟩)
              exact HEnd.out z gz yz ((HK.out.1.drewN _).trans hfz) ((HK.out.2.drewN _).step hfz) (by rw [HD.out.1]; exact hrz) hpz (fun x => (hlz x).trans (HD.out.2.2.1 x)) (hiz.trans HD.out.2.2.2)
            · have hdb : (p.1.drops == Mk.dr p.1.key) = false := by simpa using hdd
              have HD := Lib.hid (And.intro (show Mk.undo1 p.1 = Mk by simp [St.undo1, hdd]) (And.intro hp' (And.intro hl' (And.intro hi' hR'))))
              clear hR' hE' hb' hs1 hop hlt hu1 hk1 hGL hGll hGkb hbox hp' hl' hi' hdd hweak hrec
              gi_wp2
              refine region_quiet_round l rfl hmix (by kernel_rfl) (by kernel_rfl) ?_
              repeat (gi_big_quiet_step (fail))
              refine wpQuietIn_nil ?_
              rintro u2 ⟨nq, rfl⟩
              gi_wp2
              exact HEnd.out _ g' y' (HK.out.1.drewN _) (HK.out.2.drewN _) (by rw [HD.out.1]; exact HD.out.2.2.2.2) HD.out.2.1 HD.out.2.2.1 HD.out.2.2.2.1
          · exact ⟨g, y, hE1, HX.out.1, rfl, fun _ => rfl, rfl, hGL0⟩
          · rintro e W2 ⟨⟨v, rfl⟩, g2, y2, hE2, hR2, hp2, hl2, hi2, hb2⟩
            have hrl : W2.heap[l]? = some (.loop (rec .ready)) := hb2.holds l _ (Gh.put_same _ _ _)
            have hend := run_endLoop (P := Tryz.prog) hrl (by rw [hrec]; simp)
            have hpend : (rec .ready).pending = none := by rw [hrec]
            obtain ⟨W3, hW3⟩ : ∃ W3, W2.putObj l (.loop { rec .ready with state := .exhausted }) = W3 := ⟨_, rfl⟩
            rw [hW3, hpend] at hend
            refine ⟨none, W3, hend, ?_⟩
            clear hend
            subst hW3
            refine World.abs (fun u => FEv B g w g2 u ∧ Beside g2 (((((Gh.nil.put kb (.cells #[.pointer (some ⟨y.p, 0, none⟩)] 27)).put bB (.cells #[.slice A' m cp'] 128)).put D (.deferred (some []))).put l (.loop (rec .ready))).put l (.loop { rec .ready with state := .exhausted })) u) ⟨hE2.put hb2 (Gh.put_same _ _ _) hkl _, (hb2.put hE2.fam (Gh.put_same _ _ _) _).2⟩ ?_
            have hfull : (((M.lg txn).drop mk).reverse.take m) = ((M.lg txn).drop mk).reverse := List.take_of_length_le (by rw [List.length_reverse, List.length_drop]; omega)
            rw [hfull] at hR2
            have hfin : ∀ (M2 : St), M2 = (((M.lg txn).drop mk).reverse).foldl St.undo1 M → (M.back txn mk) = { M2 with log := aput M2.log txn ((M2.lg txn).take mk) } ∧ M2.lg txn = M.lg txn := fun M2 h2 => by
              have hlg : M2.log = M.log := by rw [h2, undos_log]
              have hlg2 : M2.lg txn = M.lg txn := by unfold St.lg; rw [hlg]
              refine ⟨?_, hlg2⟩
              rw [hlg2, h2]
              rfl
            obtain ⟨hback, hlg2⟩ := hfin _ rfl
            generalize (((M.lg txn).drop mk).reverse).foldl St.undo1 M = M2 at *
            have HZ := Lib.hid (And.intro hback (And.intro hlg2 (And.intro hR2 hp2)))
            clear hE2 hb2 hrl hpend hbk0 hu0 hGL0 hE1 hfull hfin hL3 hL1 hback hW1
            rintro u2 ⟨hu2, hk2⟩
            have e2 : u2.cell? ⟨kb, 0, none⟩ = some (.pointer (some ⟨y.p, 0, none⟩)) := hk2.holds.cell (by rw [Gh.put_other _ _ hkb.1, Gh.put_other _ _ hkb.1, Gh.put_other _ _ hkb.2.2.2.1, Gh.put_other _ _ hkb.2.2.2.2.2]; exact Gh.put_same _ _ _) rfl
            have hKD : u2.heap[D]? = some (.deferred (some [])) := hk2.holds D _ (by rw [Gh.put_other _ _ hkb.2.2.1, Gh.put_other _ _ hkb.2.2.1]; exact Gh.put_same _ _ _)
            obtain ⟨_, _, _, c3⟩ := hR2.cells hu2.fam
            rw [hp2] at c3
            obtain ⟨lg2, ⟨css2, hall2, hown2⟩, hlk2⟩ := hR2.logAt HX.out.2.2.2.2.2
            obtain ⟨A2, cp2, rfl, hcp2, _⟩ := hown2.form
            have f2 := hlk2 u2.drew (hu2.fam.holds .lM)
            rw [hlg2] at f2 hown2 hcp2
            obtain ⟨x, hx1, hx2, hx3⟩ := MapAt.update klI Tryz.underlying85 (hu2.fam.holds .lM) hR2.lM (k := txn) HX.out.2.2.2.2.2 ((M2.lg txn).take mk) (fun p => ins y2.lv txn (.slice A2 mk cp2) p.1) (fun p _ hne => by rw [ins_other _ _ hne])
            have f3 := hx1 u2.drew (hu2.fam.holds .lM)
            rw [ins_same] at f3
            unfold encI at f2 f3
            have HW := Lib.hid (And.intro hu2 (And.intro hk2 (And.intro hall2 (And.intro hown2 (And.intro hx2 hx3)))))
            have hmc : mk ≤ cp2 := by omega
            have hmc1 : (mk : Int) ≤ (cp2 : Int) := by omega
            clear hu2 hk2 hall2 hown2 hx1 hx2 hx3 hlk2 hR2
            rw [← hact]
            go_wp2
            refine wp_region_still_tail 13 (by kernel_rfl) (by kernel_rfl) ?_
            change wpStill _ _ u2.drew (fun a' => wpList _ _ _ _ a' u2.drew) _ _
            simp only [List.take_succ_cons, List.take_zero, List.drop_succ_cons, List.drop_zero]
            repeat still_step
            refine wpStill_nil ?_
            go_wp2
            obtain ⟨hu2, hk2, hall2, hown2, hx2, hx3⟩ := HW.out
            obtain ⟨hback, hlg2, hR2, hp2⟩ := HZ.out
            have hst := (FEv.refl hu2.fam).drew.then (c := .lM) (hx2 u2.drew (hu2.fam.holds .lM))
            have hk3 := hk2.step hst
            have hGD : (((((Gh.nil.put kb (.cells #[.pointer (some ⟨y.p, 0, none⟩)] 27)).put bB (.cells #[.slice A' m cp'] 128)).put D (.deferred (some []))).put l (.loop (rec .ready))).put l (.loop { rec .ready with state := .exhausted })) D = some (.deferred (some [])) := by
              rw [Gh.put_other _ _ hkb.2.2.1, Gh.put_other _ _ hkb.2.2.1]
              exact Gh.put_same _ _ _
            refine ⟨by simp, .inl ⟨_, _, rfl, run_takeDeferred (hk3.holds D _ hGD), ?_⟩⟩
            refine ⟨_, results_tmp rfl _ _ _, ?_⟩
            refine ⟨_, _, rfl, (hu2.trans hst).put hk3 hGD hle0 _, (congrArg (fun p : St × Int => Value.int .i64 p.2) HM.out).symm, { y2 with lv := ins y2.lv txn (.slice A2 mk cp2) }, ?_, hp2⟩
            rw [HM.out]
            change Rep _ (M.back txn mk) _
            rw [hback]
            refine hR2.setLog txn _ (.slice A2 mk cp2) (fun c n1 n2 n3 n4 => upd_other _ _ n3) (by rw [upd_other _ _ (by simp)]; exact Sub.refl _) (by rw [upd_same]; exact hx3) ?_
            rw [upd_other _ _ (by simp), upd_other _ _ (by simp)]
            have hcl : ∀ x ∈ css2, x.length = 5 := fun x hx => by
              obtain ⟨i, hi⟩ := List.getElem?_of_mem hx
              have hlt := (List.getElem?_eq_some_iff.1 hi).1
              obtain ⟨c, hc⟩ : ∃ c, (M2.lg txn)[i]? = some c := ⟨(M2.lg txn)[i]'(by rw [hall2.length]; exact hlt), List.getElem?_eq_getElem _⟩
              obtain ⟨cs, h1, op, h2, _⟩ := hall2.get hc
              rw [hi] at h1
              cases h1
              rw [h2]
              rfl
            refine ⟨css2.take mk, hall2.take mk, ?_⟩
            rw [flatten_take mk hcl, List.length_take, hlg2, Nat.min_eq_left HX.out.2.2.2.1]
            exact hown2.take HX.out.2.2.2.1
end Go.Ju

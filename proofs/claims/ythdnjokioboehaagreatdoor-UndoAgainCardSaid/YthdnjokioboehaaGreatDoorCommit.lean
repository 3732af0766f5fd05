/- 'Commit'. -/
import Derived.Test.YthdnjokioboehaaGreatDoorTents
import Derived.Deep.Cut
import Derived.LoopN
namespace Go.Ju
open Go.RowKit
open Go.Proofs
open Go.ChangeMaps

theorem commit1_row (M : St) (T : Int) (p : Key × Int) {k : Key} {id : Int} (hne : (k, id) ≠ p) : (M.commit1 T p).row k id = M.row k id := by
  obtain ⟨k', id'⟩ := p
  rw [commit1_eq]
  cases ht : aget M.tabs k' with
  | none => rfl
  | some t =>
    dsimp only
    cases hr : rowsStep T id' t.rows with
    | none => rfl
    | some l =>
      unfold St.row
      by_cases hk : k = k'
      · subst hk
        have hi : id ≠ id' := fun e => hne (by rw [e])
        rw [aget_put_same, ht]
        exact rowsStep_other hr hi
      · rw [aget_put_other _ _ hk]
theorem commit1_log (M : St) (T : Int) (p : Key × Int) : (M.commit1 T p).log = M.log ∧ (M.commit1 T p).time = M.time ∧ (M.commit1 T p).drops = M.drops := by
  obtain ⟨k', id'⟩ := p
  rw [commit1_eq]
  split
  · exact ⟨rfl, rfl, rfl⟩
  · split <;> exact ⟨rfl, rfl, rfl⟩
theorem commits_row {T : Int} {l : List (Key × Int)} {k : Key} {id : Int} (h : (k, id) ∉ l) (M : St) : (l.foldl (fun N p => N.commit1 T p) M).row k id = M.row k id := by
  induction l generalizing M with
  | nil => rfl
  | cons p l ih =>
    rw [List.foldl_cons, ih (fun h' => h (by simp [h'])), commit1_row _ _ _ (fun e => h (by simp [e]))]
theorem commits_log {T : Int} (l : List (Key × Int)) (M : St) : (l.foldl (fun N p => N.commit1 T p) M).log = M.log ∧ (l.foldl (fun N p => N.commit1 T p) M).time = M.time := by
  induction l generalizing M with
  | nil => exact ⟨rfl, rfl⟩
  | cons p l ih =>
    rw [List.foldl_cons, (ih _).1, (ih _).2]
    exact ⟨(commit1_log M T p).1, (commit1_log M T p).2.1⟩
theorem Rep.rowsApart {B : Nat} {g : Comp → Gh} {y : Lay} {M : St} {W : World} (h : Rep y M g) (hF : Fam B g W) : RowsApart y M := by
  have key : ∀ k i r, M.row k i = some r → g (.row k i) (y.rb k i) ≠ none := fun k i r hr => by
    unfold St.row at hr
    cases ht : aget M.tabs k with
    | none => rw [ht] at hr; cases hr
    | some t =>
      rw [ht] at hr
      obtain ⟨sv, op, h1, _⟩ := h.row k t (aget_mem ht) i r (aget_mem hr)
      rw [h1]; simp
  intro k i k' i' r r' hr hr' e
  by_cases hc : Comp.row k i = Comp.row k' i'
  · injection hc with h1 h2
    exact ⟨h1, h2⟩
  · rcases hF.apart _ _ hc (y.rb k i) with h1 | h1
    · exact absurd h1 (key k i r hr)
    · rw [e] at h1
      exact absurd h1 (key k' i' r' hr')
theorem run_len_touch {w : World} {b : Nat} {es : Array MapEntry} {clk : Nat} (hb : w.heap[b]? = some (.map es clk)) : (Builtin.len_ #[135] 3 #[.map (some b)]).run Tryz.prog w = .ok (.int .i64 es.size) w := by
  simp [Builtin.len_, run_underlying Tryz.underlying135, getObj_map hb, Result.andThen, goInt]
/-- What a commit wants of a log: the tables of its changes are there, the rows' numbers are Go's. -/
def LogFit (M : St) (txn : Int) : Prop := (∀ c ∈ M.lg txn, c.drops = M.dr c.key → ∃ t, aget M.tabs c.key = some t) ∧ ∀ c ∈ M.lg txn, okI c.id
def chgObj (c : Chg) (pa : Option Addr) : Obj := .cells #[.string c.key.1, .string c.key.2, .int .i64 c.drops, .int .i64 c.id, .pointer pa] 133
def St.commitA (M : St) (txn : Int) : St × Int × Int := if numB txn then M.commit txn else (M, 0, 2)

theorem Rep.setTime {y : Lay} {M : St} {g g' : Comp → Gh} (h : Rep y M g) (T : Int) (hk : ∀ c, c ≠ .st → g' c = g c)
    (hs : g' .st y.p = some (.cells #[.int .i64 T, .map (some y.tM), .map (some y.dM), .map (some y.lM)] 87 (0, 0))) : Rep y { M with time := T } g' where
  st := hs
  tM := by rw [hk _ (by simp)]; exact h.tM
  dM := by rw [hk _ (by simp)]; exact h.dM
  lM := by rw [hk _ (by simp)]; exact h.lM
  tab k t hkt := by rw [hk _ (by simp)]; exact h.tab k t hkt
  row k t hkt i r hr := by rw [hk _ (by simp), hk _ (by simp)]; exact h.row k t hkt i r hr
  log x l hl := by rw [hk _ (by simp), hk _ (by simp)]; exact h.log x l hl

set_option maxRecDepth 100000 in
set_option maxHeartbeats 1000000 in
theorem commit_any (B N : Nat) (g : Comp → Gh) (w : World) (y : Lay) (M : St) (txn : Int) (hF : Fam B g w) (h : Rep y M g) (hfit : Fit N M) (hN : N ≤ 1000000) (hlf : LogFit M txn) :
    Calls Tryz.prog 34 #[ptr y.p, encI txn] w (Does B g w fun u g' => u = .tuple #[.int .i64 (M.commitA txn).2.1, .int .i64 (M.commitA txn).2.2] ∧ ∃ y', Rep y' (M.commitA txn).1 g' ∧ y'.p = y.p) := by
  have HMk := Lib.hid (mark_any hF h txn 0)
  have HE := Lib.hid (FEv.refl hF)
  cases hn : numB txn with
  | false =>
    have hmm : M.mark txn = (0, 2) := by simp [St.mark, hn]
    have HM : Hid (M.commitA txn = (M, 0, 2)) := by unfold Hid; simp [St.commitA, hn]
    rw [hmm] at HMk
    have HR := Lib.hid h
    clear h hF hfit hlf
    unfold encI ptr at *
    go_enter Tryz.func34, Tryz.ntmps34
    go_wp2_with fail
    refine HMk.out.mono ?_
    rintro e w1 ⟨rfl, rfl⟩
    go_wp2
    go_ret2
    exact ⟨_, _, rfl, HE.out.drewN 0, (congrArg (fun p : St × Int × Int => Value.tuple #[.int .i64 p.2.1, .int .i64 p.2.2]) HM.out).symm, y, by rw [HM.out]; exact HR.out, rfl⟩
  | true =>
    have hmm : M.mark txn = (((M.lg txn).length : Int), 0) := by simp [St.mark, hn]
    have hx := numB_ok hn
    have HM : Hid (M.commitA txn = M.commit txn) := by unfold Hid; simp [St.commitA, hn]
    rw [hmm] at HMk
    have HTch := Lib.hid (touched_any B N g w y M txn hF h hfit hN hx hlf.1 hlf.2)
    have HX := Lib.hid (And.intro h (And.intro hfit (And.intro hN (And.intro hx (And.intro (h.rowsApart hF) hlf.2)))))
    clear h hF hfit hlf hx hN hmm
    unfold encI ptr at *
    go_enter Tryz.func34, Tryz.ntmps34
    go_wp2_with fail
    refine HMk.out.mono ?_
    rintro e w1 ⟨rfl, rfl⟩
    go_wp2_with fail
    refine HTch.out.mono ?_
    rintro e w2 ⟨bo, L, GM, rfl, hE2, hL1, hL3, hb2, htm, hfr⟩
    obtain ⟨es, clk, hbo, hmo⟩ := htm
    have hperm := tents_perm hL1 HX.out.2.2.2.2.1
    obtain ⟨c0, c1, c2, c3⟩ := HX.out.1.cells hE2.fam
    have hob := hb2.holds bo _ hbo
    have hsz : es.size = (tents y M L).length := by rw [hmo.size, List.length_map]
    have hlen := run_len_touch hob
    have H2 := Lib.hid (And.intro hE2 (And.intro (And.intro hL1 hL3) (And.intro hb2 (And.intro hbo (And.intro hmo (And.intro hfr hperm))))))
    have z0 : w2.frozen? ⟨y.p, 0, none⟩ = false := (hE2.fam.holds .st).frozen HX.out.1.st
    clear hE2 hL1 hL3 hb2 hmo hfr hperm hbo
    have hT0 := HX.out.2.1.time
    by_cases hem : tents y M L = []
    · rw [hem] at hsz
      have hsz0 : es.size = 0 := by simpa using hsz
      rw [hsz0] at hlen
      have ht0 : M.touched txn = [] := by
        have := H2.out.2.2.2.2.2.2
        rw [hem] at this
        simpa using this.symm.length_eq
      have HFin : Hid (M.commitA txn = ({ ((M.touched txn).foldl (fun N p => N.commit1 M.time p) M) with log := adel ((M.touched txn).foldl (fun N p => N.commit1 M.time p) M).log txn }, M.time, 0)) := by unfold Hid; rw [HM.out, ht0]; simp [St.commit, ht0]
      clear ht0
      go_upto_region 9 with (fail)
      refine World.abs (fun u => FEv B g w g u ∧ Beside g GM u) ⟨H2.out.1, H2.out.2.2.1⟩ ?_
      clear c0 c1 c2 c3 z0 hob hlen
      rintro u ⟨hu, hbu⟩
      have hst := Walks.start hbu.holds H2.out.2.2.2.1 H2.out.2.2.2.2.1
      have hGI := hbu.alloc (.mapIter (some bo) clk #[] clk) hu
      have hev := hu.more (.mapIter (some bo) clk #[] clk)
      have hbo := H2.out.2.2.2.1
      have hGM := hbu.holds
      have HL := Lib.hid (And.intro hst (And.intro hGI hev))
      have hru := hu.size
      clear hst hGI hev hu hbu
      go_wp2_with (at_range; refine wpList_range_walks rfl _ 135 rfl 95 133 Tryz.underlying135 GM bo es clk rfl hGM hbo ?_)
      go_frame
      generalize u.heap.size = rr at *
      go_loopw [9] (fun _ wr => ∃ (D left : List (Nat × (Chg × Value))) (GI : Gh) (g' : Comp → Gh) (y' : Lay), FEv B g w g' wr ∧ Rep y' ((D.map fun e => (e.2.1.key, e.2.1.id)).foldl (fun N p => N.commit1 (M.time) p) (M)) g' ∧ y'.p = y.p ∧ y'.rb = y.rb ∧ Beside g' GI wr ∧ From w.heap.size GI ∧ Walks ptr (RowB y M) GI rr bo (left.map fun e => (e.1, chgVal e.2.1 e.2.2)) ∧ (D ++ left).Perm (tents y M L)) (fun _ wr => walkLeft wr rr bo)
      case atStart => exact ⟨[], tents y M L, _, _, y, HL.out.2.2, HX.out.1, rfl, rfl, HL.out.2.1, H2.out.2.2.2.2.2.1.put hru _, HL.out.1, List.Perm.refl _⟩
      case round =>
        obtain ⟨D, left, GI, g', y', hE', hR', hp', hrb', hbI, hfI, hwk, hpm⟩ := hrel
        have hGI := hbI.holds
        have HQ := Lib.hid (And.intro hE' (And.intro hR' (And.intro hp' (And.intro hrb' (And.intro hbI (And.intro hfI hpm))))))
        clear hE' hR' hp' hrb' hbI hfI hpm
        go_wp2_with (at_next; refine wpList_next_walks rfl _ rfl GI rr bo _ rfl hGI hwk ?_ ?_)
        · intro h0
          subst h0
          obtain ⟨hE', hR', hp', hrb', hbI, hfI, hpm⟩ := HQ.out
          rw [List.append_nil] at hpm
          have hfold := commits_perm (T := M.time) ((hpm.map fun e => (e.2.1.key, e.2.1.id)).trans H2.out.2.2.2.2.2.2) (M)
          rw [hfold] at hR'
          obtain ⟨hlg, htm⟩ := commits_log (T := M.time) (M.touched txn) (M)
          obtain ⟨_, _, _, c3⟩ := hR'.cells hE'.fam
          obtain ⟨x, hx1, hx2, hx3⟩ := MapAt.delete klI Tryz.underlying85 (hE'.fam.holds .lM) hR'.lM (k := txn) HX.out.2.2.2.1 3 0
          have hd := hx1 wr (hE'.fam.holds .lM)
          have hfin := hE'.then (c := .lM) (hx2 wr (hE'.fam.holds .lM))
          have hRf := hR'.delLog txn (g' := upd g' .lM ((g' .lM).put y'.lM x)) (fun c n1 n2 n3 => upd_other _ _ n3) (by rw [upd_other _ _ (by simp)]; exact Sub.refl _) (by rw [upd_same]; exact hx3)
          obtain ⟨t0, _, _, _⟩ := hRf.cells hfin.fam
          dsimp only at t0
          rw [htm] at t0
          rw [hp'] at c3 t0
          have HZ := Lib.hid (And.intro hfin (And.intro hRf hp'))
          unfold encI at hd
          clear hE' hR' hrb' hbI hfI hpm hx1 hx2 hx3 hfin hRf hwk hGI hfold
          go_wp2
          go_ret2
          exact ⟨_, _, rfl, HZ.out.1, (congrArg (fun p : St × Int × Int => Value.tuple #[.int .i64 p.2.1, .int .i64 p.2.2]) (HFin.out)).symm, y', by rw [HFin.out]; exact HZ.out.2.1, HZ.out.2.2⟩
        · intro id pv left' x w' hperm hok hev hsz hwk' hent
          obtain ⟨q, R', hq1, hq2, hq3⟩ := perm_of_map hperm
          injection hq2 with hq4 hq5
          subst hq4
          subst hq5
          obtain ⟨hE', hR', hp', hrb', hbI, hfI, hpm⟩ := HQ.out
          have hmem : q ∈ tents y M L := hpm.mem_iff.1 (List.mem_append_right _ (hq1.mem_iff.2 (by simp)))
          obtain ⟨g1, g2, g3⟩ := tents_mem L q hmem
          have hown := hE'.own hbI hev hfI
          have hcl : q.2.1 ∈ M.lg txn := by rw [← H2.out.2.1.1]; exact List.mem_map_of_mem g3
          obtain ⟨pa, hpa⟩ := (H2.out.2.1.2 _ g3).ptr
          obtain ⟨r, v, hr, ho⟩ := tch_row g1
          have hnd : ((D ++ left).map fun e => (e.2.1.key, e.2.1.id)).Nodup := ((hpm.map fun e => (e.2.1.key, e.2.1.id)).trans H2.out.2.2.2.2.2.2).nodup_iff.2 (by unfold St.touched; exact nodup_uniq _)
          have hnot : (q.2.1.key, q.2.1.id) ∉ D.map fun e => (e.2.1.key, e.2.1.id) := fun hm => by
            rw [List.map_append, List.nodup_append] at hnd
            exact hnd.2.2 _ hm _ (List.mem_map_of_mem (f := fun e : Nat × (Chg × Value) => (e.2.1.key, e.2.1.id)) (hq1.mem_iff.2 (by simp : q ∈ q :: R'))) rfl
          have hrow : ((D.map fun e => (e.2.1.key, e.2.1.id)).foldl (fun N p => N.commit1 (M.time) p) (M)).row q.2.1.key q.2.1.id = some r := by rw [commits_row hnot]; exact hr
          have htr : ∃ t', aget ((D.map fun e => (e.2.1.key, e.2.1.id)).foldl (fun N p => N.commit1 (M.time) p) (M)).tabs q.2.1.key = some t' ∧ aget t'.rows q.2.1.id = some r := by
            unfold St.row at hrow
            cases hta : aget ((D.map fun e => (e.2.1.key, e.2.1.id)).foldl (fun N p => N.commit1 (M.time) p) (M)).tabs q.2.1.key with
            | none => rw [hta] at hrow; cases hrow
            | some t' => rw [hta] at hrow; exact ⟨t', rfl, hrow⟩
          obtain ⟨t', ht', hr'⟩ := htr
          have hol : r.old.length ≤ 6 := by
            unfold St.row at hr
            cases hta : aget M.tabs q.2.1.key with
            | none => rw [hta] at hr; cases hr
            | some t0 => rw [hta] at hr; exact HX.out.2.1.old _ t0 (aget_mem hta) _ r (aget_mem hr)
          have htime : ((D.map fun e => (e.2.1.key, e.2.1.id)).foldl (fun N p => N.commit1 (M.time) p) (M)).time = M.time := (commits_log _ _).2
          have HCR := Lib.hid (fun W (hW : Fam B g' W) => commitR_any B g' W y' _ q.2.1.key q.2.1.id q.2.1.drops t' r v pa hW hR' ht' hr' ho (HX.out.2.2.2.2.2 _ hcl) hol)
          rw [htime, hrb', hp'] at HCR
          have hbox := hown.2.alloc (chgObj q.2.1 pa) hown.1
          have hev2 := hown.1.more (chgObj q.2.1 pa)
          have hfI2 := (hfI.put (b := rr) (by obtain ⟨o1, o2, ho1, ho2⟩ := hwk.both; exact hfI rr (by rw [ho2]; simp)) x).put (b := w'.heap.size) hown.1.size (chgObj q.2.1 pa)
          have hlw : bo ≠ w'.heap.size ∧ rr ≠ w'.heap.size := by
            obtain ⟨o1, o2, ho1, ho2⟩ := hwk'.both
            exact ⟨hown.2.holds.ne_size ho1, hown.2.holds.ne_size ho2⟩
          have HWr := Lib.hid (hwk.left_eq hGI)
          have HZ := Lib.hid (And.intro hev2 (And.intro hbox (And.intro hfI2 (And.intro hwk' (And.intro hq3 (And.intro hq1 (And.intro hpm hlw)))))))
          rw [hpa] at hent
          unfold chgVal ptr at hent
          unfold ptr at HCR
          clear hlw hE' hR' hrb' hbI hfI hpm hev hown hcl hnd hnot hrow ht' hr' hol htime hbox hev2 hfI2 hwk' hq3 hq1 hperm hok hwk hGI hr ho g1
          go_wp2_with fail
          refine (HCR.out _ HZ.out.1.fam).mono ?_
          rintro e z ⟨vz, gz, rfl, hfz, rfl, yz, hrz, hpz, hrbz⟩
          go_wp2
          obtain ⟨hev2, hbox, hfI2, hwk', hq3, hq1, hpm, hlw⟩ := HZ.out
          have hwk2 := ((hwk'.congr hq3).keep (G' := (GI.put rr x).put w'.heap.size (chgObj q.2.1 pa)) (Gh.put_other _ _ hlw.1) (Gh.put_other _ _ hlw.2))
          have hbz := hbox.step hfz
          refine ⟨⟨D ++ [q], R', (GI.put rr x).put w'.heap.size (chgObj q.2.1 pa), gz, yz, hev2.trans hfz, ?_, hpz, hrbz, hbz, hfI2, hwk2, ?_⟩, ?_⟩
          · rw [List.map_append, List.foldl_append]
            exact hrz
          · rw [List.append_assoc]
            exact (hq1.symm.append_left D).trans hpm
          · rw [hwk2.left_eq hbz.holds, HWr.out]
            have := hq1.length_eq
            simp only [List.length_map, List.length_cons] at this ⊢
            omega
    · have hpos : 0 < (es.size : Int) := by
        have : 0 < (tents y M L).length := List.length_pos_iff.2 hem
        omega
      by_cases hmax : M.time = 1099511627776
      · have htn : M.touched txn ≠ [] := fun e => hem (by
          have := H2.out.2.2.2.2.2.2
          rw [e] at this
          have := this.length_eq
          simp at this
          exact this)
        have HC : Hid (M.commitA txn = (M, 0, 3)) := by unfold Hid; rw [HM.out]; simp [St.commit, htn, hmax]
        rw [hmax] at c0
        clear hem hT0
        go_wp2
        go_ret2
        exact ⟨_, _, rfl, H2.out.1, (congrArg (fun p : St × Int × Int => Value.tuple #[.int .i64 p.2.1, .int .i64 p.2.2]) HC.out).symm, y, by rw [HC.out]; exact HX.out.1, rfl⟩
      · have hmb : (M.time == 1099511627776) = false := by simpa using hmax
        have hwr : IntKind.i64.wrap (M.time + 1) = M.time + 1 := IntWalk.i64_in _ ⟨by omega, by omega⟩
        have hst1 := HX.out.1.st
        have hTm : ((M.time + 1 : Int)) ≤ 1099511627776 := by omega
        have hltp : y.p < w2.heap.size := (H2.out.1.fam.holds .st).lt hst1
        have htn : M.touched txn ≠ [] := fun e => hem (by
          have := H2.out.2.2.2.2.2.2
          rw [e] at this
          have := this.length_eq
          simp at this
          exact this)
        have HFin : Hid (M.commitA txn = ({ ((M.touched txn).foldl (fun N p => N.commit1 (M.time + 1) p) ({ M with time := M.time + 1 } : St)) with log := adel ((M.touched txn).foldl (fun N p => N.commit1 (M.time + 1) p) ({ M with time := M.time + 1 } : St)).log txn }, M.time + 1, 0)) := by unfold Hid; rw [HM.out]; simp [St.commit, htn, hmax]
        have hE1 := fun nn => (H2.out.1.drewN nn).setCell (c := .st) (i := 0) hst1 (.int .i64 (M.time + 1))
        have hB1 := fun nn => (Beside.drewN H2.out.2.2.1 nn).step ((FEv.refl (H2.out.1.fam.drewN nn)).setCell (c := .st) (i := 0) hst1 (.int .i64 (M.time + 1)))
        have hR1 := HX.out.1.setTime (M.time + 1) (g' := upd g .st ((g .st).put y.p (.cells (#[.int .i64 M.time, .map (some y.tM), .map (some y.dM), .map (some y.lM)].setIfInBounds 0 (.int .i64 (M.time + 1))) 87 (0, 0)))) (fun c hc => upd_other _ _ hc) (by rw [upd_same, Gh.put_same]; rfl)
        generalize hg1 : upd g .st ((g .st).put y.p (.cells (#[.int .i64 M.time, .map (some y.tM), .map (some y.dM), .map (some y.lM)].setIfInBounds 0 (.int .i64 (M.time + 1))) 87 (0, 0))) = g1 at *
        have H3 := Lib.hid (And.intro hE1 (And.intro hB1 hR1))
        clear htn hmax hem hst1 hE1 hB1 hR1 hg1
        go_upto_region 9 with (fail)
        clear hwr hmb hpos hTm hltp
        refine World.abs (fun u => FEv B g w g1 u ∧ Beside g1 GM u) ⟨H3.out.1 0, H3.out.2.1 0⟩ ?_
        clear c0 c1 c2 c3 z0 hob hlen
        rintro u ⟨hu, hbu⟩
        have hst := Walks.start hbu.holds H2.out.2.2.2.1 H2.out.2.2.2.2.1
        have hGI := hbu.alloc (.mapIter (some bo) clk #[] clk) hu
        have hev := hu.more (.mapIter (some bo) clk #[] clk)
        have hbo := H2.out.2.2.2.1
        have hGM := hbu.holds
        have HL := Lib.hid (And.intro hst (And.intro hGI hev))
        have hru := hu.size
        clear hst hGI hev hu hbu
        go_wp2_with (at_range; refine wpList_range_walks rfl _ 135 rfl 95 133 Tryz.underlying135 GM bo es clk rfl hGM hbo ?_)
        go_frame
        generalize u.heap.size = rr at *
        go_loopw [9] (fun _ wr => ∃ (D left : List (Nat × (Chg × Value))) (GI : Gh) (g' : Comp → Gh) (y' : Lay), FEv B g w g' wr ∧ Rep y' ((D.map fun e => (e.2.1.key, e.2.1.id)).foldl (fun N p => N.commit1 ((M.time + 1)) p) (({ M with time := M.time + 1 } : St))) g' ∧ y'.p = y.p ∧ y'.rb = y.rb ∧ Beside g' GI wr ∧ From w.heap.size GI ∧ Walks ptr (RowB y M) GI rr bo (left.map fun e => (e.1, chgVal e.2.1 e.2.2)) ∧ (D ++ left).Perm (tents y M L)) (fun _ wr => walkLeft wr rr bo)
        case atStart => exact ⟨[], tents y M L, _, _, y, HL.out.2.2, H3.out.2.2, rfl, rfl, HL.out.2.1, H2.out.2.2.2.2.2.1.put hru _, HL.out.1, List.Perm.refl _⟩
        case round =>
          obtain ⟨D, left, GI, g', y', hE', hR', hp', hrb', hbI, hfI, hwk, hpm⟩ := hrel
          have hGI := hbI.holds
          have HQ := Lib.hid (And.intro hE' (And.intro hR' (And.intro hp' (And.intro hrb' (And.intro hbI (And.intro hfI hpm))))))
          clear hE' hR' hp' hrb' hbI hfI hpm
          go_wp2_with (at_next; refine wpList_next_walks rfl _ rfl GI rr bo _ rfl hGI hwk ?_ ?_)
          · intro h0
            subst h0
            obtain ⟨hE', hR', hp', hrb', hbI, hfI, hpm⟩ := HQ.out
            rw [List.append_nil] at hpm
            have hfold := commits_perm (T := (M.time + 1)) ((hpm.map fun e => (e.2.1.key, e.2.1.id)).trans H2.out.2.2.2.2.2.2) (({ M with time := M.time + 1 } : St))
            rw [hfold] at hR'
            obtain ⟨hlg, htm⟩ := commits_log (T := (M.time + 1)) (M.touched txn) (({ M with time := M.time + 1 } : St))
            obtain ⟨_, _, _, c3⟩ := hR'.cells hE'.fam
            obtain ⟨x, hx1, hx2, hx3⟩ := MapAt.delete klI Tryz.underlying85 (hE'.fam.holds .lM) hR'.lM (k := txn) HX.out.2.2.2.1 3 0
            have hd := hx1 wr (hE'.fam.holds .lM)
            have hfin := hE'.then (c := .lM) (hx2 wr (hE'.fam.holds .lM))
            have hRf := hR'.delLog txn (g' := upd g' .lM ((g' .lM).put y'.lM x)) (fun c n1 n2 n3 => upd_other _ _ n3) (by rw [upd_other _ _ (by simp)]; exact Sub.refl _) (by rw [upd_same]; exact hx3)
            obtain ⟨t0, _, _, _⟩ := hRf.cells hfin.fam
            dsimp only at t0
            rw [htm] at t0
            dsimp only at t0
            rw [hp'] at c3 t0
            have HZ := Lib.hid (And.intro hfin (And.intro hRf hp'))
            unfold encI at hd
            clear hE' hR' hrb' hbI hfI hpm hx1 hx2 hx3 hfin hRf hwk hGI hfold
            go_wp2
            go_ret2
            exact ⟨_, _, rfl, HZ.out.1, (congrArg (fun p : St × Int × Int => Value.tuple #[.int .i64 p.2.1, .int .i64 p.2.2]) (HFin.out)).symm, y', by rw [HFin.out]; exact HZ.out.2.1, HZ.out.2.2⟩
          · intro id pv left' x w' hperm hok hev hsz hwk' hent
            obtain ⟨q, R', hq1, hq2, hq3⟩ := perm_of_map hperm
            injection hq2 with hq4 hq5
            subst hq4
            subst hq5
            obtain ⟨hE', hR', hp', hrb', hbI, hfI, hpm⟩ := HQ.out
            have hmem : q ∈ tents y M L := hpm.mem_iff.1 (List.mem_append_right _ (hq1.mem_iff.2 (by simp)))
            obtain ⟨g1, g2, g3⟩ := tents_mem L q hmem
            have hown := hE'.own hbI hev hfI
            have hcl : q.2.1 ∈ M.lg txn := by rw [← H2.out.2.1.1]; exact List.mem_map_of_mem g3
            obtain ⟨pa, hpa⟩ := (H2.out.2.1.2 _ g3).ptr
            obtain ⟨r, v, hr, ho⟩ := tch_row g1
            have hnd : ((D ++ left).map fun e => (e.2.1.key, e.2.1.id)).Nodup := ((hpm.map fun e => (e.2.1.key, e.2.1.id)).trans H2.out.2.2.2.2.2.2).nodup_iff.2 (by unfold St.touched; exact nodup_uniq _)
            have hnot : (q.2.1.key, q.2.1.id) ∉ D.map fun e => (e.2.1.key, e.2.1.id) := fun hm => by
              rw [List.map_append, List.nodup_append] at hnd
              exact hnd.2.2 _ hm _ (List.mem_map_of_mem (f := fun e : Nat × (Chg × Value) => (e.2.1.key, e.2.1.id)) (hq1.mem_iff.2 (by simp : q ∈ q :: R'))) rfl
            have hrow : ((D.map fun e => (e.2.1.key, e.2.1.id)).foldl (fun N p => N.commit1 ((M.time + 1)) p) (({ M with time := M.time + 1 } : St))).row q.2.1.key q.2.1.id = some r := by rw [commits_row hnot]; exact hr
            have htr : ∃ t', aget ((D.map fun e => (e.2.1.key, e.2.1.id)).foldl (fun N p => N.commit1 ((M.time + 1)) p) (({ M with time := M.time + 1 } : St))).tabs q.2.1.key = some t' ∧ aget t'.rows q.2.1.id = some r := by
              unfold St.row at hrow
              cases hta : aget ((D.map fun e => (e.2.1.key, e.2.1.id)).foldl (fun N p => N.commit1 ((M.time + 1)) p) (({ M with time := M.time + 1 } : St))).tabs q.2.1.key with
              | none => rw [hta] at hrow; cases hrow
              | some t' => rw [hta] at hrow; exact ⟨t', rfl, hrow⟩
            obtain ⟨t', ht', hr'⟩ := htr
            have hol : r.old.length ≤ 6 := by
              unfold St.row at hr
              cases hta : aget M.tabs q.2.1.key with
              | none => rw [hta] at hr; cases hr
              | some t0 => rw [hta] at hr; exact HX.out.2.1.old _ t0 (aget_mem hta) _ r (aget_mem hr)
            have htime : ((D.map fun e => (e.2.1.key, e.2.1.id)).foldl (fun N p => N.commit1 ((M.time + 1)) p) (({ M with time := M.time + 1 } : St))).time = (M.time + 1) := (commits_log _ _).2
            have HCR := Lib.hid (fun W (hW : Fam B g' W) => commitR_any B g' W y' _ q.2.1.key q.2.1.id q.2.1.drops t' r v pa hW hR' ht' hr' ho (HX.out.2.2.2.2.2 _ hcl) hol)
            rw [htime, hrb', hp'] at HCR
            have hbox := hown.2.alloc (chgObj q.2.1 pa) hown.1
            have hev2 := hown.1.more (chgObj q.2.1 pa)
            have hfI2 := (hfI.put (b := rr) (by obtain ⟨o1, o2, ho1, ho2⟩ := hwk.both; exact hfI rr (by rw [ho2]; simp)) x).put (b := w'.heap.size) hown.1.size (chgObj q.2.1 pa)
            have hlw : bo ≠ w'.heap.size ∧ rr ≠ w'.heap.size := by
              obtain ⟨o1, o2, ho1, ho2⟩ := hwk'.both
              exact ⟨hown.2.holds.ne_size ho1, hown.2.holds.ne_size ho2⟩
            have HWr := Lib.hid (hwk.left_eq hGI)
            have HZ := Lib.hid (And.intro hev2 (And.intro hbox (And.intro hfI2 (And.intro hwk' (And.intro hq3 (And.intro hq1 (And.intro hpm hlw)))))))
            rw [hpa] at hent
            unfold chgVal ptr at hent
            unfold ptr at HCR
            clear hlw hE' hR' hrb' hbI hfI hpm hev hown hcl hnd hnot hrow ht' hr' hol htime hbox hev2 hfI2 hwk' hq3 hq1 hperm hok hwk hGI hr ho g1
            go_wp2_with fail
            refine (HCR.out _ HZ.out.1.fam).mono ?_
            rintro e z ⟨vz, gz, rfl, hfz, rfl, yz, hrz, hpz, hrbz⟩
            go_wp2
            obtain ⟨hev2, hbox, hfI2, hwk', hq3, hq1, hpm, hlw⟩ := HZ.out
            have hwk2 := ((hwk'.congr hq3).keep (G' := (GI.put rr x).put w'.heap.size (chgObj q.2.1 pa)) (Gh.put_other _ _ hlw.1) (Gh.put_other _ _ hlw.2))
            have hbz := hbox.step hfz
            refine ⟨⟨D ++ [q], R', (GI.put rr x).put w'.heap.size (chgObj q.2.1 pa), gz, yz, hev2.trans hfz, ?_, hpz, hrbz, hbz, hfI2, hwk2, ?_⟩, ?_⟩
            · rw [List.map_append, List.foldl_append]
              exact hrz
            · rw [List.append_assoc]
              exact (hq1.symm.append_left D).trans hpm
            · rw [hwk2.left_eq hbz.holds, HWr.out]
              have := hq1.length_eq
              simp only [List.length_map, List.length_cons] at this ⊢
              omega
end Go.Ju

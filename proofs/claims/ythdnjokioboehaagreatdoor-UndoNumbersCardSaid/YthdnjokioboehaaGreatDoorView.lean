/- 'view': what a transaction sees of the tables of some calls, at some times. -/
import Derived.Test.YthdnjokioboehaaGreatDoorMade
namespace Go.Ju
open Go.RowKit
open Go.Proofs
open Go.ChangeMaps

theorem sub_left (A B : Gh) : Sub A (A.or B) := fun _ _ => Gh.or_left _ _
theorem sub_right {A B : Gh} (h : Apart A B) : Sub B (A.or B) := fun _ _ hb => Gh.or_right h hb
theorem sub_or {A B C : Gh} (h1 : Sub A C) (h2 : Sub B C) : Sub (A.or B) C := fun b o hb => by
  unfold Gh.or at hb
  cases hc : A b with
  | some x => rw [hc] at hb; exact h1 b o (by rw [hc]; exact hb)
  | none => rw [hc] at hb; exact h2 b o hb
/-- A part of the caller's blocks goes on. -/
theorem Stage.swap {w0 u u' : World} {p n : Nat} {M : St} {G GO GO' : Gh} (h : Stage w0 p n M (G.or GO) u) (hap : Apart G GO) (hf : From w0.heap.size GO) (he : Ev GO u GO' u') :
    Stage w0 p n M (G.or GO') u' ∧ Apart G GO' ∧ From w0.heap.size GO' := by
  obtain ⟨y, g, h1, h2, h3, h4, h5⟩ := h
  have hGO : Sub GO (G.or GO) := fun b o hb => Gh.or_right hap hb
  have hgo : ∀ c, Apart GO (g c) := fun c b => by
    rcases h5.apart c b with h6 | h6
    · exact .inr h6
    · left
      cases hx : GO b with
      | none => rfl
      | some x => rw [hGO b x hx] at h6; cases h6
  have hG : Holds G u := fun b o hb => h5.holds b o (Gh.or_left _ _ hb)
  have hfr : ∀ b, GO' b ≠ none → GO b ≠ none ∨ u.heap.size ≤ b := he.fresh
  have hapN : ∀ {X : Gh}, Holds X u → Apart X GO → Apart X GO' := fun {X} hX hXa b => by
    cases hx : X b with
    | none => exact .inl rfl
    | some o =>
      right
      cases hy : GO' b with
      | none => rfl
      | some z =>
        rcases hfr b (by rw [hy]; simp) with h7 | h7
        · rcases hXa b with h8 | h8
          · rw [h8] at hx; cases hx
          · exact absurd h8 h7
        · have := hX.lt hx; omega
  have hG' : Holds G u' := he.frame hG hap.symm
  refine ⟨⟨y, g, h1, ⟨⟨fun c => he.frame (h2.fam.holds c) (hgo c), h2.fam.apart, h2.fam.base, Nat.le_trans h2.fam.le he.size⟩, he.os.trans h2.os, he.tape.trans h2.tape, he.output.trans h2.output, Nat.le_trans h2.size he.size, fun b hb hg => ?_, h2.fresh⟩, h3, h4, (holds_or hG' he.holds).1, fun c b => ?_⟩, hapN hG hap, fun b hb => ?_⟩
  · have h9 : GO b = none := by
      cases hx : GO b with
      | none => rfl
      | some x => have := hf b (by rw [hx]; simp); omega
    rw [he.keep b (by have := h2.size; omega) h9]
    exact h2.keep b hb hg
  · have hga := hapN (h2.fam.holds c) (hgo c).symm b
    rcases hga with h6 | h6
    · exact .inl h6
    · rcases h5.apart c b with h7 | h7
      · exact .inl h7
      · right
        unfold Gh.or at h7 ⊢
        cases hx : G b with
        | none => rw [h6]; rfl
        | some x => rw [hx] at h7; cases h7
  · rcases hfr b hb with h7 | h7
    · exact hf b h7
    · have := h2.size; omega

/-! ### replies in a row -/
def ReplyIs (G : Gh) (r : Reply) (cs : List Value) : Prop := ∃ rv hv, cs = [.int .i64 r.n, .int .i64 r.m, .int .i64 r.e, rv, hv] ∧ RepAt G rv hv r
def RepsAt (G : Gh) (v : Value) (l : List Reply) : Prop := ∃ css A c, All2 (ReplyIs G) l css ∧ v = .slice A l.length c ∧ l.length ≤ c ∧ Span G A css.flatten
theorem ReplyIs.sub {G G' : Gh} {r : Reply} {cs : List Value} (h : ReplyIs G r cs) (hs : Sub G G') : ReplyIs G' r cs := by
  obtain ⟨rv, hv, h1, h2⟩ := h
  exact ⟨rv, hv, h1, h2.sub hs⟩
theorem RepsAt.sub {G G' : Gh} {v : Value} {l : List Reply} (h : RepsAt G v l) (hs : Sub G G') : RepsAt G' v l := by
  obtain ⟨css, A, c, h1, h2, h3, h4⟩ := h
  exact ⟨css, A, c, h1.imp (fun _ _ k => k.sub hs), h2, h3, h4.sub hs⟩
def atRep (M : St) (txn t : Int) (a : ActM) : Reply := ⟨0, 0, (M.atA a.key t txn).2, [], (M.atA a.key t txn).1⟩
def viewRow (M : St) (txn t : Int) (l : List ActM) : List Reply := l.map (atRep M txn t)
def viewA (M : St) (txn from' : Int) (cnt : Nat) (l : List ActM) : List Reply := (List.range cnt).flatMap fun (i : Nat) => viewRow M txn (from' + (i : Int)) (l.take 6)
theorem viewA_succ (M : St) (txn from' : Int) (j : Nat) (l : List ActM) : viewA M txn from' (j + 1) l = viewA M txn from' j l ++ viewRow M txn (from' + j) (l.take 6) := by
  unfold viewA
  rw [List.range_succ, List.flatMap_append]
  simp
theorem viewRow_snoc (M : St) (txn t : Int) {l : List ActM} {k : Nat} {a : ActM} (h : l[k]? = some a) : viewRow M txn t (l.take (k + 1)) = viewRow M txn t (l.take k) ++ [atRep M txn t a] := by
  unfold viewRow
  rw [List.take_add_one, h, List.map_append]
  rfl
theorem viewA_len (M : St) (txn from' : Int) (j : Nat) (l : List ActM) : (viewA M txn from' j l).length ≤ 6 * j := by
  induction j with
  | zero => simp [viewA]
  | succ j ih =>
    rw [viewA_succ, List.length_append]
    have : (viewRow M txn (from' + j) (l.take 6)).length ≤ 6 := by unfold viewRow; rw [List.length_map, List.length_take]; omega
    omega
theorem Tryz.infoReply : (Tryz.prog.info? 47).map (fun i => (i.zero, i.size, i.bytes)) = some (some (.agg #[.int .i64 0, .int .i64 0, .int .i64 0, .slice none 0 0, .slice none 0 0]), 5, 72) := by kernel_rfl
/-- Where the loops of 'view' stand. -/
structure ViewSt (w0 : World) (p n : Nat) (M : St) (G : Gh) (out : Value) (reps : List Reply) (W : World) (G1 GO : Gh) (css : List (List Value)) : Prop where
  st : Stage w0 p n M (G1.or GO) W
  ap : Apart G1 GO
  fr : From w0.heap.size GO
  sub : Sub G G1
  own : Own GO 47 5 out reps.length css.flatten
  reps : All2 (ReplyIs G1) reps css
theorem ViewSt.done {w0 W : World} {p n : Nat} {M : St} {G G1 GO : Gh} {out : Value} {reps : List Reply} {css : List (List Value)} (h : ViewSt w0 p n M G out reps W G1 GO css) : ∃ G', Stage w0 p n M G' W ∧ Sub G G' ∧ RepsAt G' out reps := by
  have s1 : Sub G1 (G1.or GO) := fun _ _ => Gh.or_left _ _
  have s2 : Sub GO (G1.or GO) := fun _ _ hb => Gh.or_right h.ap hb
  obtain ⟨A, c, rfl, hc, hs⟩ := h.own.form
  exact ⟨_, h.st, h.sub.trans s1, css, A, c, h.reps.imp fun _ _ k => k.sub s1, rfl, hc, hs.sub s2⟩
theorem ViewSt.start {w0 W : World} {p n : Nat} {M : St} {G : Gh} (h : Stage w0 p n M G W) : ViewSt w0 p n M G (.slice none 0 0) [] W G Gh.nil [] :=
  ⟨h.weaken (sub_or (Sub.refl _) (fun _ _ h => by cases h)), fun _ => .inr rfl, fun _ h => absurd rfl h, Sub.refl _, Own.nil _ _ _, .nil⟩
theorem ViewSt.more {w0 W : World} {p n : Nat} {M : St} {G G1 GO : Gh} {out : Value} {reps : List Reply} {css : List (List Value)} (h : ViewSt w0 p n M G out reps W G1 GO css) (o : Obj) : ViewSt w0 p n M G out reps (W.alloc o) G1 GO css :=
  ⟨h.st.step ((Below.refl _ _).alloc (Nat.le_refl _) o), h.ap, h.fr, h.sub, h.own, h.reps⟩
theorem ViewSt.push {w0 wi w2 : World} {p n : Nat} {M : St} {G G2 GO2 Gr : Gh} {out : Value} {reps : List Reply} {css : List (List Value)} (h : ViewSt w0 p n M G out reps wi G2 GO2 css) (o : Obj)
    (hS : Stage w0 p n M ((((G2.or GO2).put wi.heap.size o).put (wi.heap.size + 1) zeroRep).or Gr) w2) (hs : Sub Gr ((((G2.or GO2).put wi.heap.size o).put (wi.heap.size + 1) zeroRep).or Gr)) (hf : From (wi.heap.size + 1 + 1) Gr)
    (hv : Value) (r : Reply) (hrow : r.row = []) (hsm : HeldSmall r.held) (hh : HeldsAt Gr Gr hv r.held) (ev : Value) :
    let W3 := ((w2.setCell ⟨wi.heap.size + 1, 4, none⟩ hv).setCell ⟨wi.heap.size + 1, 2, none⟩ ev).alloc (.cells #[.int .i64 r.n, .int .i64 r.m, .int .i64 r.e, .slice none 0 0, hv] 47)
    let GO1 := GO2.put w2.heap.size (.cells #[.int .i64 r.n, .int .i64 r.m, .int .i64 r.e, .slice none 0 0, hv] 47)
    Holds GO1 W3 ∧ Own GO1 47 5 out reps.length css.flatten ∧ Span GO1 (some ⟨w2.heap.size, 0, none⟩) [.int .i64 r.n, .int .i64 r.m, .int .i64 r.e, .slice none 0 0, hv] ∧
      ∀ v' GO' w5, Appended GO1 W3 47 5 out (reps.length + 1) (css.flatten ++ [.int .i64 r.n, .int .i64 r.m, .int .i64 r.e, .slice none 0 0, hv]) v' GO' w5 →
        ViewSt w0 p n M G v' (reps ++ [r]) w5 (G2.or Gr) GO' (css ++ [[.int .i64 r.n, .int .i64 r.m, .int .i64 r.e, .slice none 0 0, hv]]) := by
  intro W3 GO1
  have hlt1 : ∀ b, G2 b ≠ none → b < wi.heap.size := fun b hb => by
    cases hx : G2 b with
    | none => exact absurd hx hb
    | some x => exact h.st.holds.lt (Gh.or_left _ _ hx)
  have hlt2 : ∀ b, GO2 b ≠ none → b < wi.heap.size := fun b hb => by
    cases hx : GO2 b with
    | none => exact absurd hx hb
    | some x => exact h.st.holds.lt (Gh.or_right h.ap hx)
  have hltr : ∀ b, Gr b ≠ none → b < w2.heap.size := fun b hb => by
    cases hx : Gr b with
    | none => exact absurd hx hb
    | some x => exact hS.holds.lt (hs b x hx)
  have e1 : ((((G2.or GO2).put wi.heap.size o).put (wi.heap.size + 1) zeroRep).or Gr) (wi.heap.size + 1) = some zeroRep := Gh.or_left _ _ (Gh.put_same _ _ _)
  have hsz : wi.heap.size + 1 < w2.heap.size := hS.holds.lt e1
  have hbase : Sub (G2.or GO2) ((((G2.or GO2).put wi.heap.size o).put (wi.heap.size + 1) zeroRep).or Gr) := fun b x hb => by
    have hl : b < wi.heap.size := h.st.holds.lt hb
    refine Gh.or_left _ _ ?_
    rw [Gh.put_other _ _ (by omega), Gh.put_other _ _ (by omega)]
    exact hb
  have hsub : Sub ((G2.or Gr).or GO2) ((((G2.or GO2).put wi.heap.size o).put (wi.heap.size + 1) zeroRep).or Gr) := sub_or (sub_or ((sub_left G2 GO2).trans hbase) hs) ((sub_right h.ap).trans hbase)
  have hnone : ((G2.or Gr).or GO2) (wi.heap.size + 1) = none := by
    have a1 : G2 (wi.heap.size + 1) = none := by
      cases hx : G2 (wi.heap.size + 1) with
      | none => rfl
      | some x => have := hlt1 _ (by rw [hx]; simp); omega
    have a2 : GO2 (wi.heap.size + 1) = none := by
      cases hx : GO2 (wi.heap.size + 1) with
      | none => rfl
      | some x => have := hlt2 _ (by rw [hx]; simp); omega
    have a3 : Gr (wi.heap.size + 1) = none := by
      cases hx : Gr (wi.heap.size + 1) with
      | none => rfl
      | some x => have := hf _ (by rw [hx]; simp); omega
    unfold Gh.or
    rw [a1, a2, a3]
    rfl
  have hB := h.st.below.size
  have hT : Stage w0 p n M ((G2.or Gr).or GO2) ((w2.setCell ⟨wi.heap.size + 1, 4, none⟩ hv).setCell ⟨wi.heap.size + 1, 2, none⟩ ev) :=
    hS.touch (s1 := wi.heap.size + 1) (s2 := wi.heap.size + 1) (by simp only [os_setCell]) (by simp only [tape_setCell]) (by simp only [output_setCell]) (by simp only [size_setCell]) (fun b h1 _ => by simp only [heap_setCell_ne _ _ _ _ h1]) (by rw [e1]; simp) (by rw [e1]; simp) (by omega) (by omega) hsub hnone hnone
  have hap : Apart (G2.or Gr) GO2 := fun b => by
    cases hx : GO2 b with
    | none => exact .inr rfl
    | some x =>
      left
      have hl := hlt2 b (by rw [hx]; simp)
      have a1 : G2 b = none := by rcases h.ap b with a | a; exact a; rw [a] at hx; cases hx
      have a3 : Gr b = none := by
        cases hy : Gr b with
        | none => rfl
        | some x => have := hf _ (by rw [hy]; simp); omega
      unfold Gh.or
      rw [a1, a3]
      rfl
  have hszW : ((w2.setCell ⟨wi.heap.size + 1, 4, none⟩ hv).setCell ⟨wi.heap.size + 1, 2, none⟩ ev).heap.size = w2.heap.size := by simp only [size_setCell]
  have hA := hT.alloc (.cells #[.int .i64 r.n, .int .i64 r.m, .int .i64 r.e, .slice none 0 0, hv] 47)
  rw [hszW] at hA
  have hltN : ∀ b, ((G2.or Gr).or GO2) b ≠ none → b < w2.heap.size := fun b hb => by
    cases hx : ((G2.or Gr).or GO2) b with
    | none => exact absurd hx hb
    | some x => have := hT.holds.lt hx; rwa [hszW] at this
  have hNew : Sub ((G2.or Gr).or GO1) (((G2.or Gr).or GO2).put w2.heap.size (.cells #[.int .i64 r.n, .int .i64 r.m, .int .i64 r.e, .slice none 0 0, hv] 47)) := by
    have hold : Sub ((G2.or Gr).or GO2) (((G2.or Gr).or GO2).put w2.heap.size (.cells #[.int .i64 r.n, .int .i64 r.m, .int .i64 r.e, .slice none 0 0, hv] 47)) := fun b x hb => by
      rw [Gh.put_other _ _ (by have := hltN b (by rw [hb]; simp); omega)]
      exact hb
    refine sub_or ((sub_left (G2.or Gr) GO2).trans hold) fun b x hb => ?_
    by_cases e : b = w2.heap.size
    · subst e
      rw [Gh.put_same]
      have : GO1 w2.heap.size = some (.cells #[.int .i64 r.n, .int .i64 r.m, .int .i64 r.e, .slice none 0 0, hv] 47) := Gh.put_same _ _ _
      rw [this] at hb
      exact hb
    · have : GO1 b = GO2 b := Gh.put_other _ _ e
      rw [this] at hb
      exact hold b x (Gh.or_right hap hb)
  have hS3 : Stage w0 p n M ((G2.or Gr).or GO1) W3 := hA.weaken hNew
  have hap1 : Apart (G2.or Gr) GO1 := fun b => by
    by_cases e : b = w2.heap.size
    · left
      cases hx : (G2.or Gr) b with
      | none => rfl
      | some x => have := hltN b (by rw [Gh.or_left _ _ hx]; simp); omega
    · have : GO1 b = GO2 b := Gh.put_other _ _ e
      rw [this]
      exact hap b
  have hfr1 : From w0.heap.size GO1 := h.fr.put (by omega) _
  have hO1 : Own GO1 47 5 out reps.length css.flatten := h.own.keep fun b x _ hb => by
    have := hlt2 b (by rw [hb]; simp)
    exact (Gh.put_other _ _ (by omega)).trans hb
  refine ⟨fun b x hb => hS3.holds b x (Gh.or_right hap1 hb), hO1, .inr ⟨_, _, _, _, _, rfl, Gh.put_same _ _ _, fun j u hj => by simpa using hj⟩, fun v' GO' w5 happ => ?_⟩
  obtain ⟨h7, h8, h9⟩ := hS3.swap hap1 hfr1 happ.1
  refine ⟨h7, h8, h9, h.sub.trans (fun _ _ => Gh.or_left _ _), ?_, (h.reps.imp fun _ _ k => k.sub (fun _ _ => Gh.or_left _ _)).append (.cons ⟨.slice none 0 0, hv, rfl, ⟨by rw [hrow]; exact RowAt.nil _, ?_, by rw [hrow]; simp, hsm⟩⟩ .nil)⟩
  · rw [List.length_append, List.flatten_append]
    simpa using happ.2.1
  · refine hh.sub fun b x hb => ?_
    refine Gh.or_right (fun c => ?_) hb
    cases hx : Gr c with
    | none => exact .inr rfl
    | some z =>
      left
      cases hy : G2 c with
      | none => rfl
      | some y => have := hlt1 c (by rw [hy]; simp); have := hf c (by rw [hx]; simp); omega
def ViewIs (w0 : World) (p n : Nat) (M : St) (G : Gh) (reps : List Reply) (e : Ending) (u' : World) : Prop := ∃ v G', e = .returned v ∧ Stage w0 p n M G' u' ∧ Sub G G' ∧ RepsAt G' v reps
set_option maxRecDepth 100000 in
set_option maxHeartbeats 2000000 in
theorem view_any {w0 u : World} {p n : Nat} {M : St} {G Ga : Gh} (h : Stage w0 p n M G u) (hn : n ≤ 1000000) (hGa : ∀ W G', Stage w0 p n M G' W → Sub G G' → Holds Ga W) {v : Value} {l : List ActM} (hl : ActsAt Ga v l)
    (txn from' : Int) (hf0 : 0 ≤ from') (hf1 : from' ≤ M.time + 1) (hcnt : (M.time + 1 - from').toNat ≤ 1000) :
    Calls Tryz.prog 27 #[ptr p, .int .i64 txn, .int .i64 from', v] u (ViewIs w0 p n M G (viewA M txn from' (M.time + 1 - from').toNat l)) := by
  obtain ⟨A, c, rfl, hc, hm, hs⟩ := act_at hl
  have htime := h.inv.core.time
  have HV := Lib.hid hs
  have HGa := Lib.hid hGa
  have HS0 := Lib.hid (ViewSt.start h)
  have HTime := Lib.hid (fun (W : World) (G' : Gh) (hS : Stage w0 p n M G' W) => hS.time)
  have HI := Lib.hid h.inv
  have hnn := hn
  have HAt := Lib.hid (fun (W : World) (G' : Gh) (k : Key) (t : Int) (hS : Stage w0 p n M G' W) => hS.atHas hn k t txn)
  generalize hcn : (M.time + 1 - from').toNat = cnt at *
  have hct : M.time = from' + cnt - 1 := by omega
  generalize hT : M.time = T at *
  generalize hlen : l.length = m at *
  have HCt := Lib.hid hct
  clear hs hGa h hl hn hct hcn
  unfold ptr at *
  go_enter Tryz.func27, Tryz.ntmps27
  go_wp2
  go_loopw [9, 10] (fun out i wr => ∃ (j : Nat) (G1 GO : Gh) (css : List (List Value)), j ≤ cnt ∧ i = .int .i64 (from' + j) ∧ ViewSt w0 p n M G out (viewA M txn from' j l) wr G1 GO css) (fun _ i _ => cnt - ((RowKit.intOf i) - from').toNat)
  case atStart => exact ⟨0, G, Gh.nil, [], Nat.zero_le _, by simp, HS0.out⟩
  case round =>
    obtain ⟨j, G1, GO, css, hj, rfl, hV⟩ := hrel
    obtain ⟨A9, c9, hout, -, -⟩ := hV.own.form
    subst hout
    by_cases hjc : j = cnt
    · subst hjc
      have HE := Lib.hid hV
      have hle : ¬ (from' + (j : Int) ≤ T) := by have := HCt.out; omega
      clear hV HS0
      go_wp2_with (go_at_call 17; refine (HTime.out _ _ HE.out.st).mono ?_; rintro e u1 ⟨rfl, rfl⟩)
      go_ret
      obtain ⟨G', h1, h2, h3⟩ := HE.out.done
      exact ⟨_, G', rfl, h1, h2, h3⟩
    · have hle : from' + (j : Int) ≤ T := by have := HCt.out; omega
      have HE := Lib.hid hV
      clear hV HS0
      go_wp2_with (go_at_call 17; refine (HTime.out _ _ HE.out.st).mono ?_; rintro e u1 ⟨rfl, rfl⟩)
      have hlen6 := viewA_len M txn from' j l
      have HSucc := Lib.hid (viewA_succ M txn from' j l)
      have HSt : Hid (ViewSt w0 p n M G (.slice A9 (viewA M txn from' j l).length c9) (viewA M txn from' j l ++ viewRow M txn (from' + j) ((l.take 6).take 0)) wr G1 GO css) := by
        unfold Hid
        have := HE.out
        simpa [viewRow] using this
      clear HE
      generalize hR : viewA M txn from' j l = R at *
      clear hR
      go_loopw [9, 23] (fun out i wi => ∃ (k : Nat) (G1 GO : Gh) (css : List (List Value)), k ≤ m ∧ k ≤ 6 ∧ i = .int .i64 k ∧ ViewSt w0 p n M G out (R ++ viewRow M txn (from' + j) ((l.take 6).take k)) wi G1 GO css) (fun _ i _ => m - (RowKit.intOf i).toNat)
      case atStart => exact ⟨0, G1, GO, css, Nat.zero_le _, by omega, by simp, HSt.out⟩
      case round =>
        obtain ⟨k, G2, GO2, css2, hkm, hk6, rfl, hV2⟩ := hrel
        obtain ⟨A8, c8, hout, -, -⟩ := hV2.own.form
        subst hout
        by_cases hkn : k = m
        · subst hkn
          have HE2 := Lib.hid hV2
          have htk : (l.take 6).take k = l.take 6 := List.take_of_length_le (by rw [List.length_take]; omega)
          rw [htk] at HE2
          clear hV2 HSt
          go_wp2
          go_roundw
          case rel => exact ⟨j + 1, G2, GO2, css2, by omega, by rw [show from' + (j : Int) + 1 = from' + ((j + 1 : Nat) : Int) by omega], by rw [HSucc.out]; rw [htk]; exact HE2.out⟩
          case measure => simp [RowKit.intOf]; omega
        · obtain ⟨x, hx⟩ : ∃ x, l[k]? = some x := ⟨l[k]'(by omega), List.getElem?_eq_getElem _⟩
          have hklt : k < m := by omega
          have hk1 : (k : Int) < (m : Int) := by omega
          have hk0 : (0 : Int) ≤ (k : Int) := Int.natCast_nonneg _
          obtain ⟨b, o, rv, cs, rfl, hact, -, hrow, hcel⟩ := HV.out k x hx
          obtain ⟨q0, q1, q2, q3, q4, q5, q6⟩ := hcel _ (HGa.out _ _ hV2.st (hV2.sub.trans (fun _ _ => Gh.or_left _ _)))
          obtain ⟨A2, c2, rfl, hc2, -⟩ := hrow
          by_cases hk66 : k = 6
          · subst hk66
            have HE2 := Lib.hid (hV2.more (.cells #[.int .i64 x.op, .string x.key.1, .string x.key.2, .int .i64 x.txn, .int .i64 x.id, .int .i64 x.n, .slice A2 x.row.length c2] 43))
            have htk : (l.take 6).take 6 = l.take 6 := by rw [List.take_take]; rfl
            rw [htk] at HE2
            clear hV2 HSt hx hact hcel
            go_wp2
            go_roundw
            case rel => exact ⟨j + 1, G2, GO2, css2, by omega, by rw [show from' + (j : Int) + 1 = from' + ((j + 1 : Nat) : Int) by omega], by rw [HSucc.out]; rw [htk]; exact HE2.out⟩
            case measure => simp [RowKit.intOf]; omega
          · have hk67 : (k : Int) < 6 := by omega
            have hk68 : ¬ (6 : Int) ≤ (k : Int) := by omega
            have HVst := Lib.hid hV2
            have hS1 := (hV2.st.alloc (.cells #[.int .i64 x.op, .string x.key.1, .string x.key.2, .int .i64 x.txn, .int .i64 x.id, .int .i64 x.n, .slice A2 x.row.length c2] 43)).alloc zeroRep
            rw [World.size_alloc] at hS1
            have HS1 := Lib.hid hS1
            have HSn := Lib.hid (viewRow_snoc M txn (from' + j) (show (l.take 6)[k]? = some x by rw [List.getElem?_take_of_lt (by omega)]; exact hx))
            have HRl : Hid ((R ++ viewRow M txn (from' + j) ((l.take 6).take k)).length ≤ 6 * j + 6) := by
              unfold Hid viewRow
              simp only [List.length_append, List.length_map, List.length_take]
              omega
            have HSm := Lib.hid (HI.out.atSmall hnn x.key (from' + j) txn)
            clear HSt hact hcel hV2 hS1 hx hlen6
            obtain ⟨i0, hi0, hz0, hz1, hz2⟩ := info_parts Tryz.infoReply
            have HINF := Lib.hid (And.intro hi0 (And.intro hz0 (And.intro hz1 hz2)))
            clear hi0 hz0 hz1 hz2
            have HPush := Lib.hid (fun (w2 : World) (Gr : Gh) (hv : Value) hS hs hf hh => HVst.out.push (w2 := w2) (Gr := Gr) (.cells #[.int .i64 x.op, .string x.key.1, .string x.key.2, .int .i64 x.txn, .int .i64 x.id, .int .i64 x.n, .slice A2 x.row.length c2] 43) hS hs hf hv (atRep M txn (from' + j) x) rfl HSm.out hh (.int .i64 (M.atA x.key (from' + j) txn).2))
            have HLen : Hid (∃ rl, (R ++ viewRow M txn (from' + j) ((l.take 6).take k)).length = rl) := ⟨_, rfl⟩
            obtain ⟨rl, hrl⟩ := HLen.out
            rw [hrl] at HPush HRl
            rw [hrl]
            have hrl6 := HRl.out
            have HL := Lib.hid hrl
            clear hrl HLen HVst
            unfold zeroRep atRep at *
            go_wp2_with (first
              | (go_at_call 30; go_loud (refine (HAt.out _ _ x.key (from' + j) HS1.out).mono ?_; rintro e w2 ⟨hv, Gr, rfl, hS2, hs2, hf2, hh⟩; obtain ⟨A3, c3, hv', -, -⟩ := held_at hh; subst hv'; have hz : ((((G2.or GO2).put wr.heap.size (.cells #[.int .i64 x.op, .string x.key.1, .string x.key.2, .int .i64 x.txn, .int .i64 x.id, .int .i64 x.n, .slice A2 x.row.length c2] 43)).put (wr.heap.size + 1) (.cells #[.int .i64 0, .int .i64 0, .int .i64 0, .slice none 0 0, .slice none 0 0] 47)).or Gr) (wr.heap.size + 1) = some (.cells #[.int .i64 0, .int .i64 0, .int .i64 0, .slice none 0 0, .slice none 0 0] 47) := Gh.or_left _ _ (Gh.put_same _ _ _); have z0 := hS2.holds.cell (i := 0) hz rfl; have z1 := hS2.holds.cell (i := 1) hz rfl; have z2 := hS2.holds.cell (i := 2) hz rfl; have z3 := hS2.holds.cell (i := 3) hz rfl; have z4 := hS2.holds.cell (i := 4) hz rfl; have f2 := hS2.holds.frozen (i := 2) hz; have f4 := hS2.holds.frozen (i := 4) hz; have HZ := Lib.hid (HPush.out _ _ _ hS2 hs2 (by simpa only [World.size_alloc] using hf2) hh); clear hS2 hs2 hf2 hh hz q0 q1 q2 q3 q4 q5 q6 HPush))
              | (at_builtin; obtain ⟨hG3, hO3, hSp3, hAp3⟩ := HZ.out; replace hAp3 := Lib.hid hAp3; go_loud (refine wpList_append_ev rfl _ _ 52 rfl hG3 47 i0 _ 5 72 Tryz.underlying52 HINF.out.1 HINF.out.2.1 HINF.out.2.2.1 HINF.out.2.2.2 rfl (by decide) (.slice A8 rl c8) rl css2.flatten rfl hO3 (some ⟨w2.heap.size, 0, none⟩) 1 1 _ rfl rfl hSp3 (by simp) (by simp [Value.oneCell']) (by unfold maxLen; omega) (by omega) ?_; intro v' G' w5 happ; replace hAp3 := Lib.hid (hAp3.out _ _ _ happ); clear happ hG3 hO3 hSp3)))
            go_roundw
            case rel => exact ⟨k + 1, _, _, _, by omega, by omega, by go_num, by rw [HSn.out, ← List.append_assoc]; exact hAp3.out⟩
            case measure => simp [RowKit.intOf]; omega
end Go.Ju

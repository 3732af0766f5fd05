/- 'set': a row gets an open version, and the change is noted. -/
import Derived.Test.YthdnjokioboehaaGreatDoorFind
namespace Go.Ju
open Go.RowKit
open Go.Proofs
open Go.ChangeMaps

theorem step_append_ev {P : Program} {w : World} {G : Gh} {ops : Array Oper} {o : Oper} {a : Act} {K : Act → World → Prop} {Q : Exit → Act → World → Prop} {E : Prop} (hgd : o.guard = none) (s x : Operand) (t : TypeId)
    (ho : o.op = .call { callee := .builtin .append, args := #[s, x], argTypes := #[t, t] }) (hG : Holds G w)
    (e : TypeId) (i : TypeInfo) (z : Value) (size bytes : Nat) (ht : P.underlying t = some (.slice e)) (hi : P.info? e = some i) (hz : i.zero = some z)
    (hsize : i.size = size) (hby : i.bytes = bytes) (hzs : z.cells.size = size) (hsz : 0 < size)
    (v : Value) (n : Nat) (xs : List Value) (hs : a.eval s = v) (hown : Own G e size v n xs)
    (X : Option Addr) (m c : Nat) (news : List Value) (hx : a.eval x = .slice X m c) (hl : news.length = m * size) (hnews : Span G X news) (hX : X = none → m = 0) (h1 : ∀ u ∈ news, u.oneCell' = true)
    (h63 : n + m ≤ maxLen) (hbytes : (n + m) * bytes ≤ 140737488355328)
    (h : ∀ v' G' w', Appended G w e size v (n + m) (xs ++ news) v' G' w' → K (a.put o.dst v') w') : if Region.wanted o (yielded ops a.tmps) = true then Oper.wp P o a w K Q else E := by
  have hw : Region.wanted o (yielded ops a.tmps) = true := by simp [Region.wanted, hgd]
  rw [if_pos hw]
  obtain ⟨v', G', w', hr, h2⟩ := run_append_ev (P := P) hG t o.type e i z size bytes ht hi hz hsize hby hzs hsz v n xs hown X m c news hl hnews hX h1 h63 hbytes
  unfold Oper.wp execOp
  simp only [ho, resolve, invoke, builtin, Sem.run_bind, Sem.run_pure, Result.andThen_ok, List.map_toArray, List.map_cons, List.map_nil, hs, hx, hr]
  exact h v' G' w' h2

theorem OpnAt.ptr {I : Gh} {op : Value} {o : Option Ver} (h : OpnAt I op o) : ∃ pa, op = .pointer pa := by
  cases o with
  | none => exact ⟨none, h⟩
  | some v =>
    obtain ⟨b, cs, h1, _⟩ := h
    exact ⟨_, h1⟩
theorem Gh.put_put (G : Gh) (b : Nat) (o x : Obj) : (G.put b o).put b x = G.put b x := by
  funext k
  by_cases e : k = b
  · subst e; simp
  · rw [Gh.put_other _ _ e, Gh.put_other _ _ e, Gh.put_other _ _ e]
/-- A row of its own type lies apart from a block of another. -/
theorem Own.keep_row {G : Gh} {e size n : Nat} {v : Value} {xs : List Value} (h : Own G e size v n xs) {b : Nat} {cs cs' : Array Value} {t t' : TypeId} {fr fr' : Nat × Nat} (hb : G b = some (.cells cs t fr)) (hne : t ≠ e := by decide) : Own (G.put b (.cells cs' t' fr')) e size v n xs := by
  refine h.keep fun k o hk hg => ?_
  by_cases ek : k = b
  · subst ek
    obtain ⟨_, ⟨rfl, _⟩ | ⟨g, cap, cur, rfl, hg2, _⟩⟩ := h
    · simp [Value.ownBlock] at hk
    · simp [Value.ownBlock] at hk
      subst hk
      rw [hg2] at hb
      cases hb
      exact absurd rfl hne
  · exact Gh.put_some _ hg ek
theorem Holds.more {G : Gh} {w : World} (h : Holds G w) (o : Obj) : Holds G (w.alloc o) := fun b x hb => h.alloc o b x (Gh.put_some _ hb (h.ne_size hb))
section
variable {y : Lay} {M : St} {g g' : Comp → Gh} {w : World} {B : Nat}
/-- A transaction's log changes. -/
theorem Rep.setLog (h : Rep y M g) (x : Int) (l : List Chg) (v' : Value)
    (hk : ∀ c, c ≠ .tmp → c ≠ .imm → c ≠ .lM → c ≠ .log x → g' c = g c) (hi : Sub (g .imm) (g' .imm))
    (hM : MapAt (g' .lM) y.lM encI okI ((aput M.log x l).map fun p => (p.1, ins y.lv x v' p.1)))
    (hL : ChgsAt (g' (.log x)) (g' .imm) v' l) : Rep { y with lv := ins y.lv x v' } { M with log := aput M.log x l } g' where
  st := by rw [hk _ (by simp) (by simp) (by simp) (by simp)]; exact h.st
  tM := by rw [hk _ (by simp) (by simp) (by simp) (by simp)]; exact h.tM
  dM := by rw [hk _ (by simp) (by simp) (by simp) (by simp)]; exact h.dM
  lM := hM
  tab k t hkt := by rw [hk _ (by simp) (by simp) (by simp) (by simp)]; exact h.tab k t hkt
  row k t hkt i r hr := by rw [hk _ (by simp) (by simp) (by simp) (by simp)]; exact (h.row k t hkt i r hr).sub hi
  log z m hm := by
    rcases mem_aput hm with e | ⟨h1, h2⟩
    · cases e
      simpa using hL
    · simp only [ins_other _ _ h2]
      rw [hk _ (by simp) (by simp) (by simp) (by simpa using h2)]
      exact (h.log z m h1).sub hi
theorem Rep.logAt (h : Rep y M g) {x : Int} (hx : okI x) : ∃ v, ChgsAt (g (.log x)) (g .imm) v (M.lg x) ∧ ∀ W, Holds (g .lM) W → (Instr.lookup 85 (.map (some y.lM)) (encI x) false).run Tryz.prog W = .ok v W := by
  cases ha : aget M.log x with
  | none =>
    refine ⟨.slice none 0 0, ⟨[], ?_, ?_⟩, fun W hW => ?_⟩
    · simpa [St.lg, ha] using All2.nil
    · simpa [St.lg, ha] using Own.nil (g (.log x)) 133 5
    · rw [h.lookL hx hW, ha]
  | some l =>
    refine ⟨y.lv x, ?_, fun W hW => ?_⟩
    · simpa [St.lg, ha] using h.log x l (aget_mem ha)
    · rw [h.lookL hx hW, ha]
end
theorem Tryz.infoChange : (Tryz.prog.info? 133).map (fun i => (i.zero, i.size, i.bytes)) = some (some (.agg #[.string ⟨#[]⟩, .string ⟨#[]⟩, .int .i64 0, .int .i64 0, .pointer none]), 5, 56) := by kernel_rfl

section
variable {y : Lay} {M : St} {g g' : Comp → Gh} {w : World} {B : Nat}
/-- The cells that a row's change reads. -/
theorem Rep.rowCells (h : Rep y M g) (hF : Fam B g w) {k : Key} {t : Tab} {id : Int} {r : RowS} (ht : aget M.tabs k = some t) (hr : aget t.rows id = some r) :
    ∃ sv op, g (.row k id) (y.rb k id) = some (.cells #[sv, .bool r.lost, op, .int .i64 r.txn] 102 (0, 0)) ∧ VersAt (g (.row k id)) (g .imm) sv r.old ∧ OpnAt (g .imm) op r.opn ∧
      w.cell? ⟨y.tb k, 0, none⟩ = some (.map (some (y.rM k))) ∧ w.cell? ⟨y.rb k id, 2, none⟩ = some op := by
  obtain ⟨sv, op, h1, h2, h3⟩ := h.row k t (aget_mem ht) id r (aget_mem hr)
  exact ⟨sv, op, h1, h2, h3, (hF.holds (.tab k)).cell (h.tab k t (aget_mem ht)).1 rfl, (hF.holds (.row k id)).cell h1 rfl⟩
end

/-- The five cells that the note of a change is read from. -/
def Five (y : Lay) (k : Key) (id : Int) (a : Nat) (op : Value) (u : World) : Prop :=
  u.cell? ⟨y.p, 3, none⟩ = some (.map (some y.lM)) ∧ u.cell? ⟨y.p, 2, none⟩ = some (.map (some y.dM)) ∧ u.cell? ⟨a, 0, none⟩ = some (.string k.1) ∧ u.cell? ⟨a, 1, none⟩ = some (.string k.2) ∧ u.cell? ⟨y.rb k id, 2, none⟩ = some op
def note (k : Key) (dr id : Int) (op : Value) : List Value := [.string k.1, .string k.2, .int .i64 dr, .int .i64 id, op]

theorem set_mid {B : Nat} {g g1 : Comp → Gh} {w u : World} {y : Lay} {M : St} {k : Key} {r : RowS} {id txn : Int} {a : Nat} {lgv : Value} {css : List (List Value)} {sv op : Value} (hu : FEv B g w g1 u) (h1 : Rep y M g1)
    (hkey : g1 .tmp a = some (.cells #[.string k.1, .string k.2] 91 (0, 0))) (hx : okI txn) (hall : All2 (ChgIs (g1 .imm)) (M.lg txn) css) (hown : Own (g1 (.log txn)) 133 5 lgv (M.lg txn).length css.flatten)
    (hrow : g1 (.row k id) (y.rb k id) = some (.cells #[sv, .bool r.lost, op, .int .i64 r.txn] 102 (0, 0))) (hop : OpnAt (g1 .imm) op r.opn) :
    ∃ G0, Holds G0 (u.drew.alloc (.cells (note k (M.dr k) id op).toArray 133)) ∧ Own G0 133 5 lgv (M.lg txn).length css.flatten ∧ Span G0 (some ⟨u.heap.size, 0, none⟩) (note k (M.dr k) id op) ∧
      ∀ v' G' u2, Appended G0 (u.drew.alloc (.cells (note k (M.dr k) id op).toArray 133)) 133 5 lgv ((M.lg txn).length + 1) (css.flatten ++ note k (M.dr k) id op) v' G' u2 →
        ∃ x, Five y k id a op u2 ∧ (Instr.mapUpdate 85 (.map (some y.lM)) (.int .i64 txn) v').run Tryz.prog u2 = .ok () (setBlock u2 y.lM x) ∧ Five y k id a op (setBlock u2 y.lM x) ∧
          ∃ g4 y1, FEv B g w g4 (setBlock u2 y.lM x) ∧ Rep y1 { M with log := aput M.log txn (M.lg txn ++ [⟨k, M.dr k, id, r.opn⟩]) } g4 ∧ y1.p = y.p ∧ y1.rb = y.rb ∧ g4 .imm = g1 .imm := by
  have hA := hu.drew.alloc (.log txn) (.cells (note k (M.dr k) id op).toArray 133)
  refine ⟨(g1 (.log txn)).put u.heap.size (.cells (note k (M.dr k) id op).toArray 133), by have := hA.fam.holds (.log txn); rwa [upd_same] at this, hown.keep (fun b o _ hb => Gh.put_some _ hb ((hu.fam.holds (.log txn)).ne_size hb)), .inr ⟨u.heap.size, 0, _, _, _, rfl, Gh.put_same _ _ _, by simp⟩, ?_⟩
  intro v' G' u2 happ
  have hB := hA.then (c := .log txn) (G' := G') (by rw [upd_same]; exact happ.1)
  rw [upd_upd] at hB
  obtain ⟨x, hx1, hx2, hx3⟩ := MapAt.update klI Tryz.underlying85 (hu.fam.holds .lM) h1.lM (k := txn) hx (M.lg txn ++ [⟨k, M.dr k, id, r.opn⟩]) (fun p => ins y.lv txn v' p.1) (fun p _ hne => by rw [ins_other _ _ hne])
  have hlM : Holds (g1 .lM) u2 := by have := hB.fam.holds .lM; rwa [upd_other _ _ (by simp)] at this
  have hC := hB.then (c := .lM) (G' := (g1 .lM).put y.lM x) (by rw [upd_other _ _ (by simp)]; exact hx2 u2 hlM)
  have five : ∀ (g2 : Comp → Gh) (U : World), Fam B g2 U → g2 .st = g1 .st → g2 .tmp = g1 .tmp → g2 (.row k id) = g1 (.row k id) → Five y k id a op U := fun g2 U hU hs1 hs2 hs3 => by
    have q1 := hU.holds .st
    have q2 := hU.holds .tmp
    have q3 := hU.holds (.row k id)
    rw [hs1] at q1
    rw [hs2] at q2
    rw [hs3] at q3
    exact ⟨q1.cell h1.st rfl, q1.cell h1.st rfl, q2.cell hkey rfl, q2.cell hkey rfl, q3.cell hrow rfl⟩
  refine ⟨x, five _ _ hB.fam (upd_other _ _ (by simp)) (upd_other _ _ (by simp)) (upd_other _ _ (by simp)), ?_, five _ _ hC.fam (by rw [upd_other _ _ (by simp), upd_other _ _ (by simp)]) (by rw [upd_other _ _ (by simp), upd_other _ _ (by simp)]) (by rw [upd_other _ _ (by simp), upd_other _ _ (by simp)]), upd (upd g1 (.log txn) G') .lM ((g1 .lM).put y.lM x), { y with lv := ins y.lv txn v' }, hC, ?_, rfl, rfl, by rw [upd_other _ _ (by simp), upd_other _ _ (by simp)]⟩
  · have := hx1 u2 hlM
    rw [ins_same] at this
    exact this
  · refine h1.setLog (g' := upd (upd g1 (.log txn) G') .lM ((g1 .lM).put y.lM x)) txn _ v' (fun c n1 n2 n3 n4 => by rw [upd_other _ _ n3, upd_other _ _ n4]) (by rw [upd_other _ _ (by simp), upd_other _ _ (by simp)]; exact Sub.refl _) (by rw [upd_same]; exact hx3) ?_
    rw [upd_other _ _ (show Comp.log txn ≠ .lM by simp), upd_same, upd_other _ _ (by simp), upd_other _ _ (by simp)]
    refine ⟨css ++ [note k (M.dr k) id op], hall.append (.cons ⟨op, rfl, hop⟩ .nil), ?_⟩
    simpa using happ.2.1

set_option maxRecDepth 100000 in
theorem set_any (B : Nat) (g : Comp → Gh) (w : World) (y : Lay) (M : St) (k : Key) (t : Tab) (r : RowS) (id txn : Int) (v : Ver) (rv : Value) (hF : Fam B g w) (h : Rep y M g)
    (ht : aget M.tabs k = some t) (hr : aget t.rows id = some r) (hx : okI txn) (hi : okI id) (hl : (M.lg txn).length ≤ 1000000) (hv : RowAt (g .imm) rv v.row) :
    Calls Tryz.prog 75 #[ptr y.p, encK k, encI txn, encI id, .agg #[.int .i64 v.time, .bool v.gone, rv]] w (Does B g w fun u g' => u = .tuple #[] ∧ ∃ y', Rep y' (M.set k txn id v) g' ∧ y'.p = y.p) := by
  obtain ⟨g1, hE1, h1, hkey, hver⟩ : ∃ g1, FEv B g w g1 ((w.alloc (.cells #[.string k.1, .string k.2] 91)).alloc (.cells #[.int .i64 v.time, .bool v.gone, rv] 98)) ∧ Rep y M g1 ∧ g1 .tmp w.heap.size = some (.cells #[.string k.1, .string k.2] 91 (0, 0)) ∧ OpnAt (g1 .imm) (.pointer (some ⟨w.heap.size + 1, 0, none⟩)) (some v) := by
    have hE := ((FEv.refl hF).alloc .tmp (.cells #[.string k.1, .string k.2] 91)).alloc .imm (.cells #[.int .i64 v.time, .bool v.gone, rv] 98)
    have hfr : (g .imm) (w.heap.size + 1) = none := by
      cases hc : (g .imm) (w.heap.size + 1) with
      | none => rfl
      | some o => have := (hF.holds .imm).lt hc; omega
    have hsub : Sub (g .imm) ((g .imm).put (w.heap.size + 1) (.cells #[.int .i64 v.time, .bool v.gone, rv] 98)) := fun b o hb => Gh.put_some _ hb (fun e => by rw [e, hfr] at hb; cases hb)
    rw [upd_other _ _ (show Comp.imm ≠ .tmp by simp), World.size_alloc] at hE
    refine ⟨_, hE, h.keep (fun c h1 h2 => by rw [upd_other _ _ h2, upd_other _ _ h1]) (by rw [upd_same]; exact hsub), by rw [upd_other _ _ (by simp), upd_same]; exact Gh.put_same _ _ _, ?_⟩
    rw [upd_same]
    exact ⟨_, _, rfl, Gh.put_same _ _ _, rv, rfl, hv.sub hsub⟩
  have HH := Lib.hid (And.intro h1 (And.intro hkey (And.intro hver (And.intro hl (And.intro hx hi)))))
  have HE := Lib.hid hE1
  obtain ⟨i0, hi0, hz0, hz1, hz2⟩ := info_parts Tryz.infoChange
  have hT := fun u (hu : Holds (g1 .tM) u) => h1.lookT k hu
  have hR := fun u (hu : Holds (g1 (.tab k)) u) => h1.lookR (aget_mem ht) hi hu
  rw [ht] at hT
  rw [hr] at hR
  have HL := Lib.hid (And.intro hT hR)
  clear hF h hv hE1 h1 hkey hver hl hx hi hT hR
  unfold encK encI ptr at *
  go_enter Tryz.func75, Tryz.ntmps75
  go_wp2
  refine World.abs (FEv B g w g1) HE.out ?_
  intro u hu
  obtain ⟨h1, hkey, hver, hl, hx, hi⟩ := HH.out
  obtain ⟨c0, c1, c2, c3⟩ := h1.cells hu.fam
  obtain ⟨sv, op, hrow, hold, hop, d1, d2⟩ := h1.rowCells hu.fam ht hr
  have e1 : u.cell? ⟨w.heap.size, 0, none⟩ = some (.string k.1) := (hu.fam.holds .tmp).cell hkey rfl
  have e2 : u.cell? ⟨w.heap.size, 1, none⟩ = some (.string k.2) := (hu.fam.holds .tmp).cell hkey rfl
  have l1 := fun n => HL.out.1 (u.drewN n) (hu.fam.holds .tM)
  have l2 := fun n => HL.out.2 (u.drewN n) (hu.fam.holds (.tab k))
  have HF := Lib.hid hu
  clear h1 hkey hver hl hx hi hu hrow hold hop
  go_quiet (fail)
  go_wp2
  refine World.abs (FEv B g w g1) (HF.out.drewN _) ?_
  clear l1 l2 c0 c1 c2 c3 d1 d2 e1 e2 HF u sv op
  intro u hu
  obtain ⟨h1, hkey, hver, hl, hx, hi⟩ := HH.out
  obtain ⟨c0, c1, c2, c3⟩ := h1.cells hu.fam
  obtain ⟨sv, op, hrow, hold, hop, d1, d2⟩ := h1.rowCells hu.fam ht hr
  have e1 : u.cell? ⟨w.heap.size, 0, none⟩ = some (.string k.1) := (hu.fam.holds .tmp).cell hkey rfl
  have e2 : u.cell? ⟨w.heap.size, 1, none⟩ = some (.string k.2) := (hu.fam.holds .tmp).cell hkey rfl
  obtain ⟨pa, rfl⟩ := hop.ptr
  obtain ⟨lgv, ⟨css, hall, hown⟩, hlk⟩ := h1.logAt hx
  have f1 := hlk u.drew (hu.fam.holds .lM)
  have f2 := hlk (u.alloc (.cells #[.string k.1, .string k.2, .int .i64 (M.dr k), .int .i64 id, .pointer pa] 133)).drew ((hu.fam.holds .lM).more _).drew
  have f3 := h1.lookD k (W := u.drew) (hu.fam.holds .dM)
  obtain ⟨G0, hG0, hO0, hS0, hnext⟩ := set_mid hu h1 hkey hx hall hown hrow hop
  have HN := Lib.hid hnext
  have HV := Lib.hid (And.intro h1 (And.intro hkey (And.intro hver (And.intro hl (And.intro hx hi)))))
  have HL2 := Lib.hid (And.intro hx hi)
  clear hnext h1 hkey hver hx hi hu hrow hold hop hall hown hlk HL HE HH
  unfold encI at f1 f2
  unfold encK at f3
  go_region_held3 (fun u' => u'.cell? ⟨y.p, 3, none⟩ = some (.map (some y.lM)) ∧ u'.cell? ⟨y.p, 2, none⟩ = some (.map (some y.dM)) ∧ u'.cell? ⟨w.heap.size, 0, none⟩ = some (.string k.1) ∧ u'.cell? ⟨w.heap.size, 1, none⟩ = some (.string k.2) ∧ u'.cell? ⟨y.rb k id, 2, none⟩ = some (.pointer pa))
    (go_keep)
    ((refine step_append_ev rfl _ _ 128 rfl hG0 133 i0 _ 5 56 Tryz.underlying128 hi0 hz0 hz1 hz2 rfl (by decide) lgv (M.lg txn).length css.flatten rfl hO0 (some ⟨u.heap.size, 0, none⟩) 1 1 _ rfl rfl hS0 (by simp) (by simp [note, Value.oneCell']) (by unfold maxLen; omega) (by omega) ?_; intro v' G' u2 happ; obtain ⟨x, ⟨p1, p2, p3, p4, p5⟩, hup, ⟨q1, q2, q3, q4, q5⟩, hend⟩ := HN.out v' G' u2 happ))
  all_goals
    refine World.abs (fun U => ∃ g4 y1, FEv B g w g4 U ∧ Rep y1 { M with log := aput M.log txn (M.lg txn ++ [⟨k, M.dr k, id, r.opn⟩]) } g4 ∧ y1.p = y.p ∧ y1.rb = y.rb ∧ g4 .imm = g1 .imm) hend ?_
    clear p1 p2 p3 p4 p5 q1 q2 q3 q4 q5 hup hend happ f1 f2 f3 c0 c1 c2 c3 d1 d2 e1 e2 hG0 hO0 hS0
    rintro U ⟨g4, y1, hU, hR, hp, hrb, him⟩
    have hR2 := hR
    obtain ⟨sv2, op2, hrow2, hold2, hop2, d1, d2⟩ := hR.rowCells hU.fam ht hr
    have z1 := (hU.fam.holds (.row k id)).frozen (i := 2) hrow2
    have z2 := (hU.fam.holds (.row k id)).frozen (i := 3) hrow2
    have z3 : U.cell? ⟨y1.rb k id, 3, none⟩ = some (.int .i64 r.txn) := (hU.fam.holds (.row k id)).cell hrow2 rfl
    rw [hrb] at z1 z2 z3 d2 hrow2
    have H := Lib.hid (And.intro hU (And.intro hR (And.intro hp (And.intro hrb (And.intro him (And.intro hrow2 hold2))))))
    clear hU hR hp hrb him hrow2 hold2 hop2 hR2
    go_wp2
    go_end0
    obtain ⟨hU, hR, hp, hrb, him, hrow2, hold2⟩ := H.out
    obtain ⟨h1, hkey, hver, hl, hx, hi⟩ := HV.out
    have hA := (hU.setCell (i := 2) hrow2 (.pointer (some ⟨w.heap.size + 1, 0, none⟩))).setCell (c := .row k id) (i := 3) (by rw [upd_same]; exact Gh.put_same _ _ _) (.int .i64 txn)
    rw [upd_same, upd_upd, Gh.put_put] at hA
    refine ⟨_, _, rfl, hA, rfl, y1, ?_, hp⟩
    rw [show M.set k txn id v = ({ M with log := aput M.log txn (M.lg txn ++ [⟨k, M.dr k, id, r.opn⟩]) } : St).putRow k id { r with opn := some v, txn := txn } by simp [St.set, St.row, ht, hr]]
    refine hR.setRow ht hr _ (fun c n1 n2 n3 => by rw [upd_other _ _ n3]) (by rw [upd_other _ _ (by simp)]; exact Sub.refl _) ?_
    rw [upd_same, upd_other _ _ (by simp), hrb]
    refine ⟨sv2, .pointer (some ⟨w.heap.size + 1, 0, none⟩), by rw [Gh.put_same]; simp, ?_, by rw [him]; exact hver⟩
    obtain ⟨css2, ha2, ho2⟩ := hold2
    exact ⟨css2, ha2, ho2.keep_row hrow2⟩
end Go.Ju

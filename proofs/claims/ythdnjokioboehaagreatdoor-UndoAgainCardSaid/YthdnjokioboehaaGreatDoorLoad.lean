/- Load: the walk. -/
import Derived.Test.YthdnjokioboehaaGreatDoorIsImage
import Derived.Test.YthdnjokioboehaaGreatDoorStage
namespace Go.Ju
open Go.RowKit
open Go.Proofs
open Go.ChangeMaps

def rowV (l : List Val) : RowS := ⟨[⟨0, false, l⟩], false, none, 0⟩
def loadRow (h : Int × List Val) : Int × RowS := (h.1, rowV h.2)
def loadTab (s : StoredM) : Tab := ⟨s.rows.map loadRow, s.next⟩
def loadTabs (l : List StoredM) : List (Key × Tab) := l.map fun s => (s.key, loadTab s)
def loadM (i : Img) : St := ⟨i.time, loadTabs i.tabs, [], []⟩

section
variable {B : Nat} {g : Comp → Gh} {u : World} {y : Lay} {M : St} {k : Key} {t : Tab}
/-- The next number of a table is written. -/
theorem next_ev (hu : Fam B g u) (h : Rep y M g) (ha : aget M.tabs k = some t) (nx : Int) :
    ∃ g' y', FEv B g u g' (u.setCell ⟨y.tb k, 1, none⟩ (.int .i64 nx)) ∧ Rep y' { M with tabs := aput M.tabs k { t with next := nx } } g' ∧ y'.p = y.p ∧ y'.tb = y.tb ∧ y'.rM k = y.rM k := by
  obtain ⟨htb, hmap⟩ := h.tab k t (aget_mem ha)
  have hmap' := hmap
  obtain ⟨es0, clk0, hmap0, hmo⟩ := hmap'
  have hne : y.rM k ≠ y.tb k := fun e => by rw [e, htb] at hmap0; cases hmap0
  have hA := (FEv.refl hu).setCell (c := .tab k) (i := 1) htb (.int .i64 nx)
  refine ⟨_, { y with rM := ins y.rM k (y.rM k), rb := ins y.rb k (y.rb k) }, hA, ?_, rfl, rfl, ins_same _ _ _⟩
  refine h.setTab ha _ _ _ (fun c h1 h2 h3 h4 => by rw [upd_other _ _ h3]) (by rw [upd_other _ _ (by simp)]; exact Sub.refl _) ?_ (fun i r hr => ?_)
  · rw [upd_same]
    refine ⟨?_, es0, clk0, by rw [Gh.put_other _ _ hne]; exact hmap0, hmo⟩
    rw [Gh.put_same]
    rfl
  · rw [upd_other _ _ (by simp), upd_other _ _ (by simp)]
    exact h.row k t (aget_mem ha) i r hr
/-- A row of one version is laid and written into the table. -/
theorem row_ev (hu : Fam B g u) (h : Rep y M g) (ha : aget M.tabs k = some t) {id : Int} (hn : okI id) {rv : Value} {l : List Val} (hv : RowAt (g .imm) rv l) :
    let W := (u.alloc (.cells #[.int .i64 0, .bool false, rv] 98)).alloc (.cells #[.slice (some ⟨u.heap.size, 0, none⟩) 1 1, .bool false, .pointer none, .int .i64 0] 102)
    ∃ x, (Instr.mapUpdate 92 (.map (some (y.rM k))) (encI id) (ptr (u.heap.size + 1))).run Tryz.prog W = .ok () (setBlock W (y.rM k) x) ∧
      ∃ g' y', FEv B g u g' (setBlock W (y.rM k) x) ∧ Rep y' { M with tabs := aput M.tabs k (t.putRow id (rowV l)) } g' ∧ y'.p = y.p ∧ y'.tb = y.tb ∧ y'.rM k = y.rM k := by
  intro W
  obtain ⟨htb, hmap⟩ := h.tab k t (aget_mem ha)
  have hmap' := hmap
  obtain ⟨es0, clk0, hmap0, hmo⟩ := hmap'
  have hne : y.rM k ≠ y.tb k := fun e => by rw [e, htb] at hmap0; cases hmap0
  have hA := ((FEv.refl hu).alloc (.row k id) (.cells #[.int .i64 0, .bool false, rv] 98)).alloc (.row k id) (.cells #[.slice (some ⟨u.heap.size, 0, none⟩) 1 1, .bool false, .pointer none, .int .i64 0] 102)
  rw [World.size_alloc, upd_same, upd_upd] at hA
  have hW : Holds (g (.tab k)) W := by
    have := hA.fam.holds (.tab k)
    rwa [upd_other _ _ (by simp)] at this
  obtain ⟨x, hx1, hx2, hx3⟩ := MapAt.update klI Tryz.underlying92 hW hmap (k := id) hn (rowV l) (fun p => ptr (ins (y.rb k) id (u.heap.size + 1) p.1)) (fun p _ hne => by rw [ins_other _ _ hne])
  have hC := hA.then (c := .tab k) (by rw [upd_other _ _ (by simp)]; exact hx2 _ hW)
  refine ⟨x, ?_, _, { y with rM := ins y.rM k (y.rM k), rb := ins y.rb k (ins (y.rb k) id (u.heap.size + 1)) }, hC, ?_, rfl, rfl, ins_same _ _ _⟩
  · have := hx1 _ hW
    rw [ins_same] at this
    exact this
  · refine h.setTab ha _ _ _ (fun c h1 h2 h3 h4 => by rw [upd_other _ _ h3, upd_other _ _ (h4 _)]) (by rw [upd_other _ _ (by simp), upd_other _ _ (by simp)]; exact Sub.refl _) ?_ (fun i r hr => ?_)
    · rw [upd_same]
      refine ⟨?_, hx3⟩
      rw [Gh.put_other _ _ (Ne.symm hne)]
      exact htb
    · rcases mem_aput hr with e | ⟨h1, h2⟩
      · cases e
        rw [upd_other _ _ (by simp), upd_same, upd_other _ _ (by simp), upd_other _ _ (by simp), ins_same]
        refine ⟨_, _, Gh.put_same _ _ _, ⟨[[.int .i64 0, .bool false, rv]], .cons ⟨rv, rfl, hv⟩ .nil, rfl, .inr ⟨u.heap.size, 1, #[.int .i64 0, .bool false, rv], rfl, ?_, Nat.le_refl _, by simp [maxLen], rfl, rfl⟩⟩, rfl⟩
        rw [Gh.put_other _ _ (by omega), Gh.put_same]
      · rw [upd_other _ _ (by simp), upd_other _ _ (by simpa using h2), upd_other _ _ (by simp), upd_other _ _ (by simp), ins_other _ _ h2]
        exact h.row k t (aget_mem ha) i r h1
end

/-! ### the plain side of Load -/
theorem heldsB_parts {next : Int} : ∀ {last : Int} {l : List (Int × List Val)}, heldsB next last l = true → (∀ p ∈ l, last < p.1 ∧ p.1 < next ∧ rowB p.2 = true) ∧ (l.map Prod.fst).Pairwise (· < ·)
  | _, [], _ => ⟨by simp, by simp⟩
  | last, h :: r, hb => by
    unfold heldsB at hb
    simp only [Bool.and_eq_true, decide_eq_true_eq] at hb
    obtain ⟨⟨⟨h1, h2⟩, h3⟩, h4⟩ := hb
    obtain ⟨k1, k2⟩ := heldsB_parts h4
    refine ⟨fun p hp => ?_, ?_⟩
    · rcases List.mem_cons.1 hp with rfl | hp
      · exact ⟨h1, h2, h3⟩
      · have := k1 p hp
        exact ⟨by omega, this.2.1, this.2.2⟩
    · rw [List.map_cons, List.pairwise_cons]
      refine ⟨fun q hq => ?_, k2⟩
      obtain ⟨p, hp, rfl⟩ := List.mem_map.1 hq
      exact (k1 p hp).1
structure GoodTab (s : StoredM) : Prop where
  name : nameK s.key = true
  len : s.rows.length ≤ 500
  next : numB s.next = true
  rows : heldsB s.next 0 s.rows = true
theorem tabsB_parts : ∀ {p : Option Key} {l : List StoredM}, tabsB p l = true → (∀ s ∈ l, GoodTab s ∧ afterB p s.key = true) ∧ (l.map StoredM.key).Pairwise (fun a b => ltK a b = true)
  | _, [], _ => ⟨by simp, by simp⟩
  | p, s :: r, hb => by
    unfold tabsB at hb
    simp only [Bool.and_eq_true, decide_eq_true_eq] at hb
    obtain ⟨⟨⟨⟨⟨h1, h2⟩, h3⟩, h4⟩, h5⟩, h6⟩ := hb
    obtain ⟨k1, k2⟩ := tabsB_parts h6
    have hlt : ∀ t ∈ r, ltK s.key t.key = true := fun t ht => by
      have h7 := (k1 t ht).2
      unfold afterB at h7
      exact h7
    refine ⟨fun t ht => ?_, ?_⟩
    · rcases List.mem_cons.1 ht with rfl | ht
      · exact ⟨⟨h1, h2, h3, h5⟩, h4⟩
      · refine ⟨(k1 t ht).1, ?_⟩
        cases p with
        | none => rfl
        | some q => exact ltK_trans (show ltK q s.key = true from h4) (hlt t ht)
    · rw [List.map_cons, List.pairwise_cons]
      refine ⟨fun q hq => ?_, k2⟩
      obtain ⟨t, ht, rfl⟩ := List.mem_map.1 hq
      exact hlt t ht
theorem isImage_parts {i : Img} (h : isImageB i = true) : (0 ≤ i.time ∧ i.time ≤ 1099511627776) ∧ (∀ s ∈ i.tabs, GoodTab s) ∧ (i.tabs.map StoredM.key).Pairwise (fun a b => ltK a b = true) := by
  unfold isImageB at h
  simp only [Bool.and_eq_true, decide_eq_true_eq] at h
  obtain ⟨k1, k2⟩ := tabsB_parts h.2
  exact ⟨h.1, fun s hs => (k1 s hs).1, k2⟩
theorem keys_nodup {l : List StoredM} (h : (l.map StoredM.key).Pairwise (fun a b => ltK a b = true)) : (l.map StoredM.key).Nodup := h.imp fun {a b} hab e => by rw [e, ltK_irrefl] at hab; cases hab
theorem loadTabs_keys (l : List StoredM) : (loadTabs l).map Prod.fst = l.map StoredM.key := by unfold loadTabs; rw [List.map_map]; rfl
theorem aput_new {κ β : Type} [DecidableEq κ] {l : List (κ × β)} {k : κ} (v : β) (h : k ∉ l.map Prod.fst) : aput l k v = l ++ [(k, v)] := by unfold aput; rw [if_neg h]
theorem aput_last {κ β : Type} [DecidableEq κ] {l : List (κ × β)} {k : κ} (v v' : β) (h : k ∉ l.map Prod.fst) : aput (l ++ [(k, v)]) k v' = l ++ [(k, v')] := by
  rw [← aput_new v h, aput_aput, aput_new v' h]

/-! ### the walk -/
/-- A store at p, since w0, whatever it knows; beside it the blocks G. -/
def LoadSt (w0 : World) (p : Nat) (M : St) (G : Gh) (u : World) : Prop := ∃ y g, y.p = p ∧ FEv w0.heap.size noFam w0 g u ∧ Rep y M g ∧ Beside g G u
theorem LoadSt.below {w0 u : World} {p : Nat} {M : St} {G : Gh} (h : LoadSt w0 p M G u) : Below w0.heap.size w0 u := by
  obtain ⟨_, _, _, h, _, _⟩ := h
  exact h.below (noFam.fam _ _ (Nat.le_refl _))
theorem LoadSt.alloc {w0 u : World} {p : Nat} {M : St} {G : Gh} (h : LoadSt w0 p M G u) (o : Obj) : LoadSt w0 p M (G.put u.heap.size o) (u.alloc o) := by
  obtain ⟨y, g, h1, h2, h3, h5⟩ := h
  exact ⟨y, g, h1, h2.more o, h3, h5.alloc o h2⟩
theorem LoadSt.holds {w0 u : World} {p : Nat} {M : St} {G : Gh} (h : LoadSt w0 p M G u) : Holds G u := by
  obtain ⟨_, _, _, _, _, h⟩ := h
  exact h.holds
theorem LoadSt.weaken {w0 u : World} {p : Nat} {M : St} {G G' : Gh} (h : LoadSt w0 p M G u) (hs : Sub G' G) : LoadSt w0 p M G' u := by
  obtain ⟨y, g, h1, h2, h3, h5⟩ := h
  exact ⟨y, g, h1, h2, h3, h5.weaken hs⟩
theorem load_new {w0 u : World} {G : Gh} (hb : Below w0.heap.size w0 u) (hG : Holds G u) : Calls Tryz.prog 19 #[] u fun e u' => ∃ p, e = .returned (ptr p) ∧ LoadSt w0 p St.empty G u' := by
  refine (new_any u u.heap.size (Nat.le_refl _)).mono ?_
  rintro e u' ⟨v, g, rfl, he, y, rfl, hr⟩
  have h1 : FEv w0.heap.size noFam w0 noFam u := (FEv.refl (noFam.fam _ w0 (Nat.le_refl _))).of_below hb
  obtain ⟨h2, h3⟩ := he.frameG hG (fun _ _ => .inl rfl)
  exact ⟨y.p, rfl, y, g, rfl, h1.trans (he.base_le hb.size), hr, h2, h3⟩
theorem LoadSt.time {w0 u : World} {p : Nat} {M : St} {G : Gh} (h : LoadSt w0 p M G u) (T : Int) : u.frozen? ⟨p, 0, none⟩ = false ∧ (∃ v, u.cell? ⟨p, 0, none⟩ = some v) ∧ LoadSt w0 p { M with time := T } G (u.setCell ⟨p, 0, none⟩ (.int .i64 T)) := by
  obtain ⟨y, g, rfl, h2, h3, h5⟩ := h
  refine ⟨(h2.fam.holds .st).frozen h3.st, ⟨_, (h2.fam.holds .st).cell h3.st rfl⟩, ?_⟩
  have he := (FEv.refl h2.fam).setCell (c := .st) (i := 0) h3.st (.int .i64 T)
  have hR1 := h3.setTime T (g' := upd g .st ((g .st).put y.p (.cells (#[.int .i64 M.time, .map (some y.tM), .map (some y.dM), .map (some y.lM)].setIfInBounds 0 (.int .i64 T)) 87 (0, 0)))) (fun c hc => upd_other _ _ hc) (by rw [upd_same, Gh.put_same]; rfl)
  exact ⟨y, _, rfl, h2.trans he, hR1, h5.step he⟩
/-- .. with a table found. -/
def LoadTb (w0 : World) (p : Nat) (M : St) (G : Gh) (k : Key) (tb rm : Nat) (u : World) : Prop := ∃ y g, y.p = p ∧ y.tb k = tb ∧ y.rM k = rm ∧ FEv w0.heap.size noFam w0 g u ∧ Rep y M g ∧ Beside g G u
theorem LoadTb.st {w0 u : World} {p tb rm : Nat} {M : St} {G : Gh} {k : Key} (h : LoadTb w0 p M G k tb rm u) : LoadSt w0 p M G u := by
  obtain ⟨y, g, h1, _, _, h2, h3, h5⟩ := h
  exact ⟨y, g, h1, h2, h3, h5⟩
theorem LoadTb.alloc {w0 u : World} {p tb rm : Nat} {M : St} {G : Gh} {k : Key} (h : LoadTb w0 p M G k tb rm u) (o : Obj) : LoadTb w0 p M (G.put u.heap.size o) k tb rm (u.alloc o) := by
  obtain ⟨y, g, h1, ha, hb, h2, h3, h5⟩ := h
  exact ⟨y, g, h1, ha, hb, h2.more o, h3, h5.alloc o h2⟩
theorem LoadTb.weaken {w0 u : World} {p tb rm : Nat} {M : St} {G G' : Gh} {k : Key} (h : LoadTb w0 p M G k tb rm u) (hs : Sub G' G) : LoadTb w0 p M G' k tb rm u := by
  obtain ⟨y, g, h1, ha, hb, h2, h3, h5⟩ := h
  exact ⟨y, g, h1, ha, hb, h2, h3, h5.weaken hs⟩
theorem LoadTb.drewN {w0 u : World} {p tb rm : Nat} {M : St} {G : Gh} {k : Key} (h : LoadTb w0 p M G k tb rm u) (n : Nat) : LoadTb w0 p M G k tb rm (u.drewN n) := by
  obtain ⟨y, g, h1, ha, hb, h2, h3, h5⟩ := h
  exact ⟨y, g, h1, ha, hb, h2.drewN n, h3, h5.drewN n⟩
theorem LoadSt.find {w0 u : World} {p : Nat} {M : St} {G : Gh} (h : LoadSt w0 p M G u) (k : Key) :
    Calls Tryz.prog 41 #[ptr p, encK k] u fun e u' => ∃ tb rm, e = .returned (ptr tb) ∧ LoadTb w0 p (M.find k) G k tb rm u' := by
  obtain ⟨y, g, rfl, h2, h3, h5⟩ := h
  refine (find_any w0.heap.size g u y M k h2.fam h3).mono ?_
  rintro e u' ⟨v, g', rfl, he, y', rfl, hr, hp⟩
  exact ⟨_, _, rfl, y', g', hp, rfl, rfl, h2.trans he, hr, h5.step he⟩
theorem LoadTb.cells {w0 u : World} {p tb rm : Nat} {M : St} {G : Gh} {k : Key} {t : Tab} (h : LoadTb w0 p M G k tb rm u) (ha : aget M.tabs k = some t) :
    u.cell? ⟨tb, 0, none⟩ = some (.map (some rm)) ∧ u.cell? ⟨tb, 1, none⟩ = some (.int .i64 t.next) ∧ u.frozen? ⟨tb, 1, none⟩ = false ∧ tb < u.heap.size := by
  obtain ⟨y, g, _, rfl, rfl, h2, h3, _⟩ := h
  have htc := (h3.tab k t (aget_mem ha)).1
  exact ⟨(h2.fam.holds (.tab k)).cell htc rfl, (h2.fam.holds (.tab k)).cell htc rfl, (h2.fam.holds (.tab k)).frozen htc, (h2.fam.holds (.tab k)).lt htc⟩
theorem LoadTb.next {w0 u : World} {p tb rm : Nat} {M : St} {G : Gh} {k : Key} {t : Tab} (h : LoadTb w0 p M G k tb rm u) (ha : aget M.tabs k = some t) (nx : Int) :
    LoadTb w0 p { M with tabs := aput M.tabs k { t with next := nx } } G k tb rm (u.setCell ⟨tb, 1, none⟩ (.int .i64 nx)) := by
  obtain ⟨y, g, rfl, rfl, rfl, h2, h3, h5⟩ := h
  obtain ⟨g', y', k1, k2, k3, k4, k5⟩ := next_ev h2.fam h3 ha nx
  exact ⟨y', g', k3, by rw [k4], k5, h2.trans k1, k2, h5.step k1⟩
/-- A row's clone. -/
theorem LoadTb.clone {w0 u : World} {p tb rm : Nat} {M : St} {G Ga : Gh} {k : Key} {t : Tab} (h : LoadTb w0 p M G k tb rm u) (ha : aget M.tabs k = some t) (hGa : Holds Ga w0) {rv : Value} {l : List Val} (hr : RowAt Ga rv l) (hl : l.length ≤ 20) {id : Int} (hid : okI id) :
    Calls Tryz.prog 42 #[rv] u fun e u' => ∃ A c, e = .returned (.slice A l.length c) ∧ LoadTb w0 p M G k tb rm u' ∧
      ∃ x, (Instr.mapUpdate 92 (.map (some rm)) (encI id) (ptr (u'.heap.size + 1))).run Tryz.prog ((u'.alloc (.cells #[.int .i64 0, .bool false, .slice A l.length c] 98)).alloc (.cells #[.slice (some ⟨u'.heap.size, 0, none⟩) 1 1, .bool false, .pointer none, .int .i64 0] 102)) = .ok () (setBlock ((u'.alloc (.cells #[.int .i64 0, .bool false, .slice A l.length c] 98)).alloc (.cells #[.slice (some ⟨u'.heap.size, 0, none⟩) 1 1, .bool false, .pointer none, .int .i64 0] 102)) rm x) ∧
        LoadTb w0 p { M with tabs := aput M.tabs k (t.putRow id (rowV l)) } G k tb rm (setBlock ((u'.alloc (.cells #[.int .i64 0, .bool false, .slice A l.length c] 98)).alloc (.cells #[.slice (some ⟨u'.heap.size, 0, none⟩) 1 1, .bool false, .pointer none, .int .i64 0] 102)) rm x) := by
  have hbl := h.st.below
  obtain ⟨y, g, rfl, rfl, rfl, h2, h3, h5⟩ := h
  have harg : ArgRow Ga u rv l := ⟨hGa.below hbl, hr, fun c hc => by
    obtain ⟨A, c', h1, _, h2⟩ := hr
    rw [hc] at h1
    injection h1 with a1 a2 a3
    subst a1
    have := rowCells_len l
    rw [Span.none_nil h2] at this
    simp at this
    omega, by omega⟩
  refine harg.clone.mono ?_
  rintro e u' ⟨v, Gr, rfl, hb, hh, hf, hrow⟩
  have hrow' := hrow
  obtain ⟨A, c, rfl, _, _⟩ := hrow'
  obtain ⟨g2, hE, hR, hV⟩ := (FEv.refl h2.fam).clone h3 hb hh hf hrow
  have hK := h5.step hE
  obtain ⟨x, hx, g', y', k1, k2, k3, k4, k5⟩ := row_ev hE.fam hR ha hid hV
  exact ⟨A, c, rfl, ⟨y, g2, rfl, rfl, rfl, h2.trans hE, hR, hK⟩, x, hx, y', g', k3, by rw [k4], k5, (h2.trans hE).trans k1, k2, hK.step k1⟩
/-- What a call of Load comes to. -/
def LoadDoes (w : World) (i : Img) (e : Ending) (w' : World) : Prop :=
  (isImageB i = false ∧ e = .returned (.tuple #[.pointer none, .int .i64 2]) ∧ Below w.heap.size w w') ∨
    (isImageB i = true ∧ ∃ p, e = .returned (.tuple #[ptr p, .int .i64 0]) ∧ LoadSt w p (loadM i) Gh.nil w')
def atK (T : Int) (l : List StoredM) (k : Nat) : St := ⟨T, loadTabs (l.take k), [], []⟩
def atJ (T : Int) (l : List StoredM) (k : Nat) (x : StoredM) (j : Nat) : St := ⟨T, loadTabs (l.take k) ++ [(x.key, ⟨(x.rows.take j).map loadRow, x.next⟩)], [], []⟩
theorem atK_new {l : List StoredM} {k : Nat} {x : StoredM} (hn : (l.map StoredM.key).Nodup) (hx : l[k]? = some x) : x.key ∉ (loadTabs (l.take k)).map Prod.fst := by
  rw [loadTabs_keys]
  intro h
  obtain ⟨s, hs, e⟩ := List.mem_map.1 h
  obtain ⟨j, hj⟩ := List.mem_iff_getElem?.1 hs
  rw [List.getElem?_take] at hj
  split at hj
  · rename_i hjk
    have h1 : (l.map StoredM.key)[j]? = some x.key := by rw [List.getElem?_map, hj, ← e]; rfl
    have h2 : (l.map StoredM.key)[k]? = some x.key := by rw [List.getElem?_map, hx]; rfl
    have := (List.getElem?_inj ((List.getElem?_eq_some_iff.1 h1).1) hn).1 (h1.trans h2.symm)
    omega
  · cases hj
theorem atK_find {T : Int} {l : List StoredM} {k : Nat} {x : StoredM} (hn : (l.map StoredM.key).Nodup) (hx : l[k]? = some x) :
    aget ((atK T l k).find x.key).tabs x.key = some ⟨[], 1⟩ ∧ ({ ((atK T l k).find x.key) with tabs := aput ((atK T l k).find x.key).tabs x.key ⟨[], x.next⟩ } : St) = atJ T l k x 0 := by
  have hnew := atK_new hn hx
  have e : aget (atK T l k).tabs x.key = none := aget_none.2 hnew
  have hf : (atK T l k).find x.key = ⟨T, loadTabs (l.take k) ++ [(x.key, ⟨[], 1⟩)], [], []⟩ := by
    unfold St.find
    rw [e]
    show (⟨T, aput (loadTabs (l.take k)) x.key ⟨[], 1⟩, [], []⟩ : St) = _
    rw [aput_new _ hnew]
  rw [hf]
  refine ⟨?_, ?_⟩
  · show aget (loadTabs (l.take k) ++ [(x.key, ⟨[], 1⟩)]) x.key = _
    rw [← aput_new _ hnew, aget_put_same]
  · show (⟨T, aput (loadTabs (l.take k) ++ [(x.key, ⟨[], 1⟩)]) x.key ⟨[], x.next⟩, [], []⟩ : St) = _
    rw [aput_last _ _ hnew]
    unfold atJ
    simp
theorem atJ_get {T : Int} {l : List StoredM} {k : Nat} {x : StoredM} (hn : (l.map StoredM.key).Nodup) (hx : l[k]? = some x) (j : Nat) : aget (atJ T l k x j).tabs x.key = some ⟨(x.rows.take j).map loadRow, x.next⟩ := by
  show aget (loadTabs (l.take k) ++ [(x.key, ⟨(x.rows.take j).map loadRow, x.next⟩)]) x.key = _
  rw [← aput_new _ (atK_new hn hx), aget_put_same]
theorem atJ_row {T : Int} {l : List StoredM} {k : Nat} {x : StoredM} (hn : (l.map StoredM.key).Nodup) (hx : l[k]? = some x) (hs : (x.rows.map Prod.fst).Pairwise (· < ·)) {j : Nat} {h : Int × List Val} (hh : x.rows[j]? = some h) :
    ({ atJ T l k x j with tabs := aput (atJ T l k x j).tabs x.key ((⟨(x.rows.take j).map loadRow, x.next⟩ : Tab).putRow h.1 (rowV h.2)) } : St) = atJ T l k x (j + 1) := by
  have hid : h.1 ∉ ((x.rows.take j).map loadRow).map Prod.fst := by
    rw [List.map_map]
    intro hm
    obtain ⟨q, hq, e⟩ := List.mem_map.1 hm
    obtain ⟨m, hm'⟩ := List.mem_iff_getElem?.1 hq
    rw [List.getElem?_take] at hm'
    split at hm'
    · rename_i hmj
      have hnd : (x.rows.map Prod.fst).Nodup := hs.imp fun {a b} hab e => by omega
      have h1 : (x.rows.map Prod.fst)[m]? = some h.1 := by rw [List.getElem?_map, hm', ← e]; rfl
      have h2 : (x.rows.map Prod.fst)[j]? = some h.1 := by rw [List.getElem?_map, hh]; rfl
      have := (List.getElem?_inj ((List.getElem?_eq_some_iff.1 h1).1) hnd).1 (h1.trans h2.symm)
      omega
    · cases hm'
  show (⟨T, aput (loadTabs (l.take k) ++ [(x.key, _)]) x.key _, [], []⟩ : St) = _
  rw [aput_last _ _ (atK_new hn hx)]
  unfold atJ Tab.putRow
  dsimp only
  rw [aput_new _ hid, List.take_add_one, hh, List.map_append]
  rfl
theorem atJ_end {T : Int} {l : List StoredM} {k : Nat} {x : StoredM} (hx : l[k]? = some x) : atJ T l k x x.rows.length = atK T l (k + 1) := by
  unfold atJ atK loadTabs
  rw [List.take_add_one, hx, List.map_append, List.take_of_length_le (Nat.le_refl _)]
  rfl

set_option maxRecDepth 100000 in
set_option maxHeartbeats 2000000 in
theorem load_any (G : Gh) (v : Value) (i : Img) (w : World) (hG : Holds G w) (h : ImgIn G v i) (hnul : Nul w) : Calls Tryz.prog 14 #[v] w (LoadDoes w i) := by
  have hbx := fun o : Obj => ((Below.refl w.heap.size w).alloc (Nat.le_refl _) o)
  have HIs := Lib.hid (fun o : Obj => isImage_any G v i (w.alloc o) (hG.below (hbx o)) h (hnul.below (hbx o)))
  obtain ⟨tv, rfl, hin, hfit⟩ := h
  obtain ⟨A, c, rfl, hc, hs⟩ := stored_in hin
  have hm := hfit.len
  have HV := Lib.hid hs
  have HG := Lib.hid hG
  have HFit := Lib.hid hfit
  have HB := Lib.hid (hbx (.cells #[.int .i64 i.time, .slice A i.tabs.length c] 24))
  clear hs hG hin hfit hnul hbx
  cases hi : isImageB i with
  | false =>
    rw [hi] at HIs
    go_enter Tryz.func14, Tryz.ntmps14
    go_wp2_with (go_at_call 40; refine (HIs.out _).mono ?_; rintro e w1 ⟨rfl, hb1⟩; replace hb1 := Lib.hid (HB.out.trans (hb1.mono HB.out.size)))
    go_ret2
    exact .inl ⟨hi, rfl, hb1.out⟩
  | true =>
    rw [hi] at HIs
    obtain ⟨hT, hgood, hsort⟩ := isImage_parts hi
    have HNd := Lib.hid (keys_nodup hsort)
    have HGood := Lib.hid hgood
    have HNew := Lib.hid (fun (u : World) (hu : Below (w.alloc (.cells #[.int .i64 i.time, .slice A i.tabs.length c] 24)).heap.size (w.alloc (.cells #[.int .i64 i.time, .slice A i.tabs.length c] 24)) u) => load_new (w0 := w) (G := Gh.nil.put w.heap.size (.cells #[.int .i64 i.time, .slice A i.tabs.length c] 24)) (HB.out.trans (hu.mono HB.out.size)) (((Holds.nil w).alloc _).below hu))
    have HBox := Lib.hid (fun (W : World) (G' : Gh) (hW : Holds G' W) (hs : Sub (Gh.nil.put w.heap.size (.cells #[.int .i64 i.time, .slice A i.tabs.length c] 24)) G') => And.intro (hW.cell (i := 0) (hs _ _ (Gh.put_same _ _ _)) rfl) (hW.cell (i := 1) (hs _ _ (Gh.put_same _ _ _)) rfl))
    have HI := Lib.hid hi
    clear hsort hgood hi
    generalize hn : i.tabs.length = n at *
    go_enter Tryz.func14, Tryz.ntmps14
    unfold ptr at *
    go_wp2_with (first
      | (go_at_call 40; refine (HIs.out _).mono ?_; rintro e w1 ⟨rfl, hb1⟩; replace hb1 := Lib.hid hb1)
      | (go_at_call 19; refine (HNew.out _ hb1.out).mono ?_; rintro e w2 ⟨p, rfl, hS⟩; obtain ⟨z1, ⟨zv, z2⟩, z3⟩ := hS.time i.time; obtain ⟨b0, b1⟩ := HBox.out _ _ hS.holds (Sub.refl _); replace z3 := Lib.hid z3; clear hS))
    generalize hGb : Gh.nil.put w.heap.size (.cells #[.int .i64 i.time, .slice A n c] 24) = Gb at *
    generalize hL : i.tabs = L at *
    generalize hTT : i.time = T at *
    generalize hsw : w.heap.size = s at *
    have HSw := Lib.hid hsw
    clear z1 z2 b0 b1 hGb hsw
    go_loopw [22] (fun i' wr => ∃ (k : Nat), k ≤ n ∧ i' = .int .i64 k ∧ LoadSt w p (atK T L k) Gb wr) (fun i' _ => n - (RowKit.intOf i').toNat)
    case atStart => exact ⟨0, Nat.zero_le _, by simp, z3.out⟩
    case round =>
      obtain ⟨k, hk, rfl, hS⟩ := hrel
      by_cases hkn : k = n
      · subst hkn
        have HE : Hid (LoadSt w p (loadM i) Gh.nil wr) := by
          unfold Hid
          have := hS.weaken (G' := Gh.nil) (fun b o h => by cases h)
          unfold atK at this
          rw [List.take_of_length_le (by omega)] at this
          unfold loadM
          rw [hL, hTT]
          exact this
        clear hS
        go_wp2
        go_ret2
        exact .inr ⟨HI.out, p, rfl, HE.out⟩
      · have hk1 : (k : Int) < (n : Int) := by omega
        have hk0 : (0 : Int) ≤ (k : Int) := Int.natCast_nonneg _
        obtain ⟨x, hx⟩ : ∃ x, L[k]? = some x := ⟨L[k]'(by omega), List.getElem?_eq_getElem _⟩
        have hxg := HGood.out x (List.mem_of_getElem? hx)
        obtain ⟨q, o, hv, rfl, hh, hcl⟩ := HV.out k x hx
        obtain ⟨A5, c5, rfl, hc5, hcl5⟩ := held_in hh
        have hGw : Holds G wr := HG.out.below hS.below
        obtain ⟨x1, x2, x3, x4⟩ := hcl wr hGw
        obtain ⟨hrows, hsorted⟩ := heldsB_parts hxg.rows
        have hm5 := hxg.len
        have hnx : x.next ≤ 1099511627776 := by
          have := hxg.next
          unfold numB at this
          simp only [Bool.and_eq_true, decide_eq_true_eq] at this
          exact this.2
        have HRows := Lib.hid hrows
        have HSorted := Lib.hid hsorted
        have HV5 := Lib.hid hcl5
        obtain ⟨hfind, hnext⟩ := atK_find (T := T) HNd.out hx
        have hSa := hS.alloc (.cells #[.string x.key.1, .string x.key.2, .slice A5 x.rows.length c5, .int .i64 x.next] 72)
        have HFind := Lib.hid (hSa.find x.key)
        have HTb := Lib.hid (fun (W : World) (G' : Gh) (hW : Holds G' W) (hs : Sub (Gb.put wr.heap.size (.cells #[.string x.key.1, .string x.key.2, .slice A5 x.rows.length c5, .int .i64 x.next] 72)) G') => And.intro (hW.cell (i := 2) (hs _ _ (Gh.put_same _ _ _)) rfl) (hW.cell (i := 3) (hs _ _ (Gh.put_same _ _ _)) rfl))
        have HSubB := Lib.hid (Sub.put_new hS.holds (.cells #[.string x.key.1, .string x.key.2, .slice A5 x.rows.length c5, .int .i64 x.next] 72))
        have HGet := Lib.hid (fun j => atJ_get (T := T) HNd.out hx j)
        have HRow := Lib.hid (fun (j : Nat) (h : Int × List Val) (hj : x.rows[j]? = some h) => atJ_row (T := T) HNd.out hx hsorted hj)
        have HEnd := Lib.hid (atJ_end (T := T) hx)
        have HF := Lib.hid (And.intro hfind hnext)
        unfold encK ptr at *
        generalize hn5 : x.rows.length = n5 at *
        clear hh hcl hcl5 hxg hx hkn hrows hsorted hGw hfind hnext hS hSa
        generalize hst : wr.heap.size = st at *
        go_wp2_with (first
          | (go_at_call 41; refine HFind.out.mono ?_; rintro e w4 ⟨tb, rm, rfl, hS4⟩; obtain ⟨t2, t3⟩ := HTb.out _ _ hS4.st.holds (Sub.refl _); obtain ⟨d0, d1, d2, d3⟩ := hS4.cells HF.out.1; have hS5 := hS4.next HF.out.1 x.next; replace hS5 := Lib.hid hS5; clear hS4))
        generalize hGt : Gb.put st (.cells #[.string x.key.1, .string x.key.2, .slice A5 n5 c5, .int .i64 x.next] 72) = Gt at *
        have HS6 := hS5.out
        have e6 := HF.out.2
        rw [show ({ rows := [], next := x.next } : Tab) = { (⟨[], 1⟩ : Tab) with next := x.next } from rfl] at e6
        rw [e6] at HS6
        replace HS6 := Lib.hid HS6
        clear e6
        clear hS5 t2 t3 d0 d1 d2 d3 hst hGt HF
        go_loopw [41] (fun i' wi => ∃ (j : Nat), j ≤ n5 ∧ i' = .int .i64 j ∧ LoadTb w p (atJ T L k x j) Gt x.key tb rm wi) (fun i' _ => n5 - (RowKit.intOf i').toNat)
        case atStart => exact ⟨0, Nat.zero_le _, by simp, HS6.out⟩
        case round =>
          obtain ⟨j, hj, rfl, hJ⟩ := hrel
          by_cases hjn : j = n5
          · subst hjn
            have HE : Hid (LoadSt w p (atK T L (k + 1)) Gb wr) := by
              unfold Hid
              have := hJ.st.weaken HSubB.out
              rw [HEnd.out] at this
              exact this
            clear hJ
            go_wp2
            go_roundw
            case rel => exact ⟨k + 1, by omega, by go_num, HE.out⟩
            case measure => simp [RowKit.intOf]; omega
          · have hj1 : (j : Int) < (n5 : Int) := by omega
            have hj0 : (0 : Int) ≤ (j : Int) := Int.natCast_nonneg _
            obtain ⟨h, hh⟩ : ∃ h, x.rows[j]? = some h := ⟨x.rows[j]'(by omega), List.getElem?_eq_getElem _⟩
            obtain ⟨r1, r2, r3⟩ := HRows.out h (List.mem_of_getElem? hh)
            obtain ⟨q5, o5, rv5, rfl, hr5, hcl6⟩ := HV5.out j h hh
            have hr5' := hr5
            obtain ⟨A6, c6, rfl, hc6, -⟩ := hr5'
            obtain ⟨y1, y2⟩ := hcl6 wr (HG.out.below hJ.st.below)
            have hJa := hJ.alloc (.cells #[.int .i64 h.1, .slice A6 h.2.length c6] 74)
            have HSubH := Lib.hid (Sub.put_new hJ.st.holds (.cells #[.int .i64 h.1, .slice A6 h.2.length c6] 74))
            have HJa := Lib.hid hJa
            have HHb := Lib.hid (fun (W : World) (hW : Holds (Gt.put wr.heap.size (.cells #[.int .i64 h.1, .slice A6 h.2.length c6] 74)) W) => And.intro (hW.cell (i := 0) (Gh.put_same _ _ _) rfl) (hW.cell (i := 1) (Gh.put_same _ _ _) rfl))
            have HRw := Lib.hid (HRow.out j h hh)
            have HGj := Lib.hid (HGet.out j)
            have hlen20 := rowB_len r3
            have HR5 := Lib.hid hr5
            have hidok : okI h.1 := okI_of (by omega) (by omega)
            clear hcl6 hh hjn hr5 hJ
            generalize hsh : wr.heap.size = sh at *
            go_wp2_with fail
            refine World.abs (fun u => LoadTb w p (atJ T L k x j) (Gt.put sh (.cells #[.int .i64 h.1, .slice A6 h.2.length c6] 74)) x.key tb rm u) HJa.out ?_
            intro u5 hu5
            obtain ⟨f0, f1⟩ := HHb.out _ hu5.st.holds
            obtain ⟨d0, -, -, d3⟩ := hu5.cells HGj.out
            have hsl := hu5.st.holds.lt (Gh.put_same _ sh _)
            have HCl := Lib.hid ((hu5.drewN 1).clone HGj.out HG.out HR5.out hlen20 hidok)
            have HU5 := Lib.hid hu5
            clear hu5 y1 y2
            unfold encI ptr at *
            go_region_held3 (fun u' => u'.cell? ⟨tb, 0, none⟩ = some (.map (some rm)) ∧ u'.cell? ⟨sh, 0, none⟩ = some (.int .i64 h.1) ∧ u'.cell? ⟨sh, 1, none⟩ = some (.slice A6 h.2.length c6))
              (go_keep)
              ((go_at_call 42; refine HCl.out.mono ?_; rintro e w6 ⟨A7, c7, rfl, hT6, x6, hup, hT7⟩; obtain ⟨g0, -, -, g3⟩ := hT6.cells HGj.out; obtain ⟨g1, g2⟩ := HHb.out _ hT6.st.holds; have g4 := hT6.st.holds.lt (Gh.put_same _ sh _); have e7 := HRw.out; rw [e7] at hT7; clear e7; obtain ⟨k0, -, -, -⟩ := hT7.cells (HGet.out (j + 1)); obtain ⟨k1, k2⟩ := HHb.out _ hT7.st.holds; replace hT7 := Lib.hid hT7; clear hT6))
            go_wp2
            go_roundw
            case rel => exact ⟨j + 1, by omega, by go_num, by have := hT7.out; exact LoadTb.weaken this HSubH.out⟩
            case measure => simp [RowKit.intOf]; omega
end Go.Ju

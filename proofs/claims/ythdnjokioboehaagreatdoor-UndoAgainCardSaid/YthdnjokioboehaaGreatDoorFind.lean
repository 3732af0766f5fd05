/- Look-ups in a store's maps; 'find'. -/
import Derived.Test.YthdnjokioboehaaGreatDoorFull
import Derived.BigRegion
import Derived.Deep.RegionHeld3
namespace Go.Ju
open Go.RowKit
open Go.Proofs
open Go.ChangeMaps

theorem zeroPT (w : World) : (zeroValue 88).run Tryz.prog w = .ok (.pointer none) w := by kernel_rfl
theorem zeroPR (w : World) : (zeroValue 95).run Tryz.prog w = .ok (.pointer none) w := by kernel_rfl
theorem zeroInt (w : World) : (zeroValue 3).run Tryz.prog w = .ok (.int .i64 0) w := by kernel_rfl
theorem zeroSC (w : World) : (zeroValue 128).run Tryz.prog w = .ok (.slice none 0 0) w := by kernel_rfl

section
variable {κ β : Type} [DecidableEq κ] {P : Program} {kt t e : TypeId} {enc : κ → Value} {ok : κ → Prop} {G : Gh} {m : Nat} {L : List (κ × β)} {f : κ × β → Value}
omit [DecidableEq κ] in
theorem keys_map (L : List (κ × β)) (f : κ × β → Value) : (L.map fun p => (p.1, f p)).map Prod.fst = L.map Prod.fst := by
  rw [List.map_map]; rfl
omit [DecidableEq κ] in
theorem MapAt.nodup (h : MapAt G m enc ok (L.map fun p => (p.1, f p))) : (L.map Prod.fst).Nodup := by
  obtain ⟨es, clk, _, hm⟩ := h
  rw [← keys_map L f]
  exact hm.nodup
omit [DecidableEq κ] in
theorem MapAt.oks (h : MapAt G m enc ok (L.map fun p => (p.1, f p))) : ∀ p ∈ L, ok p.1 := fun p hp => by
  obtain ⟨es, clk, _, hm⟩ := h
  exact hm.oks (p.1, f p) (List.mem_map_of_mem (f := fun p => (p.1, f p)) hp)
theorem MapAt.look (K : KL P kt enc ok (fun _ => True)) (ht : P.underlying t = some (.map kt e)) {W : World} (hG : Holds G W) (h : MapAt G m enc ok (L.map fun p => (p.1, f p))) {k : κ} (hk : ok k) {z : Value} (hz : (zeroValue e).run P W = .ok z W) :
    (Instr.lookup t (.map (some m)) (enc k) false).run P W = .ok (match aget L k with | none => z | some v => f (k, v)) W := by
  obtain ⟨es, clk, hm, hmap⟩ := h
  cases ha : aget L k with
  | none =>
    refine run_lookup_gone K ht trivial (hG m _ hm) hmap hk ?_ hz
    rw [keys_map]
    exact aget_none.1 ha
  | some v => exact run_lookup_there K ht trivial (hG m _ hm) hmap hk (List.mem_map_of_mem (f := fun p => (p.1, f p)) (aget_mem ha))
/-- A store into the map, told at the list: whatever the key. -/
theorem MapAt.update (K : KL P kt enc ok (fun _ => True)) (ht : P.underlying t = some (.map kt e)) {W : World} (hG : Holds G W) (h : MapAt G m enc ok (L.map fun p => (p.1, f p))) {k : κ} (hk : ok k) (b : β) (f' : κ × β → Value) (hf : ∀ p ∈ L, p.1 ≠ k → f' p = f p) :
    ∃ x, (∀ W', Holds G W' → (Instr.mapUpdate t (.map (some m)) (enc k) (f' (k, b))).run P W' = .ok () (setBlock W' m x)) ∧ (∀ W', Holds G W' → Ev G W' (G.put m x) (setBlock W' m x)) ∧ MapAt (G.put m x) m enc ok ((aput L k b).map fun p => (p.1, f' p)) := by
  obtain ⟨es, clk, hm, hmap⟩ := h
  by_cases hin : k ∈ L.map Prod.fst
  · obtain ⟨p, hp, rfl⟩ := List.mem_map.1 hin
    obtain ⟨es', hrun, hmap'⟩ := run_update_old K ht (w := W) trivial (hG m _ hm) hmap hk (List.mem_map_of_mem (f := fun p => (p.1, f p)) hp) (f' (p.1, b))
    refine ⟨.map es' clk, fun W' hW' => hrun W' trivial (hW' m _ hm), fun W' hW' => (Ev.refl hW').setBlock hm _, es', clk, Gh.put_same _ _ _, ?_⟩
    have : ((aput L p.1 b).map fun q => (q.1, f' q)) = (L.map fun q => (q.1, f q)).map fun q => if q.1 = p.1 then (p.1, f' (p.1, b)) else q := by
      unfold aput
      rw [if_pos hin, List.map_map, List.map_map]
      apply List.map_congr_left
      intro q hq
      simp only [Function.comp]
      by_cases e : q.1 = p.1
      · simp [e]
      · simp [e, hf q hq e]
    rw [this]
    exact hmap'
  · obtain ⟨es', hrun, hmap'⟩ := run_update_new K ht (w := W) trivial (hG m _ hm) hmap hk (by rw [keys_map]; exact hin) (f' (k, b))
    refine ⟨.map es' (clk + 1), fun W' hW' => hrun W' trivial (hW' m _ hm), fun W' hW' => (Ev.refl hW').setBlock hm _, es', clk + 1, Gh.put_same _ _ _, ?_⟩
    have : ((aput L k b).map fun q => (q.1, f' q)) = (L.map fun q => (q.1, f q)) ++ [(k, f' (k, b))] := by
      unfold aput
      rw [if_neg hin, List.map_append]
      congr 1
      apply List.map_congr_left
      intro q hq
      rw [hf q hq (fun e => hin (by rw [← e]; exact List.mem_map_of_mem hq))]
    rw [this]
    exact hmap'.congr (List.perm_append_singleton _ _).symm
theorem MapAt.delete (K : KL P kt enc ok (fun _ => True)) (ht : P.underlying t = some (.map kt e)) {W : World} (hG : Holds G W) (h : MapAt G m enc ok (L.map fun p => (p.1, f p))) {k : κ} (hk : ok k) (u ty : TypeId) :
    ∃ x, (∀ W', Holds G W' → (Builtin.delete_ #[t, u] ty #[.map (some m), enc k]).run P W' = .ok (.tuple #[]) (setBlock W' m x)) ∧ (∀ W', Holds G W' → Ev G W' (G.put m x) (setBlock W' m x)) ∧ MapAt (G.put m x) m enc ok ((adel L k).map fun p => (p.1, f p)) := by
  obtain ⟨es, clk, hm, hmap⟩ := h
  obtain ⟨es', hrun, hmap'⟩ := run_delete_any K ht (w := W) trivial (hG m _ hm) hmap hk u ty
  refine ⟨.map es' clk, fun W' hW' => hrun W' trivial (hW' m _ hm), fun W' hW' => (Ev.refl hW').setBlock hm _, es', clk, Gh.put_same _ _ _, ?_⟩
  have : ((adel L k).map fun q => (q.1, f q)) = (L.map fun q => (q.1, f q)).filter fun q => decide (q.1 ≠ k) := by
    unfold adel
    rw [List.filter_map]
    rfl
  rw [this]
  exact hmap'
omit [DecidableEq κ] in
theorem MapAt.congr {f' : κ × β → Value} (h : MapAt G m enc ok (L.map fun p => (p.1, f p))) (hf : ∀ p ∈ L, f' p = f p) : MapAt G m enc ok (L.map fun p => (p.1, f' p)) := by
  rw [show (L.map fun p => (p.1, f' p)) = L.map fun p => (p.1, f p) from List.map_congr_left fun p hp => by rw [hf p hp]]
  exact h
end
def ins {α β : Type} [DecidableEq α] (f : α → β) (a : α) (b : β) : α → β := fun x => if x = a then b else f x
@[simp] theorem ins_same {α β : Type} [DecidableEq α] (f : α → β) (a : α) (b : β) : ins f a b a = b := by simp [ins]
theorem ins_other {α β : Type} [DecidableEq α] (f : α → β) {a x : α} (b : β) (h : x ≠ a) : ins f a b x = f x := by simp [ins, h]

theorem upd_upd {ι : Type} [DecidableEq ι] (g : ι → Gh) (c : ι) (G G' : Gh) : upd (upd g c G) c G' = upd g c G' := by
  funext d
  by_cases e : d = c
  · subst e; simp
  · rw [upd_other _ _ e, upd_other _ _ e, upd_other _ _ e]

/-- A goal about a world: all that counts is what is known of it. -/
theorem World.abs {Q : World → Prop} {W : World} (P : World → Prop) (h : P W) (k : ∀ u, P u → Q u) : Q W := k W h

/-- What a call of the store's comes to. -/
def Does (B : Nat) (g : Comp → Gh) (w : World) (R : Value → (Comp → Gh) → Prop) (e : Ending) (w' : World) : Prop := ∃ v g', e = .returned v ∧ FEv B g w g' w' ∧ R v g'

section
variable {κ β : Type} [DecidableEq κ]
theorem aput_map_old {L : List (κ × β)} {k : κ} {b : β} (h : k ∈ L.map Prod.fst) (f : κ → Value) : (aput L k b).map (fun p => (p.1, f p.1)) = L.map fun p => (p.1, f p.1) := by
  have := congrArg (List.map fun x => (x, f x)) (aput_keys_old b h)
  rw [List.map_map, List.map_map] at this
  exact this
end
section
variable {y : Lay} {M : St} {g g' : Comp → Gh} {w : World} {B : Nat}
theorem Rep.addTab (h : Rep y M g) {k : Key} (b m : Nat) (x : Tab) (hx : x.rows = [])
    (hk : ∀ c, c ≠ .tmp → c ≠ .imm → c ≠ .tM → c ≠ .tab k → g' c = g c) (hi : Sub (g .imm) (g' .imm))
    (hM : MapAt (g' .tM) y.tM encK (fun _ => True) ((aput M.tabs k x).map fun p => (p.1, ptr (ins y.tb k b p.1))))
    (hT : TabObj (g' (.tab k)) b m x (y.rb k)) : Rep { y with tb := ins y.tb k b, rM := ins y.rM k m } { M with tabs := aput M.tabs k x } g' where
  st := by rw [hk _ (by simp) (by simp) (by simp) (by simp)]; exact h.st
  tM := hM
  dM := by rw [hk _ (by simp) (by simp) (by simp) (by simp)]; exact h.dM
  lM := by rw [hk _ (by simp) (by simp) (by simp) (by simp)]; exact h.lM
  tab k' t hkt := by
    rcases mem_aput hkt with e | ⟨h1, h2⟩
    · cases e
      simpa using hT
    · simp only [ins_other _ _ h2]
      rw [hk _ (by simp) (by simp) (by simp) (by simpa using h2)]
      exact h.tab k' t h1
  row k' t hkt i r hr := by
    rcases mem_aput hkt with e | ⟨h1, h2⟩
    · cases e
      rw [hx] at hr
      simp at hr
    · rw [hk _ (by simp) (by simp) (by simp) (by simp)]
      exact (h.row k' t h1 i r hr).sub hi
  log x l hl := by rw [hk _ (by simp) (by simp) (by simp) (by simp)]; exact (h.log x l hl).sub hi
/-- A table's rows change. -/
theorem Rep.setTab (h : Rep y M g) {k : Key} {t : Tab} (ha : aget M.tabs k = some t) (m : Nat) (t' : Tab) (rb' : Int → Nat)
    (hk : ∀ c, c ≠ .tmp → c ≠ .imm → c ≠ .tab k → (∀ i, c ≠ .row k i) → g' c = g c) (hi : Sub (g .imm) (g' .imm))
    (hT : TabObj (g' (.tab k)) (y.tb k) m t' rb') (hR : ∀ i r, (i, r) ∈ t'.rows → RowObj (g' (.row k i)) (g' .imm) (rb' i) r) :
    Rep { y with rM := ins y.rM k m, rb := ins y.rb k rb' } { M with tabs := aput M.tabs k t' } g' where
  st := by rw [hk _ (by simp) (by simp) (by simp) (by simp)]; exact h.st
  tM := by
    rw [hk _ (by simp) (by simp) (by simp) (by simp)]
    dsimp only
    rw [aput_map_old (aget_isSome.1 (by rw [ha]; rfl)) (fun x => ptr (y.tb x))]
    exact h.tM
  dM := by rw [hk _ (by simp) (by simp) (by simp) (by simp)]; exact h.dM
  lM := by rw [hk _ (by simp) (by simp) (by simp) (by simp)]; exact h.lM
  tab k' u hku := by
    rcases mem_aput hku with e | ⟨h1, h2⟩
    · cases e
      simpa using hT
    · simp only [ins_other _ _ h2]
      rw [hk _ (by simp) (by simp) (by simpa using h2) (by simp)]
      exact h.tab k' u h1
  row k' u hku i r hr := by
    rcases mem_aput hku with e | ⟨h1, h2⟩
    · cases e
      simp only [ins_same]
      exact hR i r hr
    · simp only [ins_other _ _ h2]
      rw [hk _ (by simp) (by simp) (by simp) (by intro j; simp [h2])]
      exact (h.row k' u h1 i r hr).sub hi
  log x l hl := by rw [hk _ (by simp) (by simp) (by simp) (by simp)]; exact (h.log x l hl).sub hi
/-- One row changes. -/
theorem Rep.setRow (h : Rep y M g) {k : Key} {t : Tab} (ha : aget M.tabs k = some t) {i : Int} {r0 : RowS} (hir : aget t.rows i = some r0) (r : RowS)
    (hk : ∀ c, c ≠ .tmp → c ≠ .imm → c ≠ .row k i → g' c = g c) (hi : Sub (g .imm) (g' .imm))
    (hR : RowObj (g' (.row k i)) (g' .imm) (y.rb k i) r) : Rep y (M.putRow k i r) g' := by
  have e : M.putRow k i r = { M with tabs := aput M.tabs k (t.putRow i r) } := by simp [St.putRow, ha]
  have := h.setTab ha (y.rM k) (t.putRow i r) (y.rb k) (g' := g') (fun c h1 h2 h3 h4 => hk c h1 h2 (h4 i)) hi (by
    rw [hk _ (by simp) (by simp) (by simp)]
    obtain ⟨h1, h2⟩ := h.tab k t (aget_mem ha)
    refine ⟨h1, ?_⟩
    unfold Tab.putRow
    dsimp only
    rw [aput_map_old (aget_isSome.1 (by rw [hir]; rfl)) (fun x => ptr (y.rb k x))]
    exact h2) (fun j q hq => by
    rcases mem_aput hq with e | ⟨h1, h2⟩
    · cases e; exact hR
    · rw [hk _ (by simp) (by simp) (by simpa using h2)]
      exact (h.row k t (aget_mem ha) j q h1).sub hi)
  rw [e]
  rw [show y = { y with rM := ins y.rM k (y.rM k), rb := ins y.rb k (y.rb k) } by
    have e1 : ins y.rM k (y.rM k) = y.rM := by funext x; unfold ins; split <;> simp_all
    have e2 : ins y.rb k (y.rb k) = y.rb := by funext x; unfold ins; split <;> simp_all
    rw [e1, e2]]
  exact this
end

section
variable {y : Lay} {M : St} {g : Comp → Gh} {w : World} {B : Nat}
theorem Rep.nodupT (h : Rep y M g) : (M.tabs.map Prod.fst).Nodup := h.tM.nodup
theorem Rep.nodupD (h : Rep y M g) : (M.drops.map Prod.fst).Nodup := h.dM.nodup
theorem Rep.nodupL (h : Rep y M g) : (M.log.map Prod.fst).Nodup := h.lM.nodup
theorem Rep.nodupR (h : Rep y M g) {k : Key} {t : Tab} (hk : (k, t) ∈ M.tabs) : (t.rows.map Prod.fst).Nodup := (h.tab k t hk).2.nodup
theorem Rep.lookT (h : Rep y M g) (k : Key) {W : World} (hW : Holds (g .tM) W) :
    (Instr.lookup 83 (.map (some y.tM)) (encK k) false).run Tryz.prog W = .ok (match aget M.tabs k with | none => .pointer none | some _ => ptr (y.tb k)) W := by
  rw [h.tM.look (f := fun p => ptr (y.tb p.1)) klK Tryz.underlying83 hW trivial (zeroPT W)]
  cases aget M.tabs k <;> rfl
theorem Rep.lookR (h : Rep y M g) {k : Key} {t : Tab} (hk : (k, t) ∈ M.tabs) {i : Int} (hi : okI i) {W : World} (hW : Holds (g (.tab k)) W) :
    (Instr.lookup 92 (.map (some (y.rM k))) (encI i) false).run Tryz.prog W = .ok (match aget t.rows i with | none => .pointer none | some _ => ptr (y.rb k i)) W := by
  rw [(h.tab k t hk).2.look (f := fun p => ptr (y.rb k p.1)) klI Tryz.underlying92 hW hi (zeroPR W)]
  cases aget t.rows i <;> rfl
theorem Rep.lookD (h : Rep y M g) (k : Key) {W : World} (hW : Holds (g .dM) W) :
    (Instr.lookup 84 (.map (some y.dM)) (encK k) false).run Tryz.prog W = .ok (.int .i64 (M.dr k)) W := by
  rw [h.dM.look (f := fun p => .int .i64 p.2) klK Tryz.underlying84 hW trivial (zeroInt W)]
  unfold St.dr
  cases aget M.drops k <;> rfl
theorem Rep.lookL (h : Rep y M g) {x : Int} (hx : okI x) {W : World} (hW : Holds (g .lM) W) :
    (Instr.lookup 85 (.map (some y.lM)) (encI x) false).run Tryz.prog W = .ok (match aget M.log x with | none => .slice none 0 0 | some _ => y.lv x) W := by
  rw [h.lM.look (f := fun p => y.lv p.1) klI Tryz.underlying85 hW hx (zeroSC W)]
  cases aget M.log x <;> rfl
theorem Rep.cells (h : Rep y M g) (hF : Fam B g w) : w.cell? ⟨y.p, 0, none⟩ = some (.int .i64 M.time) ∧ w.cell? ⟨y.p, 1, none⟩ = some (.map (some y.tM)) ∧ w.cell? ⟨y.p, 2, none⟩ = some (.map (some y.dM)) ∧ w.cell? ⟨y.p, 3, none⟩ = some (.map (some y.lM)) :=
  ⟨(hF.holds .st).cell h.st rfl, (hF.holds .st).cell h.st rfl, (hF.holds .st).cell h.st rfl, (hF.holds .st).cell h.st rfl⟩
end

def St.find (M : St) (k : Key) : St := match aget M.tabs k with
  | some _ => M
  | none => { M with tabs := aput M.tabs k ⟨[], 1⟩ }

theorem find_any (B : Nat) (g : Comp → Gh) (w : World) (y : Lay) (M : St) (k : Key) (hF : Fam B g w) (h : Rep y M g) :
    Calls Tryz.prog 41 #[ptr y.p, encK k] w (Does B g w fun v g' => ∃ y', v = ptr (y'.tb k) ∧ Rep y' (M.find k) g' ∧ y'.p = y.p) := by
  obtain ⟨_, c1, _, _⟩ := h.cells hF
  have hlt := (hF.holds .st).lt h.st
  have hev := (FEv.refl hF).alloc .tmp (.cells #[.string k.1, .string k.2] 91)
  have hrep := h.keep (g' := upd g .tmp ((g .tmp).put w.heap.size (.cells #[.string k.1, .string k.2] 91))) (fun c h1 _ => upd_other _ _ h1) (by rw [upd_other _ _ (by simp)]; exact Sub.refl _)
  have hl0 := fun n => hrep.lookT k (W := (w.alloc (.cells #[.string k.1, .string k.2] 91)).drewN n) (hev.fam.holds .tM)
  cases ha : aget M.tabs k with
  | some t =>
    have hl : ∀ n, (Instr.lookup 83 (.map (some y.tM)) (.agg #[.string k.1, .string k.2]) false).run Tryz.prog ((w.alloc (.cells #[.string k.1, .string k.2] 91)).drewN n) = .ok (.pointer (some ⟨y.tb k, 0, none⟩)) ((w.alloc (.cells #[.string k.1, .string k.2] 91)).drewN n) := fun n => by
      have := hl0 n
      rw [ha] at this
      exact this
    have hfin : M.find k = M := by simp [St.find, ha]
    have HE := Lib.hid hev
    have HR := Lib.hid hrep
    have HFn := Lib.hid hfin
    clear hev hrep hfin ha h hF hl0
    unfold encK ptr at *
    go_enter Tryz.func41, Tryz.ntmps41
    go_wp2
    go_quiet (fail)
    go_wp2
    go_ret
    refine ⟨_, _, rfl, HE.out.drewN _, y, rfl, ?_, rfl⟩
    rw [HFn.out]
    exact HR.out
  | none =>
    have hl : ∀ n, (Instr.lookup 83 (.map (some y.tM)) (.agg #[.string k.1, .string k.2]) false).run Tryz.prog ((w.alloc (.cells #[.string k.1, .string k.2] 91)).drewN n) = .ok (.pointer none) ((w.alloc (.cells #[.string k.1, .string k.2] 91)).drewN n) := fun n => by
      have := hl0 n
      rw [ha] at this
      exact this
    have hmm := @run_makeMap Tryz.prog
    obtain ⟨x, hx1, hx2, hx3⟩ := MapAt.update klK Tryz.underlying83 (hF.holds .tM) h.tM (k := k) trivial ⟨[], 1⟩ (fun p => ptr (ins y.tb k (w.heap.size + 1 + 1) p.1)) (fun p _ hne => by rw [ins_other _ _ hne])
    have HH := Lib.hid (And.intro hF (And.intro h (And.intro hev (And.intro ha (And.intro hx1 (And.intro hx2 hx3))))))
    clear hF h hev hrep hl0 ha hx1 hx2 hx3
    unfold encK ptr at *
    go_enter Tryz.func41, Tryz.ntmps41
    go_wp2
    go_quiet (fail)
    go_wp2
    refine World.abs (fun u => FEv B g w (upd (upd g .tmp ((g .tmp).put w.heap.size (.cells #[.string k.1, .string k.2] 91))) (.tab k) (((g (.tab k)).put (w.heap.size + 1) (.map #[] 0)).put (w.heap.size + 1 + 1) (.cells #[.map (some (w.heap.size + 1)), .int .i64 1] 94))) u) ?_ ?_
    · have h1 := ((HH.out.2.2.1.drewN nq).alloc (.tab k) (.map #[] 0)).alloc (.tab k) (.cells #[.map (some (w.heap.size + 1)), .int .i64 1] 94)
      simpa only [World.size_alloc, World.heap_drewN, upd_same, upd_other _ _ (show Comp.tab k ≠ .tmp by simp), upd_upd] using h1
    intro u hu
    obtain ⟨hF, h, _, ha, hx1, hx2, hx3⟩ := HH.out
    have hc1 : u.cell? ⟨y.p, 1, none⟩ = some (.map (some y.tM)) := (hu.fam.holds .st).cell (by rw [upd_other _ _ (by simp), upd_other _ _ (by simp)]; exact h.st) rfl
    have hc2 : u.cell? ⟨w.heap.size, 0, none⟩ = some (.string k.1) := (hu.fam.holds .tmp).cell (by rw [upd_other _ _ (by simp), upd_same]; exact Gh.put_same _ _ _) rfl
    have hc3 : u.cell? ⟨w.heap.size, 1, none⟩ = some (.string k.2) := (hu.fam.holds .tmp).cell (by rw [upd_other _ _ (by simp), upd_same]; exact Gh.put_same _ _ _) rfl
    have hut : Holds (g .tM) u.drew := by have := hu.fam.holds .tM; rw [upd_other _ _ (by simp), upd_other _ _ (by simp)] at this; exact this
    have hup : (Instr.mapUpdate 83 (.map (some y.tM)) (.agg #[.string k.1, .string k.2]) (.pointer (some ⟨w.heap.size + 1 + 1, 0, none⟩))).run Tryz.prog u.drew = .ok () (setBlock u.drew y.tM x) := by
      have := hx1 u.drew hut
      rw [ins_same] at this
      exact this
    have HU := Lib.hid hu
    have HT := Lib.hid hut
    clear hF h ha hx1 hx2 hx3 hu hut
    go_region
    all_goals
      go_wp2
      go_ret
      obtain ⟨hF, h, _, ha, hx1, hx2, hx3⟩ := HH.out
      have hfe := HU.out.drew.then (c := .tM) (by rw [upd_other _ _ (by simp), upd_other _ _ (by simp)]; exact hx2 _ HT.out)
      refine ⟨_, _, rfl, hfe, { y with tb := ins y.tb k (w.heap.size + 1 + 1), rM := ins y.rM k (w.heap.size + 1) }, by simp, ?_, rfl⟩
      rw [show M.find k = { M with tabs := aput M.tabs k ⟨[], 1⟩ } by simp [St.find, ha]]
      refine h.addTab _ _ _ rfl (fun c h1 h2 h3 h4 => by rw [upd_other _ _ h3, upd_other _ _ h4, upd_other _ _ h1]) (by rw [upd_other _ _ (by simp), upd_other _ _ (by simp), upd_other _ _ (by simp)]; exact Sub.refl _) ?_ ?_
      · rw [upd_same]; exact hx3
      · rw [upd_other _ _ (by simp), upd_same]
        refine ⟨Gh.put_same _ _ _, #[], 0, ?_, ?_⟩
        · rw [Gh.put_other _ _ (by omega)]; exact Gh.put_same _ _ _
        · exact MapOf.empty _
end Go.Ju

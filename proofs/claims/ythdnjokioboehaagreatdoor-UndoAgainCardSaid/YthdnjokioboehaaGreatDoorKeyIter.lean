/- 'maps.Keys(m)' at the maps of rows (keys: ints) and of tables (keys: structs), and 'slices.Collect' over it. (Printed by keyiter_gen.py.) -/
import Derived.Test.YthdnjokioboehaaGreatDoorTents
import Derived.Shelf.SlIter.Collect
import Derived.RangeFuncGives
namespace Go.Ju
open Go.RowKit
open Go.Proofs
open Go.ChangeMaps
attribute [local go_sem] Oper.semAt_some

section
variable {κ : Type} {P : Program} {enc : κ → Value} {ok : κ → Prop} {F : Fence} {n : Nat}
theorem wpListIn_next_walks {w : World} {ops : Array Oper} {rest : List Oper} {o : Oper} {a : Act} {Q : Exit → Act → World → Prop} (hg : o.guard = none) (it : Operand) (hop : o.op = Op.next it false)
    (G : Gh) (r b : Nat) (left : List (κ × Value)) (hit : a.eval it = .pointer (some ⟨r, 0, none⟩)) (hG : Holds G w) (h : Walks enc ok G r b left)
    (hDone : left = [] → wpListIn F n P ops Q rest (a.put o.dst (.tuple #[.bool false])) w)
    (hMore : ∀ (p : κ × Value) (left' : List (κ × Value)) (x : Obj) (w' : World), left.Perm (p :: left') → ok p.1 → Ev G w (G.put r x) w' → w'.heap.size = w.heap.size → Walks enc ok (G.put r x) r b left' →
      (Instr.entry (.pointer (some ⟨r, 0, none⟩))).run P w' = .ok (.tuple #[enc p.1, p.2]) w' → wpListIn F n P ops Q rest (a.put o.dst (.tuple #[.bool true, enc p.1, p.2])) w') :
    wpListIn F n P ops Q (o :: rest) a w := by
  refine wpListIn_plain hg fun K' hK' => ?_
  obtain ⟨es, clk, seen, L, h1, h2, h3, h4, h5, h6⟩ := h
  unfold Oper.wpIn
  refine ⟨by simp [Oper.about, hop], ?_⟩
  rw [Oper.semAt_plain F _ _ (by rw [hop]; intro c hc'; cases hc')]
  rcases run_next_at (P := P) o.type (hG b _ h1) (hG r _ h3) h2.born.1 with ⟨h0, hrun⟩ | ⟨e, he, n, hrun⟩
  · simp [execOp, hop, hit, hrun, Result.andThen]
    refine hK' _ _ (hDone ?_)
    have : (leftOf es seen).toList = [] := by
      rw [← Array.length_toList] at h0
      exact List.eq_nil_of_length_eq_zero h0
    rw [this] at h5
    have hl := h5.length_eq
    simp at hl
    exact List.eq_nil_of_length_eq_zero hl.symm
  · have hmem : (e.key, e.val) ∈ left.map (fun p => (enc p.1, p.2)) := h5.mem_iff.1 (List.mem_map_of_mem he)
    obtain ⟨p, hp, hpe⟩ := List.mem_map.1 hmem
    simp only [Prod.mk.injEq] at hpe
    obtain ⟨left1, left2, rfl⟩ := List.append_of_mem hp
    have hperm : (left1 ++ p :: left2).Perm (p :: (left1 ++ left2)) := List.perm_middle
    have hes : e ∈ es.toList := by
      unfold leftOf at he
      rw [Array.toList_filter] at he
      exact (List.mem_filter.1 he).1
    have hok : ok p.1 := h6 p hp
    simp [execOp, hop, hit, hrun, Result.andThen]
    refine hK' _ _ ?_
    rw [← hpe.1, ← hpe.2]
    have hev : Ev G w (G.put r (.mapIter (some b) clk (seen.push e.born) clk)) ((setBlock w r (.mapIter (some b) clk (seen.push e.born) clk)).drewN n) := ((Ev.refl hG).setBlock h3 _).drewN n
    refine hMore p (left1 ++ left2) _ _ hperm hok hev (by simp [setBlock]) ⟨es, clk, seen.push e.born, L, Gh.put_some G h1 h4.symm, h2, Gh.put_same _ _ _, h4, ?_, fun q hq => h6 q (hperm.mem_iff.2 (List.mem_cons_of_mem _ hq))⟩ ?_
    · have h7 := (((left_erase h2.born.2 he).map fun e => (e.key, e.val)).symm.trans h5).trans (hperm.map fun p => (enc p.1, p.2))
      simp only [List.map_cons, hpe.1, hpe.2] at h7
      exact h7.cons_inv
    · rw [hpe.1, hpe.2]
      exact run_entry_at (hev.holds b _ (Gh.put_some G h1 h4.symm)) (hev.holds r _ (Gh.put_same _ _ _)) hes h2.born.2
theorem wpListIn_range_walks {w : World} {ops : Array Oper} {rest : List Oper} {o : Oper} {a : Act} {Q : Exit → Act → World → Prop} (hg : o.guard = none) (m : Operand) (t : TypeId) (hop : o.op = Op.range t m) (k e : TypeId) (ht : P.underlying t = some (.map k e))
    (G : Gh) (b : Nat) (es : Array MapEntry) (clk : Nat) (hm : a.eval m = .map (some b)) (hG : Holds G w) (hb : G b = some (.map es clk))
    (hK : wpListIn F n P ops Q rest (a.put o.dst (.pointer (some ⟨w.heap.size, 0, none⟩))) (w.alloc (.mapIter (some b) clk #[] clk))) :
    wpListIn F n P ops Q (o :: rest) a w := by
  refine wpListIn_plain hg fun K' hK' => ?_
  unfold Oper.wpIn
  refine ⟨by simp [Oper.about, hop], ?_⟩
  rw [Oper.semAt_plain F _ _ (by rw [hop]; intro c hc'; cases hc')]
  simp [execOp, hop, hm, run_range_map w t k e b es clk ht (hG b _ hb), Result.andThen]
  exact hK' _ _ hK
theorem wpListIn_append_ev {w : World} {G : Gh} {ops : Array Oper} {rest : List Oper} {o : Oper} {a : Act} {Q : Exit → Act → World → Prop} (hgd : o.guard = none) (s x : Operand) (t : TypeId)
    (ho : o.op = .call { callee := .builtin .append, args := #[s, x], argTypes := #[t, t] }) (hG : Holds G w)
    (e : TypeId) (i : TypeInfo) (z : Value) (size bytes : Nat) (ht : P.underlying t = some (.slice e)) (hi : P.info? e = some i) (hz : i.zero = some z)
    (hsize : i.size = size) (hby : i.bytes = bytes) (hzs : z.cells.size = size) (hsz : 0 < size)
    (v : Value) (k : Nat) (xs : List Value) (hs : a.eval s = v) (hown : Own G e size v k xs)
    (X : Option Addr) (m c : Nat) (news : List Value) (hx : a.eval x = .slice X m c) (hl : news.length = m * size) (hnews : Span G X news) (hX : X = none → m = 0) (h1 : ∀ u ∈ news, u.oneCell' = true)
    (h63 : k + m ≤ maxLen) (hbytes : (k + m) * bytes ≤ 140737488355328)
    (h : ∀ v' G' w', Appended G w e size v (k + m) (xs ++ news) v' G' w' → wpListIn F n P ops Q rest (a.put o.dst v') w') : wpListIn F n P ops Q (o :: rest) a w := by
  refine wpListIn_plain hgd fun _ hK => ?_
  obtain ⟨v', G', w', hr, h2⟩ := run_append_ev (P := P) hG t o.type e i z size bytes ht hi hz hsize hby hzs hsz v k xs hown X m c news hl hnews hX h1 h63 hbytes
  unfold Oper.wpIn
  refine ⟨?_, ?_⟩
  · simp [Oper.about, ho, resolve, Target.leads, Sem.run_pure]
  · rw [Oper.semAt_plain F _ _ (by rw [ho]; intro c hc'; cases hc')]
    simp [execOp, ho, resolve, invoke, builtin, hs, hx, hr, Result.andThen]
    exact hK _ _ (h v' G' w' h2)
end

/-- Only walks' objects; none of them. -/
def WalkOnly (G : Gh) : Prop := ∀ k o, G k = some o → o.isWalk = true
def NoWalk (G : Gh) : Prop := ∀ k o, G k = some o → o.isWalk = false
theorem WalkOnly.put {G : Gh} (h : WalkOnly G) (r : Nat) {o : Obj} (ho : o.isWalk = true) : WalkOnly (G.put r o) := fun k x hk => by
  by_cases e : k = r
  · subst e; rw [Gh.put_same] at hk; cases hk; exact ho
  · rw [Gh.put_other _ _ e] at hk; exact h k x hk
theorem NoWalk.put {G : Gh} (h : NoWalk G) (r : Nat) {o : Obj} (ho : o.isWalk = false) : NoWalk (G.put r o) := fun k x hk => by
  by_cases e : k = r
  · subst e; rw [Gh.put_same] at hk; cases hk; exact ho
  · rw [Gh.put_other _ _ e] at hk; exact h k x hk
theorem Holds.walks {G : Gh} {W W' : World} (h : Holds G W) (hw : WalkOnly G) (hk : KeepsWalks W W') : Holds G W' := fun b o hb => hk.same b o (h b o hb) (hw b o hb)
theorem Walks.isIter {κ : Type} {enc : κ → Value} {ok : κ → Prop} {G : Gh} {r b : Nat} {left : List (κ × Value)} {x : Obj} (h : Walks enc ok (G.put r x) r b left) : x.isWalk = true := by
  obtain ⟨es, clk, seen, L, h1, h2, h3, h4, h5, h6⟩ := h
  rw [Gh.put_same] at h3
  cases h3
  rfl
theorem Ev.keepsWalks {G G' : Gh} {W W' : World} (h : Ev G W G' W') (hG : Holds G W) (hn : NoWalk G) : KeepsWalks W W' :=
  ⟨h.size, fun k o hk ho => by
    rw [h.keep k (Array.getElem?_eq_some_iff.1 hk).1 ?_]
    · exact hk
    · cases hg : G k with
      | none => rfl
      | some x =>
        have := hG k x hg
        rw [hk] at this
        cases this
        rw [hn k _ hg] at ho
        cases ho⟩

/-! ### I -/
set_option maxRecDepth 100000 in
set_option maxHeartbeats 1000000 in
/-- The iterator: the keys come, each once, in some order. -/
theorem keysI1_in (n l Bm b : Nat) (es : Array MapEntry) (clk : Nat) (L : List (Int × Value)) (J : List Int → World → Prop)
    (hY : ∀ pre x W, J pre W → pre.length < L.length → YieldAt Fence.wide (n - 1) Tryz.prog l #[encI x] W fun e W' => e = .returned (.bool true) ∧ J (pre ++ [x]) W' ∧ KeepsWalks W W')
    (W : World) (hJ : AbidesFrom W.heap.size J) (hm : W.cell? ⟨Bm, 0, none⟩ = some (.map (some b))) (hb : W.heap[b]? = some (.map es clk)) (h : MapOf encI okI es clk L) (h0 : J [] W) (hn : 1 ≤ n) :
    CallsIn Fence.wide n Tryz.prog 113 #[.func (.yield l) #[] #[], .pointer (some ⟨Bm, 0, none⟩)] W fun e W' => (∃ v, e = .returned v) ∧ ∃ ss : List Int, ss.Perm (L.map Prod.fst) ∧ J ss W' := by
  have hG0 : Holds (Gh.nil.put b (.map es clk)) W := fun k o hk => by
    by_cases e : k = b
    · subst e; rw [Gh.put_same] at hk; cases hk; exact hb
    · rw [Gh.put_other _ _ e] at hk; cases hk
  have hst := Walks.start hG0 (Gh.put_same _ _ _) h
  have hG1 := hG0.alloc (.mapIter (some b) clk #[] clk)
  have hW1 : WalkOnly ((Gh.nil.put b (.map es clk)).put W.heap.size (.mapIter (some b) clk #[] clk)) := WalkOnly.put (WalkOnly.put (fun _ _ h => by cases h) _ rfl) _ rfl
  have hJ1 : J [] (W.alloc (.mapIter (some b) clk #[] clk)) := hJ _ _ _ none h0 (World.grownBy_alloc W _ none) (fun r e => by cases e)
  have HH := Lib.hid (And.intro hst (And.intro hG1 (And.intro hW1 hJ1)))
  have HJ := Lib.hid hJ
  have HY := Lib.hid hY
  have hGb : (Gh.nil.put b (.map es clk)) b = some (.map es clk) := Gh.put_same _ _ _
  generalize hGG : Gh.nil.put b (.map es clk) = G0 at *
  clear hst hG1 hW1 hJ1 hJ hY hb hGG h0
  refine callsIn_of_wp Tryz.func113 rfl trivial ?_ rfl
  simp only [Tryz.ntmps113, List.size_toArray, List.length_cons, List.length_nil, Nat.reduceAdd, Nat.reduceSub, Array.replicate_succ, Array.replicate_zero, List.push_toArray, List.append_toArray, List.nil_append, List.cons_append]
  gi_wp2_with (first | (gi_at_range; refine wpListIn_range_walks rfl _ 92 rfl 3 95 Tryz.underlying92 G0 b es clk rfl hG0 hGb ?_) | gi_in)
  go_frame
  obtain ⟨rr, hrr⟩ : ∃ rr, W.heap.size = rr := ⟨_, rfl⟩
  rw [hrr]
  gi_loopw [3] (fun _ wr => ∃ (ss : List Int) (left : List (Int × Value)) (G : Gh), J ss wr ∧ Walks encI okI G rr b left ∧ Holds G wr ∧ WalkOnly G ∧ (ss ++ left.map Prod.fst).Perm (L.map Prod.fst)) (fun _ wr => walkLeft wr rr b)
  case atStart =>
    rw [← hrr]
    exact ⟨[], L, _, HH.out.2.2.2, HH.out.1, HH.out.2.1, HH.out.2.2.1, List.Perm.refl _⟩
  case round =>
    obtain ⟨ss, left, G, hJs, hwk, hGr, hWO, hpm⟩ := hrel
    have HL := Lib.hid (hwk.left_eq hGr)
    have HP := Lib.hid (And.intro hJs (And.intro hWO hpm))
    clear hJs hWO hpm
    gi_wp2_with (first | (gi_at_next; refine wpListIn_next_walks rfl _ rfl G rr b _ rfl hGr hwk ?_ ?_) | gi_in)
    · intro hl0
      subst hl0
      gi_wp2
      go_end0
      exact ⟨⟨_, rfl⟩, ss, by have := HP.out.2.2; simpa using this, HP.out.1⟩
    · intro id pv left' x w2 hperm hok hev hsz hwk' hent
      have hJ2 : J ss w2 := HJ.out ss wr w2 (some rr) HP.out.1 (hev.grown hGr) (fun r' e => by
        cases e
        obtain ⟨o1, o2, ho1, ho2⟩ := hwk.both
        exact ⟨by omega, o2, hGr _ _ ho2, HP.out.2.1 _ _ ho2⟩)
      have hlen : ss.length < L.length := by
        have h1 := HP.out.2.2.length_eq
        have h2 := hperm.length_eq
        simp only [List.length_append, List.length_map, List.length_cons] at h1 h2
        omega
      have hJ3 := hJ2
      obtain ⟨fn, tmps, assign, body, hy, hR⟩ := HY.out ss id _ hJ3 hlen
      have HR := Lib.hid hR
      have HQ := Lib.hid (And.intro hperm (And.intro hev hwk'))
      clear hJ2 hJ3 hR hperm hev hwk' hwk hGr hsz hlen
      unfold encI at hy hent
      gi_wp2
      refine HR.out.mono ?_
      rintro e W3 ⟨rfl, hJ3, hk3⟩
      obtain ⟨hperm, hev, hwk'⟩ := HQ.out
      have hG3 : Holds (G.put rr x) W3 := hev.holds.walks (HP.out.2.1.put rr hwk'.isIter) hk3
      have HZ := Lib.hid (And.intro hJ3 (And.intro hG3 (And.intro hperm hwk')))
      clear hJ3 hG3 hperm hwk' hev hk3
      gi_wp2
      go_roundw
      case rel =>
        obtain ⟨hJ3, hG3, hperm, hwk'⟩ := HZ.out
        exact ⟨ss ++ [id], left', _, hJ3, hwk', hG3, HP.out.2.1.put rr hwk'.isIter, by
          rw [List.append_assoc]
          exact ((hperm.map Prod.fst).symm.append_left ss).trans HP.out.2.2⟩
      case measure =>
        obtain ⟨hJ3, hG3, hperm, hwk'⟩ := HZ.out
        rw [hwk'.left_eq hG3, HL.out, hperm.length_eq]
        simp

/-- 'maps.Keys(m)': the map is boxed. -/
theorem keysI_any (mb : Option Nat) (w : World) : Calls Tryz.prog 86 #[.map mb] w fun e w' => e = .returned (.func (.func 113) #[] #[.pointer (some ⟨w.heap.size, 0, none⟩)]) ∧ w.alloc (.cells #[.map mb] 92) = w' := by
  go_enter Tryz.func86, Tryz.ntmps86
  go_wp2
  go_ret
  exact ⟨rfl, rfl⟩

/-! ### K -/
set_option maxRecDepth 100000 in
set_option maxHeartbeats 1000000 in
/-- The iterator: the keys come, each once, in some order. -/
theorem keysK1_in (n l Bm b : Nat) (es : Array MapEntry) (clk : Nat) (L : List (Key × Value)) (J : List Key → World → Prop)
    (hY : ∀ pre x W, J pre W → pre.length < L.length → YieldAt Fence.wide (n - 1) Tryz.prog l #[encK x] W fun e W' => e = .returned (.bool true) ∧ J (pre ++ [x]) W' ∧ KeepsWalks W W')
    (W : World) (hJ : AbidesFrom W.heap.size J) (hm : W.cell? ⟨Bm, 0, none⟩ = some (.map (some b))) (hb : W.heap[b]? = some (.map es clk)) (h : MapOf encK (fun _ => True) es clk L) (h0 : J [] W) (hn : 1 ≤ n) :
    CallsIn Fence.wide n Tryz.prog 82 #[.func (.yield l) #[] #[], .pointer (some ⟨Bm, 0, none⟩)] W fun e W' => (∃ v, e = .returned v) ∧ ∃ ss : List Key, ss.Perm (L.map Prod.fst) ∧ J ss W' := by
  have hG0 : Holds (Gh.nil.put b (.map es clk)) W := fun k o hk => by
    by_cases e : k = b
    · subst e; rw [Gh.put_same] at hk; cases hk; exact hb
    · rw [Gh.put_other _ _ e] at hk; cases hk
  have hst := Walks.start hG0 (Gh.put_same _ _ _) h
  have hG1 := hG0.alloc (.mapIter (some b) clk #[] clk)
  have hW1 : WalkOnly ((Gh.nil.put b (.map es clk)).put W.heap.size (.mapIter (some b) clk #[] clk)) := WalkOnly.put (WalkOnly.put (fun _ _ h => by cases h) _ rfl) _ rfl
  have hJ1 : J [] (W.alloc (.mapIter (some b) clk #[] clk)) := hJ _ _ _ none h0 (World.grownBy_alloc W _ none) (fun r e => by cases e)
  have HH := Lib.hid (And.intro hst (And.intro hG1 (And.intro hW1 hJ1)))
  have HJ := Lib.hid hJ
  have HY := Lib.hid hY
  have hGb : (Gh.nil.put b (.map es clk)) b = some (.map es clk) := Gh.put_same _ _ _
  generalize hGG : Gh.nil.put b (.map es clk) = G0 at *
  clear hst hG1 hW1 hJ1 hJ hY hb hGG h0
  refine callsIn_of_wp Tryz.func82 rfl trivial ?_ rfl
  simp only [Tryz.ntmps82, List.size_toArray, List.length_cons, List.length_nil, Nat.reduceAdd, Nat.reduceSub, Array.replicate_succ, Array.replicate_zero, List.push_toArray, List.append_toArray, List.nil_append, List.cons_append]
  gi_wp2_with (first | (gi_at_range; refine wpListIn_range_walks rfl _ 83 rfl 91 88 Tryz.underlying83 G0 b es clk rfl hG0 hGb ?_) | gi_in)
  go_frame
  obtain ⟨rr, hrr⟩ : ∃ rr, W.heap.size = rr := ⟨_, rfl⟩
  rw [hrr]
  gi_loopw [3] (fun _ wr => ∃ (ss : List Key) (left : List (Key × Value)) (G : Gh), J ss wr ∧ Walks encK (fun _ => True) G rr b left ∧ Holds G wr ∧ WalkOnly G ∧ (ss ++ left.map Prod.fst).Perm (L.map Prod.fst)) (fun _ wr => walkLeft wr rr b)
  case atStart =>
    rw [← hrr]
    exact ⟨[], L, _, HH.out.2.2.2, HH.out.1, HH.out.2.1, HH.out.2.2.1, List.Perm.refl _⟩
  case round =>
    obtain ⟨ss, left, G, hJs, hwk, hGr, hWO, hpm⟩ := hrel
    have HL := Lib.hid (hwk.left_eq hGr)
    have HP := Lib.hid (And.intro hJs (And.intro hWO hpm))
    clear hJs hWO hpm
    gi_wp2_with (first | (gi_at_next; refine wpListIn_next_walks rfl _ rfl G rr b _ rfl hGr hwk ?_ ?_) | gi_in)
    · intro hl0
      subst hl0
      gi_wp2
      go_end0
      exact ⟨⟨_, rfl⟩, ss, by have := HP.out.2.2; simpa using this, HP.out.1⟩
    · intro ka kb pv left' x w2 hperm hev hsz hwk' hent
      have hJ2 : J ss w2 := HJ.out ss wr w2 (some rr) HP.out.1 (hev.grown hGr) (fun r' e => by
        cases e
        obtain ⟨o1, o2, ho1, ho2⟩ := hwk.both
        exact ⟨by omega, o2, hGr _ _ ho2, HP.out.2.1 _ _ ho2⟩)
      have hlen : ss.length < L.length := by
        have h1 := HP.out.2.2.length_eq
        have h2 := hperm.length_eq
        simp only [List.length_append, List.length_map, List.length_cons] at h1 h2
        omega
      have hJ3 : J ss (w2.alloc (keyObj (ka, kb))) := HJ.out ss w2 _ none hJ2 (World.grownBy_alloc w2 _ none) (fun r e => by cases e)
      obtain ⟨fn, tmps, assign, body, hy, hR⟩ := HY.out ss (ka, kb) _ hJ3 hlen
      have HR := Lib.hid hR
      have HQ := Lib.hid (And.intro hperm (And.intro hev hwk'))
      clear hJ2 hJ3 hR hperm hev hwk' hwk hGr hsz hlen
      unfold encK keyObj at hy
      unfold encK at hent
      gi_wp2
      refine HR.out.mono ?_
      rintro e W3 ⟨rfl, hJ3, hk3⟩
      obtain ⟨hperm, hev, hwk'⟩ := HQ.out
      have hG3 : Holds (G.put rr x) W3 := (hev.holds.more (keyObj (ka, kb))).walks (HP.out.2.1.put rr hwk'.isIter) hk3
      have HZ := Lib.hid (And.intro hJ3 (And.intro hG3 (And.intro hperm hwk')))
      clear hJ3 hG3 hperm hwk' hev hk3
      gi_wp2
      go_roundw
      case rel =>
        obtain ⟨hJ3, hG3, hperm, hwk'⟩ := HZ.out
        exact ⟨ss ++ [(ka, kb)], left', _, hJ3, hwk', hG3, HP.out.2.1.put rr hwk'.isIter, by
          rw [List.append_assoc]
          exact ((hperm.map Prod.fst).symm.append_left ss).trans HP.out.2.2⟩
      case measure =>
        obtain ⟨hJ3, hG3, hperm, hwk'⟩ := HZ.out
        rw [hwk'.left_eq hG3, HL.out, hperm.length_eq]
        simp

/-- 'maps.Keys(m)': the map is boxed. -/
theorem keysK_any (mb : Option Nat) (w : World) : Calls Tryz.prog 44 #[.map mb] w fun e w' => e = .returned (.func (.func 82) #[] #[.pointer (some ⟨w.heap.size, 0, none⟩)]) ∧ w.alloc (.cells #[.map mb] 83) = w' := by
  go_enter Tryz.func44, Tryz.ntmps44
  go_wp2
  go_ret
  exact ⟨rfl, rfl⟩
end Go.Ju

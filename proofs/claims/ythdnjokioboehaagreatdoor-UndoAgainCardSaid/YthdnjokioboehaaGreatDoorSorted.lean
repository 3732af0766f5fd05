/- 'slices.Sorted' at ints, 'slices.SortedFunc' at tables' keys, over what a map's keys give. -/
import Derived.Test.YthdnjokioboehaaGreatDoorOrder
import Derived.Shelf.SlSortCmp.NoneTotal
namespace Go.Ju
open Go.RowKit
open Go.Proofs
open Go.ChangeMaps

/-! ### the order of keys is total -/
theorem cmpS_neg {a b : ByteArray} : cmpS a b < 0 ↔ Op.bytesLess a.toList b.toList = true := by
  unfold cmpS
  split
  · simp [*]
  · split <;> simp [*]
theorem toList_inj {a b : ByteArray} (h : a.toList = b.toList) : a = b := by
  rw [ByteArray.toList_eq, ByteArray.toList_eq] at h
  cases a; cases b
  congr
  exact Array.toList_inj.1 h
theorem cmpS_zero {a b : ByteArray} : cmpS a b = 0 ↔ a = b := by
  unfold cmpS
  constructor
  · intro h
    split at h
    · cases h
    · split at h
      · rename_i h2
        exact toList_inj (by simpa using h2)
      · cases h
  · rintro rfl
    rw [bytesLess_eq]
    simp [List.lt_irrefl]
def ltK (a b : Key) : Bool := Go.Proofs.ltOf cmpK a b
theorem ltK_iff {a b : Key} : ltK a b = true ↔ a.1.toList < b.1.toList ∨ (a.1 = b.1 ∧ a.2.toList < b.2.toList) := by
  unfold ltK Go.Proofs.ltOf cmpK orI
  rw [decide_eq_true_eq]
  by_cases h : cmpS a.1 b.1 = 0
  · rw [if_pos h]
    have h1 := cmpS_zero.1 h
    rw [cmpS_neg, bytesLess_eq, decide_eq_true_eq]
    constructor
    · exact fun h2 => .inr ⟨h1, h2⟩
    · rintro (h2 | ⟨_, h2⟩)
      · rw [h1] at h2
        exact absurd h2 (List.lt_irrefl _)
      · exact h2
  · rw [if_neg h, cmpS_neg, bytesLess_eq, decide_eq_true_eq]
    constructor
    · exact fun h2 => .inl h2
    · rintro (h2 | ⟨h2, _⟩)
      · exact h2
      · exact absurd (cmpS_zero.2 h2) h
theorem tri (x y : List UInt8) : x < y ∨ x = y ∨ y < x := by
  rcases Decidable.em (x < y) with h | h
  · exact .inl h
  · rcases Decidable.em (y < x) with h2 | h2
    · exact .inr (.inr h2)
    · exact .inr (.inl (List.le_antisymm (List.not_lt.1 h2) (List.not_lt.1 h)))
theorem ltK_tri (a b : Key) : ltK a b = true ∨ a = b ∨ ltK b a = true := by
  rcases tri a.1.toList b.1.toList with h | h | h
  · exact .inl (ltK_iff.2 (.inl h))
  · have h1 := toList_inj h
    rcases tri a.2.toList b.2.toList with h2 | h2 | h2
    · exact .inl (ltK_iff.2 (.inr ⟨h1, h2⟩))
    · exact .inr (.inl (Prod.ext h1 (toList_inj h2)))
    · exact .inr (.inr (ltK_iff.2 (.inr ⟨h1.symm, h2⟩)))
  · exact .inr (.inr (ltK_iff.2 (.inl h)))
theorem ltK_irrefl (a : Key) : ltK a a = false := by
  cases h : ltK a a with
  | false => rfl
  | true =>
    rcases ltK_iff.1 h with h | ⟨_, h⟩ <;> exact absurd h (List.lt_irrefl _)
theorem ltK_trans {a b c : Key} (h : ltK a b = true) (k : ltK b c = true) : ltK a c = true := by
  rw [ltK_iff] at *
  rcases h with h | ⟨h1, h⟩ <;> rcases k with k | ⟨k1, k⟩
  · exact .inl (List.lt_trans h k)
  · rw [← k1]; exact .inl h
  · rw [h1]; exact .inl k
  · exact .inr ⟨h1.trans k1, List.lt_trans h k⟩
theorem ltK_asymm {a b : Key} (h : ltK a b = true) : ltK b a = false := by
  cases k : ltK b a with
  | false => rfl
  | true => have := ltK_trans h k; rw [ltK_irrefl] at this; cases this
theorem swoK : Go.Sort.SWO (Go.Proofs.ltOf cmpK) where
  irrefl x := ltK_irrefl x
  trans x y z h1 h2 := ltK_trans h1 h2
  ntrans x y z h1 h2 := by
    change ltK x y = false at h1
    change ltK y z = false at h2
    change ltK x z = false
    rcases ltK_tri x y with h | h | h
    · rw [h1] at h; cases h
    · rw [h]; exact h2
    · rcases ltK_tri y z with k | k | k
      · rw [h2] at k; cases k
      · rw [← k]; exact h1
      · exact ltK_asymm (ltK_trans k h)
theorem totK (x y : Key) (h1 : Go.Proofs.ltOf cmpK x y = false) (h2 : Go.Proofs.ltOf cmpK y x = false) : x = y := by
  rcases ltK_tri x y with h | h | h
  · exact absurd h (by change ltK x y = false at h1; simp [h1])
  · exact h
  · exact absurd h (by change ltK y x = false at h2; simp [h2])
def sortK (l : List Key) : List Key := l.mergeSort fun x y => !ltK y x

/-! ### ints -/
theorem flatI (ss : List Int) : ss.flatMap cellsI = ss.map encI := by
  induction ss with
  | nil => rfl
  | cons x r ih => rw [List.flatMap_cons, ih]; rfl
theorem keysI_gives (n : Nat) (hn : 1 ≤ n) (Bm b : Nat) (es : Array MapEntry) (clk : Nat) (L : List (Int × Value)) (w : World) (hBm : Bm < w.heap.size) (hm : w.cell? ⟨Bm, 0, none⟩ = some (.map (some b))) (hb : w.heap[b]? = some (.map es clk)) (h : MapOf encI okI es clk L) :
    SeqGives Fence.wide n Tryz.prog 113 #[.pointer (some ⟨Bm, 0, none⟩)] encI (fun ss => ss.Perm (L.map Prod.fst)) L.length w := fun l J W hW hJ hY h0 =>
  keysI1_in n l Bm b es clk L J hY W hJ ((hW.cell (p := ⟨Bm, 0, none⟩) hBm).trans hm) ((hW.block b (Array.getElem?_eq_some_iff.1 hb).1).trans hb) h h0 hn
theorem keysK_gives (n : Nat) (hn : 1 ≤ n) (Bm b : Nat) (es : Array MapEntry) (clk : Nat) (L : List (Key × Value)) (w : World) (hBm : Bm < w.heap.size) (hm : w.cell? ⟨Bm, 0, none⟩ = some (.map (some b))) (hb : w.heap[b]? = some (.map es clk)) (h : MapOf encK (fun _ => True) es clk L) :
    SeqGives Fence.wide n Tryz.prog 82 #[.pointer (some ⟨Bm, 0, none⟩)] encK (fun ss => ss.Perm (L.map Prod.fst)) L.length w := fun l J W hW hJ hY h0 =>
  keysK1_in n l Bm b es clk L J hY W hJ ((hW.cell (p := ⟨Bm, 0, none⟩) hBm).trans hm) ((hW.block b (Array.getElem?_eq_some_iff.1 hb).1).trans hb) h h0 hn

theorem sortI_any (blk cap : Nat) (ss : List Int) (W : World) (hH : Go.Sort.Holds (Value.int .i64) W blk 0 ss.toArray) (hblk : blk < W.heap.size) (hsz : ss.length < 4611686018427387904) :
    Calls Tryz.prog 112 #[.slice (some ⟨blk, 0, none⟩) ss.length cap] W fun e w' => e = .returned (.tuple #[]) ∧ ∃ n os, w' = Go.Sort.grow (Go.Sort.putRow (Value.int .i64) (Go.Sort.ahead W n) blk 0 (ss.mergeSort fun x y => decide (x ≤ y)).toArray) os :=
  AnyM.slices_Sort_int Go.Proofs.Tryz.laysSortI blk 0 cap ss W hH hblk hsz
theorem sortI_none (p : Option Addr) (cap : Nat) (W : World) : Calls Tryz.prog 112 #[.slice p 0 cap] W fun e w' => e = .returned (.tuple #[]) ∧ w' = W :=
  AnyM.slices_Sort_int_none Go.Proofs.Tryz.laysSortI p cap W

set_option maxRecDepth 100000 in
theorem sortedI_any (g : Nat) (lb : Array Value) (eg : ∀ args w, (callFunc g args).run Tryz.prog w = .ok (.enter g args) w) (S : List Int → Prop) (N : Nat) (hN : N ≤ 1000000) (w : World) (hseq : SeqGives Fence.wide (4 - 1 - 1 - 1) Tryz.prog g lb encI S N w) :
    Calls Tryz.prog 85 #[.func (.func g) #[] lb] w fun e w' => ∃ (v : Value) (ss : List Int) (G : Gh), e = .returned v ∧ S ss ∧ Own G 3 1 v ss.length ((ss.mergeSort fun x y => decide (x ≤ y)).map encI) ∧ Holds G w' ∧ From w.heap.size G ∧ Below w.heap.size w w' ∧ ss.length ≤ N := by
  have hC := callsIn_wide.1 (collectI_in (4 - 1) (by decide) g lb eg _ N (by unfold maxLen; omega) (by omega) w hseq.bounded)
  have HC := Lib.hid hC
  have HS := Lib.hid sortI_any
  have HS0 := Lib.hid sortI_none
  clear hC hseq eg
  go_enter Tryz.func85, Tryz.ntmps85
  go_wp2_with fail
  refine HC.out.mono ?_
  rintro e W ⟨v, ss, rfl, ⟨hS, hlen⟩, hrow, hnil, hb⟩
  rcases hrow.2 with ⟨rfl, hz⟩ | ⟨gb, cap, cur, rfl, hbase, hgb, r1, r2, r3, r4⟩
  · have hss : ss = [] := List.eq_nil_of_length_eq_zero hz
    subst hss
    have HZ := Lib.hid (And.intro hS (And.intro hb hlen))
    clear hrow hnil hS hb hlen
    go_wp2_with fail
    refine (HS0.out none 0 W).mono ?_
    rintro e w' ⟨rfl, rfl⟩
    go_wp2
    go_ret
    exact ⟨.slice none 0 0, [], Gh.nil, rfl, HZ.out.1, by simpa using Own.nil Gh.nil 3 1, Holds.nil _, fun _ h => absurd rfl h, HZ.out.2.1, by simp⟩
  · have hH : Go.Sort.Holds (Value.int .i64) W gb 0 ss.toArray := holds_of_block_i hgb (by rw [flatI, Nat.mul_one] at r4; exact r4)
    have hgl : gb < W.heap.size := (Array.getElem?_eq_some_iff.1 hgb).1
    have cS := HS.out gb cap ss W hH hgl (by omega)
    have HZ := Lib.hid (And.intro hS (And.intro hb (And.intro hlen (And.intro hgb (And.intro r1 (And.intro r2 (And.intro r3 hbase)))))))
    clear hrow hnil hS hb hH hgl r1 r2 r3 r4 hlen hgb
    go_wp2_with fail
    refine cS.mono ?_
    rintro e w' ⟨rfl, nn, os, rfl⟩
    go_wp2
    go_ret
    obtain ⟨hS, hb, hlen, hgb, r1, r2, r3, hbase⟩ := HZ.out
    have hown := ownsRow_sorted_i (n := nn) (os := os) (ts := ss.mergeSort fun x y => decide (x ≤ y)) (by simp) hbase hgb r1 r2 r3
    obtain ⟨G, hG1, hG2, hG3⟩ := Own.of_world hown
    exact ⟨_, ss, G, rfl, hS, hG1, hG2, hG3, hb.grown (grownBy_sorted_i _) hb.size (fun j hj => by cases hj; exact hbase), hlen⟩

/-! ### keys -/
instance : Inhabited Key := ⟨(⟨#[]⟩, ⟨#[]⟩)⟩
theorem cellsK_len (k : Key) : (cellsK k).length = 2 := rfl
theorem flatK_list (d : Array Key) : (Go.Sort.flatK cellsK 2 d).toList = d.toList.flatMap cellsK := by
  apply List.ext_getElem?
  intro t
  by_cases ht : t < d.size * 2
  · have h1 : (Go.Sort.flatK cellsK 2 d).toList[t]? = some ((cellsK d[t / 2]!)[t % 2]!) := by
      rw [Array.getElem?_toList, Array.getElem?_eq_getElem (by simpa using ht)]
      have := Go.Sort.get_flatK cellsK 2 d t ht
      rw [getElem!_pos _ t (by simpa using ht)] at this
      rw [this]
    have hd : t / 2 < d.size := by omega
    have h2 := flat_get cellsK 2 cellsK_len d.toList (t / 2) (t % 2) d[t / 2] (by simp [hd]) (by omega)
    rw [show t / 2 * 2 + t % 2 = t by omega] at h2
    rw [h1, h2, getElem!_pos d (t / 2) hd, List.getElem!_eq_getElem?_getD]
    have h3 : t % 2 < (cellsK d[t / 2]).length := by rw [cellsK_len]; omega
    rw [List.getElem?_eq_getElem h3]
    rfl
  · rw [List.getElem?_eq_none (by simp; omega), List.getElem?_eq_none (by rw [flat_len cellsK 2 cellsK_len]; simp; omega)]
theorem holdsK_of_block {w : World} {g : Nat} {cur : Array Value} {e : TypeId} {ss : List Key} (hb : w.heap[g]? = some (.cells cur e (0, 0))) (ht : cur.toList.take (ss.length * 2) = ss.flatMap cellsK) : Go.Sort.HoldsK cellsK 2 w g 0 ss.toArray := by
  intro j hj
  have hj' : j < ss.length * 2 := by simpa using hj
  refine ⟨?_, by simp [World.frozen?, hb]⟩
  have h1 : (Go.Sort.flatK cellsK 2 ss.toArray).toList[j]? = (cur.toList.take (ss.length * 2))[j]? := by rw [flatK_list, ht]
  rw [List.getElem?_take_of_lt hj', Array.getElem?_toList, Array.getElem?_eq_getElem hj] at h1
  rw [getElem!_pos _ j hj]
  simp only [World.cell?, hb, Nat.zero_add]
  simp only [Option.isSome_none, Bool.false_eq_true, if_false]
  rw [← Array.getElem?_toList, ← h1]
  rfl
theorem heap_sortedK {w : World} {g n : Nat} {os : Array Obj} {cur : Array Value} {e : TypeId} {fr : Nat × Nat} (d : Array Key) (hb : w.heap[g]? = some (.cells cur e fr)) :
    (Go.Proofs.sortWorldK cellsK 2 w g 0 n d os).heap[g]? = some (.cells (Go.Sort.putCells id 0 (Go.Sort.flatK cellsK 2 d) cur) e fr) := by
  have hg : g < w.heap.size := (Array.getElem?_eq_some_iff.1 hb).1
  unfold Go.Proofs.sortWorldK
  rw [Go.Sort.heap_grow_old _ _ (by simpa [Go.Sort.putRowK, Go.Sort.putRow, Go.Sort.mapBlock] using hg)]
  simp [Go.Sort.putRowK, Go.Sort.putRow, Go.Sort.mapBlock, Go.Sort.ahead, Array.getElem?_modify, hb, Go.Sort.onCells]
theorem grownBy_sortedK {w : World} {g n : Nat} {os : Array Obj} (d : Array Key) : w.grownBy (Go.Proofs.sortWorldK cellsK 2 w g 0 n d os) (some g) := by
  refine ⟨rfl, rfl, rfl, by simp [Go.Proofs.sortWorldK, Go.Sort.putRowK, Go.Sort.putRow, Go.Sort.mapBlock, Go.Sort.ahead, Go.Sort.grow], fun k hk hne => ?_⟩
  unfold Go.Proofs.sortWorldK
  rw [Go.Sort.heap_grow_old _ _ (by simpa [Go.Sort.putRowK, Go.Sort.putRow, Go.Sort.mapBlock] using hk)]
  have : g ≠ k := fun e => hne (by rw [e])
  simp [Go.Sort.putRowK, Go.Sort.putRow, Go.Sort.mapBlock, Go.Sort.ahead, Array.getElem?_modify, this]
theorem take_putCellsK (cur F : Array Value) (h : F.size ≤ cur.size) : (Go.Sort.putCells id 0 F cur).toList.take F.size = F.toList := by
  apply List.ext_getElem?
  intro j
  by_cases hj : j < F.size
  · rw [List.getElem?_take_of_lt hj, Array.getElem?_toList]
    simp [Go.Sort.putCells, hj, show j < cur.size by omega]
  · rw [List.getElem?_take_eq_none (by omega), List.getElem?_eq_none (by simp; omega)]
theorem sortK_any (blk cap : Nat) (ss : List Key) (W : World) (hH : Go.Sort.HoldsK cellsK 2 W blk 0 ss.toArray) (hblk : blk < W.heap.size) (hsz : ss.length < 4611686018427387904) :
    Calls Tryz.prog 81 #[.slice (some ⟨blk, 0, none⟩) ss.length cap, .func (.func 45) #[] #[]] W fun e w' => e = .returned (.tuple #[]) ∧ ∃ n os, w' = Go.Proofs.sortWorldK cellsK 2 W blk 0 n (sortK ss).toArray os :=
  AnyQ.slices_SortFunc_total Go.Proofs.Tryz.laysSortK 2 Tryz.isAgg91 Tryz.sizeOf91 cellsK cellsK_len (fun x v hv => by simp [cellsK] at hv; rcases hv with rfl | rfl <;> rfl) cmpK swoK 45 #[] blk 0 cap ss.toArray W
    (enters_of Tryz.func45 (by kernel_rfl) rfl) (fun _ _ _ _ x y => order_any x y _) hH hblk (by simpa using hsz) totK
theorem sortK_none (p : Option Addr) (cap : Nat) (fv : Value) (W : World) : Calls Tryz.prog 81 #[.slice p 0 cap, fv] W fun e w' => e = .returned (.tuple #[]) ∧ w' = W :=
  AnyF.slices_SortFunc_none Go.Proofs.Tryz.laysSortK p cap fv W

set_option maxRecDepth 100000 in
theorem sortedK_any (g : Nat) (lb : Array Value) (eg : ∀ args w, (callFunc g args).run Tryz.prog w = .ok (.enter g args) w) (S : List Key → Prop) (N : Nat) (hN : N ≤ 1000000) (w : World) (hseq : SeqGives Fence.wide (4 - 1 - 1 - 1) Tryz.prog g lb encK S N w) :
    Calls Tryz.prog 43 #[.func (.func g) #[] lb, .func (.func 45) #[] #[]] w fun e w' => ∃ (v : Value) (ss : List Key) (G : Gh), e = .returned v ∧ S ss ∧ Own G 91 2 v ss.length ((sortK ss).flatMap cellsK) ∧ Holds G w' ∧ From w.heap.size G ∧ Below w.heap.size w w' ∧ ss.length ≤ N := by
  have hC := callsIn_wide.1 (collectK_in (4 - 1) (by decide) g lb eg _ N (by unfold maxLen; omega) (by omega) w hseq.bounded)
  have HC := Lib.hid hC
  have HS := Lib.hid sortK_any
  have HS0 := Lib.hid sortK_none
  clear hC hseq eg
  go_enter Tryz.func43, Tryz.ntmps43
  go_wp2_with fail
  refine HC.out.mono ?_
  rintro e W ⟨v, ss, rfl, ⟨hS, hlen⟩, hrow, hnil, hb⟩
  rcases hrow.2 with ⟨rfl, hz⟩ | ⟨gb, cap, cur, rfl, hbase, hgb, r1, r2, r3, r4⟩
  · have hss : ss = [] := List.eq_nil_of_length_eq_zero hz
    subst hss
    have HZ := Lib.hid (And.intro hS (And.intro hb hlen))
    clear hrow hnil hS hb hlen
    go_wp2_with fail
    refine (HS0.out none 0 _ W).mono ?_
    rintro e w' ⟨rfl, rfl⟩
    go_wp2
    go_ret
    exact ⟨.slice none 0 0, [], Gh.nil, rfl, HZ.out.1, by simpa [sortK] using Own.nil Gh.nil 91 2, Holds.nil _, fun _ h => absurd rfl h, HZ.out.2.1, by simp⟩
  · have hH := holdsK_of_block hgb r4
    have hgl : gb < W.heap.size := (Array.getElem?_eq_some_iff.1 hgb).1
    have cS := HS.out gb cap ss W hH hgl (by omega)
    have HZ := Lib.hid (And.intro hS (And.intro hb (And.intro hlen (And.intro hgb (And.intro r1 (And.intro r2 (And.intro r3 hbase)))))))
    clear hrow hnil hS hb hH hgl r1 r2 r3 r4 hlen hgb
    go_wp2_with fail
    refine cS.mono ?_
    rintro e w' ⟨rfl, nn, os, rfl⟩
    go_wp2
    go_ret
    obtain ⟨hS, hb, hlen, hgb, r1, r2, r3, hbase⟩ := HZ.out
    have hsl : (sortK ss).length = ss.length := by simp [sortK]
    have hown : (Go.Proofs.sortWorldK cellsK 2 W gb 0 nn (sortK ss).toArray os).ownsRow w.heap.size 91 2 (.slice (some ⟨gb, 0, none⟩) ss.length cap) ss.length ((sortK ss).flatMap cellsK) :=
      ⟨by rw [flat_len cellsK 2 cellsK_len, hsl], .inr ⟨gb, cap, _, rfl, hbase, heap_sortedK _ hgb, r1, r2, by simpa [Go.Sort.putCells] using r3, by
        have := take_putCellsK cur (Go.Sort.flatK cellsK 2 (sortK ss).toArray) (by simp [hsl]; omega)
        rw [flatK_list] at this
        simpa [hsl] using this⟩⟩
    obtain ⟨G, hG1, hG2, hG3⟩ := Own.of_world hown
    exact ⟨_, ss, G, rfl, hS, hG1, hG2, hG3, hb.grown (grownBy_sortedK _) hb.size (fun j hj => by cases hj; exact hbase), hlen⟩
end Go.Ju

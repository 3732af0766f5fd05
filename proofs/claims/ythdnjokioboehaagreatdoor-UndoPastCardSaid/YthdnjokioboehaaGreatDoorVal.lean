/- Values and rows: what is valid. -/
import Derived.Test.YthdnjokioboehaaGreatDoorWord
import Derived.Laws.RangeString
import Derived.Laws.StructEq
namespace Go.Ju
open Go.RowKit
open Go.Proofs

def graphB (c : UInt8) : Bool := decide (32 ≤ c.toNat) && decide (c.toNat ≤ 126)
def dirty (l : List UInt8) : Bool := l.any fun x => !graphB x
theorem dirty_snoc {l : List UInt8} {k : Nat} {u : UInt8} (hu : l[k]? = some u) (h : dirty (l.take k) = false) : dirty (l.take (k + 1)) = !graphB u := by
  unfold dirty at *
  rw [List.take_add_one, hu]
  simp [h]
theorem dirty_of {l : List UInt8} {k : Nat} {u : UInt8} (hu : l[k]? = some u) (h : graphB u = false) : dirty l = true := by
  unfold dirty
  rw [List.any_eq_true]
  exact ⟨u, List.mem_of_getElem? hu, by rw [h]; rfl⟩
def runeB (c : Int) : Bool := decide (c < 32) || decide (126 < c)

theorem rune_any (c : Int) (w : World) : Calls Tryz.prog 163 #[.int .i32 c] w fun e w' => e = .returned (.bool (runeB c)) ∧ w = w' := by
  by_cases h1 : c < 32 <;> by_cases h2 : 126 < c
  all_goals
    go_enter Tryz.func163, Tryz.ntmps163
    go_wp2
    go_ret
    exact ⟨ret_bool (by simp [runeB, h1, h2]), rfl⟩

theorem decode_high (s : ByteArray) (pos : Nat) (h : pos < s.size) (ha : ¬ (s[pos]'h).toNat < 128) : 126 < (Utf8.decode s pos).1 := by
  have e : s.get! (pos + 0) = s[pos]'h := by
    show s.get! pos = _
    simp [ByteArray.get!, getElem!_pos, h]
    rfl
  simp only [Utf8.decode, e, ha, if_false]
  split
  · split
    · show 126 < _; omega
    · show 126 < Utf8.runeError; decide
  · split
    · split
      · rename_i hc
        simp only [Bool.and_eq_true, decide_eq_true_eq] at hc
        show 126 < _; omega
      · show 126 < Utf8.runeError; decide
    · split
      · split
        · rename_i hc
          simp only [Bool.and_eq_true, decide_eq_true_eq] at hc
          show 126 < _; omega
        · show 126 < Utf8.runeError; decide
      · show 126 < Utf8.runeError; decide

theorem run_next_high (P : Program) (w : World) (s : ByteArray) (pos : Nat) (ty : TypeId) (h : pos < s.size) :
    (Instr.next (.pointer (some ⟨w.heap.size, 0, none⟩)) true ty).run P (w.iter s pos) =
      .ok (.tuple #[.bool true, .int .i64 pos, .int .i32 (Utf8.decode s pos).1]) (w.iter s (pos + (Utf8.decode s pos).2)) := by
  simp only [Instr.next, getObj, setObj, Sem.run_bind, Sem.run, World.iter_heap, Result.andThen, h, if_true, World.iter_set]
  simp [goInt]

set_option maxRecDepth 100000 in
theorem strIndexFunc_any (s : ByteArray) (w : World) :
    Calls Tryz.prog 173 #[.string s, .func (.func 163) #[] #[], .bool true] w fun e w' =>
      (∃ i : Int, e = .returned (.int .i64 i) ∧ ((0 ≤ i) ↔ dirty s.data.toList = true)) ∧ Below w.heap.size w w' := by
  have HB : ∀ pos, Below w.heap.size w (w.iter s pos) := fun pos => (Below.refl _ _).alloc (Nat.le_refl _) _
  go_enter Tryz.func173, Tryz.ntmps173
  go_wp2
  go_loopw [7, 8] (fun _ _ wr => ∃ k : Nat, k ≤ s.size ∧ wr = w.iter s k ∧ Hid (dirty (s.data.toList.take k) = false)) (fun _ _ wr => match wr.heap[w.heap.size]? with | some (.stringIter _ p) => s.size - p | _ => 0)
  case atStart => exact ⟨0, Nat.zero_le _, rfl, Lib.hid rfl⟩
  case round =>
    obtain ⟨k, hk, rfl, HA⟩ := hrel
    by_cases hlt : k < s.size
    · have hu : s.data.toList[k]? = some s[k] := by
        rw [List.getElem?_eq_getElem (by simpa using hlt)]
        rfl
      have HU := Lib.hid hu
      clear hu
      by_cases h128 : (s[k]'hlt).toNat < 128
      · have hnext := run_next_ascii (P := Tryz.prog) w s k 0 hlt h128
        have hr := rune_any ((s[k]'hlt).toNat : Int)
        cases hg : graphB s[k]
        · have hrb : runeB ((s[k]'hlt).toNat : Int) = true := by
            simp only [graphB, Bool.and_eq_false_iff, decide_eq_false_iff_not] at hg
            simp only [runeB, Bool.or_eq_true, decide_eq_true_eq]
            omega
          rw [hrb] at hr
          have HR := Lib.hid hr
          have HG := Lib.hid hg
          have HBk := HB (k + 1)
          clear hr hg hrb HB
          go_wp2_with (go_at_call 163; refine (HR.out _).mono ?_; rintro e w2 ⟨rfl, rfl⟩)
          go_ret
          refine ⟨⟨k, rfl, ?_⟩, HBk⟩
          simp [dirty_of HU.out HG.out]
        · have hrb : runeB ((s[k]'hlt).toNat : Int) = false := by
            simp only [graphB, Bool.and_eq_true, decide_eq_true_eq] at hg
            simp only [runeB, Bool.or_eq_false_iff, decide_eq_false_iff_not]
            omega
          rw [hrb] at hr
          have HR := Lib.hid hr
          have ht := dirty_snoc HU.out HA.out
          rw [hg] at ht
          have HT := Lib.hid ht
          clear hr hg hrb HB ht
          go_wp2_with (go_at_call 163; refine (HR.out _).mono ?_; rintro e w2 ⟨rfl, rfl⟩)
          go_roundw
          case rel => exact ⟨k + 1, by omega, rfl, HT⟩
          case measure => simp [World.iter_heap]; omega
      · have hnext := run_next_high Tryz.prog w s k 0 hlt
        have hd := decode_high s k hlt h128
        have hg : graphB s[k] = false := by
          simp only [graphB, Bool.and_eq_false_iff, decide_eq_false_iff_not]
          omega
        generalize Utf8.decode s k = dw at hnext hd
        have hr := rune_any (dw.1 : Int)
        have hrb : runeB (dw.1 : Int) = true := by
          simp only [runeB, Bool.or_eq_true, decide_eq_true_eq]
          omega
        rw [hrb] at hr
        have HR := Lib.hid hr
        have HG := Lib.hid hg
        have HBk := HB (k + dw.2)
        clear hr hg hrb HB hd
        go_wp2_with (go_at_call 163; refine (HR.out _).mono ?_; rintro e w2 ⟨rfl, rfl⟩)
        go_ret
        refine ⟨⟨k, rfl, ?_⟩, HBk⟩
        simp [dirty_of HU.out HG.out]
    · have hnext := run_next_end (P := Tryz.prog) w s k 0 hlt
      have HBk := HB k
      clear HB
      go_wp2
      go_ret
      refine ⟨⟨-1, rfl, ?_⟩, HBk⟩
      have hks : k = s.data.toList.length := by simp; omega
      have := HA.out
      rw [hks, List.take_length] at this
      simp [this]
theorem strIndex_any (s : ByteArray) (w : World) :
    Calls Tryz.prog 171 #[.string s, .func (.func 163) #[] #[]] w fun e w' =>
      (∃ i : Int, e = .returned (.int .i64 i) ∧ ((0 ≤ i) ↔ dirty s.data.toList = true)) ∧ Below w.heap.size w w' := by
  have H1 := Lib.hid (strIndexFunc_any s w)
  go_enter Tryz.func171, Tryz.ntmps171
  go_wp2_with (go_at_call 173; refine H1.out.mono ?_; rintro e w1 ⟨⟨i, rfl, hi⟩, hb1⟩)
  go_ret
  exact ⟨⟨i, rfl, hi⟩, hb1⟩

theorem strContains_any (s : ByteArray) (w : World) :
    Calls Tryz.prog 162 #[.string s, .func (.func 163) #[] #[]] w fun e w' => e = .returned (.bool (dirty s.data.toList)) ∧ Below w.heap.size w w' := by
  have H1 := Lib.hid (strIndex_any s w)
  go_enter Tryz.func162, Tryz.ntmps162
  go_wp2_with (go_at_call 171; refine H1.out.mono ?_; rintro e w1 ⟨⟨i, rfl, hi⟩, hb1⟩)
  go_ret
  exact ⟨ret_bool (by by_cases h : 0 ≤ i <;> simp_all), hb1⟩

def strB (s : ByteArray) : Bool := decide (s.size ≤ 200) && !dirty s.data.toList

theorem isString_any (s : ByteArray) (w : World) : Calls Tryz.prog 139 #[.string s] w fun e w' => e = .returned (.bool (strB s)) ∧ Below w.heap.size w w' := by
  by_cases h2 : s.size ≤ 200
  · have H1 := Lib.hid (strContains_any s w)
    go_enter Tryz.func139, Tryz.ntmps139
    go_wp2_with (go_at_call 162; refine H1.out.mono ?_; rintro e w1 ⟨rfl, hb1⟩)
    go_ret
    exact ⟨ret_bool (by simp [strB, h2]), hb1⟩
  · go_enter Tryz.func139, Tryz.ntmps139
    go_wp2
    go_ret
    exact ⟨ret_bool (by simp [strB, h2]), Below.refl _ _⟩

def intB (n : Int) : Bool := decide (-1099511627776 ≤ n) && decide (n ≤ 1099511627776)

theorem isInt_any (n : Int) (w : World) : Calls Tryz.prog 138 #[.int .i64 n] w fun e w' => e = .returned (.bool (intB n)) ∧ w = w' := by
  by_cases h1 : -1099511627776 ≤ n <;> by_cases h2 : n ≤ 1099511627776
  all_goals
    go_enter Tryz.func138, Tryz.ntmps138
    go_wp2
    go_ret
    exact ⟨ret_bool (by simp [intB, h1, h2]), rfl⟩

/-! ### values -/
structure Val where
  kind : Int
  n : Int
  text : ByteArray
  deriving DecidableEq, Inhabited
def Val.cells (v : Val) : List Value := [.int .i64 v.kind, .int .i64 v.n, .string v.text]
def noText (t : ByteArray) : Bool := t.toList.isEmpty
def validV (v : Val) : Bool :=
  if v.kind = 0 then decide (v.n = 0) && noText v.text
  else if v.kind = 1 then noText v.text && intB v.n
  else if v.kind = 2 then decide (v.n = 0) && strB v.text
  else if v.kind = 3 then noText v.text && (decide (v.n = 0) || decide (v.n = 1))
  else false

/-- The variable value.Null, as the program's text lays it. -/
def Nul (w : World) : Prop := ∃ t fr, w.heap[0]? = some (.cells #[.int .i64 0, .int .i64 0, .string ⟨#[]⟩] t fr)
theorem Nul.cells {w : World} (h : Nul w) : w.cell? ⟨0, 0, none⟩ = some (.int .i64 0) ∧ w.cell? ⟨0, 1, none⟩ = some (.int .i64 0) ∧ w.cell? ⟨0, 2, none⟩ = some (.string ⟨#[]⟩) := by
  obtain ⟨t, fr, h⟩ := h
  exact ⟨by simp [World.cell?, h], by simp [World.cell?, h], by simp [World.cell?, h]⟩
theorem Nul.lt {w : World} (h : Nul w) : 0 < w.heap.size := by
  obtain ⟨t, fr, h⟩ := h
  exact (Array.getElem?_eq_some_iff.1 h).1
theorem Nul.below {w w' : World} (h : Nul w) (hb : Below w.heap.size w w') : Nul w' := by
  have hl := h.lt
  obtain ⟨t, fr, h⟩ := h
  exact ⟨t, fr, (hb.block 0 hl).trans h⟩
theorem Nul.ev {G G' : Gh} {w w' : World} (h : Nul w) (hG : G 0 = none) (he : Ev G w G' w') : Nul w' ∧ G' 0 = none := by
  have hl := h.lt
  obtain ⟨t, fr, h⟩ := h
  refine ⟨⟨t, fr, (he.keep 0 hl hG).trans h⟩, ?_⟩
  cases hg : G' 0 with
  | none => rfl
  | some o =>
    rcases he.fresh 0 (by simp [hg]) with h1 | h1
    · exact absurd hG h1
    · omega

set_option maxHeartbeats 400000 in
theorem Valid_any (v : Val) (w : World) (hn : Nul w) : Calls Tryz.prog 119 #[.agg #[.int .i64 v.kind, .int .i64 v.n, .string v.text]] w fun e w' => e = .returned (.bool (validV v)) ∧ Below w.heap.size w w' := by
  obtain ⟨k, n, t⟩ := v
  obtain ⟨c0, c1, c2⟩ := hn.cells
  have hl := hn.lt
  have HB : Hid (∀ o, Below w.heap.size w (w.alloc o)) := fun o => (Below.refl _ _).alloc (Nat.le_refl _) _
  by_cases h0 : k = 0
  · subst h0
    by_cases hn0 : n = 0
    · subst hn0
      cases ht : noText t
      all_goals
        have HT := Lib.hid ht
        have hte : t.toList.isEmpty = noText t := rfl
        rw [ht] at hte
        clear ht
        go_enter Tryz.func119, Tryz.ntmps119
        go_wp2
        go_ret
        exact ⟨ret_bool (by simp [validV, HT.out]), HB.out _⟩
    · have hnb : (n == 0) = false := by simpa using hn0
      have HN := Lib.hid hn0
      clear hn0
      go_enter Tryz.func119, Tryz.ntmps119
      go_wp2
      go_ret
      exact ⟨ret_bool (by simp [validV, HN.out]), HB.out _⟩
  · by_cases h1 : k = 1
    · subst h1
      cases ht : noText t
      · have HT := Lib.hid ht
        have hte : t.toList.isEmpty = noText t := rfl
        rw [ht] at hte
        clear ht
        go_enter Tryz.func119, Tryz.ntmps119
        go_wp2
        go_ret
        exact ⟨ret_bool (by simp [validV, HT.out]), HB.out _⟩
      · have HT := Lib.hid ht
        have hte : t.toList.isEmpty = noText t := rfl
        rw [ht] at hte
        have HI := Lib.hid (isInt_any n)
        clear ht
        go_enter Tryz.func119, Tryz.ntmps119
        go_wp2_with (go_at_call 138; refine (HI.out _).mono ?_; rintro e w1 ⟨rfl, rfl⟩)
        go_ret
        exact ⟨ret_bool (by simp [validV, HT.out]), HB.out _⟩
    · by_cases h2 : k = 2
      · subst h2
        by_cases hn0 : n = 0
        · subst hn0
          have HI := Lib.hid (isString_any t)
          go_enter Tryz.func119, Tryz.ntmps119
          go_wp2_with (go_at_call 139; refine (HI.out _).mono ?_; rintro e w1 ⟨rfl, hb1⟩)
          go_ret
          exact ⟨ret_bool (by simp [validV]), (HB.out _).trans (hb1.mono (by simp))⟩
        · have hnb : (n == 0) = false := by simpa using hn0
          have HN := Lib.hid hn0
          clear hn0
          go_enter Tryz.func119, Tryz.ntmps119
          go_wp2
          go_ret
          exact ⟨ret_bool (by simp [validV, HN.out]), HB.out _⟩
      · by_cases h3 : k = 3
        · subst h3
          cases ht : noText t
          · have HT := Lib.hid ht
            have hte : t.toList.isEmpty = noText t := rfl
            rw [ht] at hte
            clear ht
            go_enter Tryz.func119, Tryz.ntmps119
            go_wp2
            go_ret
            exact ⟨ret_bool (by simp [validV, HT.out]), HB.out _⟩
          · have HT := Lib.hid ht
            have hte : t.toList.isEmpty = noText t := rfl
            rw [ht] at hte
            clear ht
            by_cases hn0 : n = 0
            · subst hn0
              go_enter Tryz.func119, Tryz.ntmps119
              go_wp2
              go_ret
              exact ⟨ret_bool (by simp [validV, HT.out]), HB.out _⟩
            · have hnb : (n == 0) = false := by simpa using hn0
              have HN := Lib.hid hn0
              clear hn0
              go_enter Tryz.func119, Tryz.ntmps119
              go_wp2
              go_ret
              exact ⟨ret_bool (by simp only [validV, HT.out, HN.out]; simp; exact Bool.beq_eq_decide_eq _ _), HB.out _⟩
        · have b0 : (k == 0) = false := by simpa using h0
          have b1 : (k == 1) = false := by simpa using h1
          have b2 : (k == 2) = false := by simpa using h2
          have b3 : (k == 3) = false := by simpa using h3
          have H0 := Lib.hid h0
          have H1 := Lib.hid h1
          have H2 := Lib.hid h2
          have H3 := Lib.hid h3
          clear h0 h1 h2 h3
          go_enter Tryz.func119, Tryz.ntmps119
          go_wp2
          go_ret
          exact ⟨ret_bool (by simp [validV, H0.out, H1.out, H2.out, H3.out]), HB.out _⟩
/-! ### rows -/
theorem flat_get {α : Type} (f : α → List Value) (c : Nat) (hc : ∀ x, (f x).length = c) : ∀ (l : List α) (k j : Nat) (x : α), l[k]? = some x → j < c → (l.flatMap f)[k * c + j]? = (f x)[j]?
  | [], k, j, x, h, _ => by simp at h
  | y :: r, 0, j, x, h, hj => by
    simp at h
    subst h
    rw [List.flatMap_cons, List.getElem?_append_left (by rw [hc]; omega)]
    simp
  | y :: r, k + 1, j, x, h, hj => by
    simp at h
    rw [List.flatMap_cons, List.getElem?_append_right (by rw [hc, Nat.add_mul]; omega), hc, show (k + 1) * c + j - c = k * c + j from by rw [Nat.add_mul]; omega]
    exact flat_get f c hc r k j x h hj
theorem flat_len {α : Type} (f : α → List Value) (c : Nat) (hc : ∀ x, (f x).length = c) (l : List α) : (l.flatMap f).length = l.length * c := by
  induction l with
  | nil => simp
  | cons x r ih => rw [List.flatMap_cons, List.length_append, hc, ih, List.length_cons, Nat.add_mul]; omega
def rowCells (l : List Val) : List Value := l.flatMap Val.cells
theorem rowCells_len (l : List Val) : (rowCells l).length = l.length * 3 := flat_len _ 3 (fun _ => rfl) l
/-- Value v is a row with the values l. -/
def RowAt (G : Gh) (v : Value) (l : List Val) : Prop := ∃ A c, v = .slice A l.length c ∧ l.length ≤ c ∧ Span G A (rowCells l)
theorem RowAt.sub {G G' : Gh} {v : Value} {l : List Val} (h : RowAt G v l) (hs : ∀ b o, G b = some o → G' b = some o) : RowAt G' v l := by
  obtain ⟨A, c, hv, hc, hp⟩ := h
  exact ⟨A, c, hv, hc, hp.sub hs⟩
theorem Span.val {G : Gh} {w : World} {A : Option Addr} {l : List Val} (h : Span G A (rowCells l)) (hG : Holds G w) {k : Nat} {v : Val} (hk : l[k]? = some v) :
    ∃ b o, A = some ⟨b, o, none⟩ ∧ b < w.heap.size ∧ w.cell? ⟨b, o + k * 3, none⟩ = some (.int .i64 v.kind) ∧ w.cell? ⟨b, o + k * 3 + 1, none⟩ = some (.int .i64 v.n) ∧ w.cell? ⟨b, o + k * 3 + 2, none⟩ = some (.string v.text) := by
  have g : ∀ j, j < 3 → (rowCells l)[k * 3 + j]? = v.cells[j]? := fun j hj => flat_get _ 3 (fun _ => rfl) l k j v hk hj
  rcases h with h | ⟨b, o, cs, t, fr, rfl, hb, hc⟩
  · have := g 0 (by omega)
    rw [h] at this
    simp [Val.cells] at this
  · refine ⟨b, o, rfl, hG.lt hb, hG.cell hb ?_, ?_, ?_⟩
    · exact hc _ _ (by rw [show k * 3 = k * 3 + 0 from rfl, g 0 (by omega)]; rfl)
    · rw [Nat.add_assoc]; exact hG.cell hb (hc _ _ (by rw [g 1 (by omega)]; rfl))
    · rw [Nat.add_assoc]; exact hG.cell hb (hc _ _ (by rw [g 2 (by omega)]; rfl))

theorem valid1_any (v : Val) (w : World) (hn : Nul w) : Calls Tryz.prog 118 #[.agg #[.int .i64 v.kind, .int .i64 v.n, .string v.text]] w fun e w' => e = .returned (.bool (!validV v)) ∧ Below w.heap.size w w' := by
  have hb : Below w.heap.size w (w.alloc (.cells #[.int .i64 v.kind, .int .i64 v.n, .string v.text] 82)) := (Below.refl _ _).alloc (Nat.le_refl _) _
  have HI := Lib.hid (Valid_any v _ (hn.below hb))
  have HB := Lib.hid hb
  clear hb
  go_enter Tryz.func118, Tryz.ntmps118
  go_wp2_with (go_at_call 119; refine HI.out.mono ?_; rintro e w1 ⟨rfl, hb1⟩)
  go_ret
  exact ⟨rfl, HB.out.trans (hb1.mono (by simp))⟩

def allV (l : List Val) : Bool := l.all validV
theorem allV_snoc {l : List Val} {k : Nat} {v : Val} (hv : l[k]? = some v) (h : allV (l.take k) = true) : allV (l.take (k + 1)) = validV v := by
  unfold allV at *
  rw [List.take_add_one, hv]
  simp [h]
theorem allV_not {l : List Val} {k : Nat} {v : Val} (hv : l[k]? = some v) (h : validV v = false) : allV l = false := by
  unfold allV
  rw [List.all_eq_false]
  exact ⟨v, List.mem_of_getElem? hv, by simp [h]⟩

theorem indexV (G : Gh) (A : Option Addr) (l : List Val) (c : Nat) (w : World) (hG : Holds G w) (hs : Span G A (rowCells l)) (hn : Nul w) (hl : l.length ≤ 9223372036854775807) :
    Calls Tryz.prog 137 #[.slice A l.length c, .func (.func 118) #[] #[]] w fun e w' => (∃ i : Int, e = .returned (.int .i64 i) ∧ ((0 ≤ i) ↔ allV l = false)) ∧ Below w.heap.size w w' := by
  obtain ⟨n, hnl⟩ : ∃ n, n = l.length := ⟨_, rfl⟩
  have HN := Lib.hid hnl
  rw [← hnl] at hl ⊢
  have HS : Hid (∀ k v, l[k]? = some v → _) := fun k v hk => hs.val hG hk
  clear hnl hs
  go_enter Tryz.func137, Tryz.ntmps137
  go_wp2
  go_loopw [8, 5] (fun t _ wr => ∃ k : Nat, k ≤ n ∧ t = .int .i64 k ∧ Hid (allV (l.take k) = true) ∧ Below w.heap.size w wr) (fun t _ _ => n - (intOf t).toNat)
  case atStart => exact ⟨0, Nat.zero_le _, rfl, Lib.hid rfl, Below.refl _ _⟩
  case round =>
    obtain ⟨k, hk, rfl, HA, hb⟩ := hrel
    by_cases hlt : k < n
    · have hlt' : k < l.length := by rw [← HN.out]; exact hlt
      obtain ⟨u, hu⟩ : ∃ u, l[k]? = some u := ⟨l[k], List.getElem?_eq_getElem hlt'⟩
      obtain ⟨b, o, rfl, hbl, c0, c1, c2⟩ := HS.out k u hu
      have d0 : wr.cell? _ = _ := (hb.cell (p := ⟨b, o + k * 3, none⟩) hbl).trans c0
      have d1 : wr.cell? _ = _ := (hb.cell (p := ⟨b, o + k * 3 + 1, none⟩) hbl).trans c1
      have d2 : wr.cell? _ = _ := (hb.cell (p := ⟨b, o + k * 3 + 2, none⟩) hbl).trans c2
      have hp := valid1_any u wr (hn.below hb)
      have ht := allV_snoc hu HA.out
      have HU := Lib.hid hu
      clear hlt' hu c0 c1 c2
      cases hv : validV u
      all_goals
        rw [hv] at hp ht
        have HP := Lib.hid hp
        have HT := Lib.hid ht
        have HV := Lib.hid hv
        clear hp ht hv
        go_wp2_with (go_at_call 118; refine HP.out.mono ?_; rintro e w1 ⟨rfl, hb1⟩)
      · go_ret
        refine ⟨⟨k, rfl, ?_⟩, hb.trans (hb1.mono hb.size)⟩
        simp [allV_not HU.out HV.out]
      · go_roundw
        case rel => exact ⟨k + 1, by omega, by go_num, HT, hb.trans (hb1.mono hb.size)⟩
        case measure => simp [intOf]; omega
    · have hge : n ≤ k := by omega
      clear hlt
      go_wp2
      go_ret
      refine ⟨⟨-1, rfl, ?_⟩, hb⟩
      have hkn : k = n := by omega
      have := HA.out
      rw [hkn, HN.out, List.take_length] at this
      simp [this]

theorem containsV (G : Gh) (A : Option Addr) (l : List Val) (c : Nat) (w : World) (hG : Holds G w) (hs : Span G A (rowCells l)) (hn : Nul w) (hl : l.length ≤ 9223372036854775807) :
    Calls Tryz.prog 117 #[.slice A l.length c, .func (.func 118) #[] #[]] w fun e w' => e = .returned (.bool (!allV l)) ∧ Below w.heap.size w w' := by
  have H1 := Lib.hid (indexV G A l c w hG hs hn hl)
  clear hs hG
  go_enter Tryz.func117, Tryz.ntmps117
  go_wp2_with (go_at_call 137; refine H1.out.mono ?_; rintro e w1 ⟨⟨i, rfl, hi⟩, hb1⟩)
  go_ret
  exact ⟨ret_bool (by by_cases h : 0 ≤ i <;> simp_all), hb1⟩

theorem valids_any (G : Gh) (A : Option Addr) (l : List Val) (c : Nat) (w : World) (hG : Holds G w) (hs : Span G A (rowCells l)) (hn : Nul w) (hl : l.length ≤ 9223372036854775807) :
    Calls Tryz.prog 105 #[.slice A l.length c] w fun e w' => e = .returned (.bool (allV l)) ∧ Below w.heap.size w w' := by
  have H1 := Lib.hid (containsV G A l c w hG hs hn hl)
  clear hs hG
  go_enter Tryz.func105, Tryz.ntmps105
  go_wp2_with (go_at_call 117; refine H1.out.mono ?_; rintro e w1 ⟨rfl, hb1⟩)
  go_ret
  exact ⟨ret_bool (by simp), hb1⟩

def rowB (l : List Val) : Bool := decide (l.length ≤ 20) && allV l

theorem isRow_any (G : Gh) (A : Option Addr) (l : List Val) (c : Nat) (w : World) (hG : Holds G w) (hs : Span G A (rowCells l)) (hn : Nul w) (hl : l.length ≤ 9223372036854775807) :
    Calls Tryz.prog 73 #[.slice A l.length c] w fun e w' => e = .returned (.bool (rowB l)) ∧ Below w.heap.size w w' := by
  by_cases h20 : l.length ≤ 20
  · have H1 := Lib.hid (valids_any G A l c w hG hs hn hl)
    clear hs hG
    go_enter Tryz.func73, Tryz.ntmps73
    go_wp2_with (go_at_call 105; refine H1.out.mono ?_; rintro e w1 ⟨rfl, hb1⟩)
    go_ret
    exact ⟨ret_bool (by simp [rowB, h20]), hb1⟩
  · clear hs hG
    go_enter Tryz.func73, Tryz.ntmps73
    go_wp2
    go_ret
    exact ⟨ret_bool (by simp [rowB, h20]), Below.refl _ _⟩
end Go.Ju

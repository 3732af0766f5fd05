/- The small predicates on names and numbers. -/
import Derived.Test.YthdnjokioboehaaGreatDoorProg
import Derived.Test.YthdnjokioboehaaGreatDoorBase
import Derived.WalkKit
import Derived.WalkLawsBesides
import Derived.WalkSpells
import Derived.LoopTactic
import Derived.Lib.Hide
import Derived.Laws.BytesString
import Derived.Laws.IdiomStrings
import Derived.Lib.Strings
import Derived.Laws.RangeString
import Derived.Laws.StructEq
namespace Go.Ju
open Go.RowKit
open Go.Proofs

def smallB (c : UInt8) : Bool := decide (97 ≤ (c.toNat : Int)) && decide ((c.toNat : Int) ≤ 122)
def digitB (c : UInt8) : Bool := decide (48 ≤ (c.toNat : Int)) && decide ((c.toNat : Int) ≤ 57)
def partB (c : UInt8) : Bool := smallB c || digitB c || (c == 95)
def numB (n : Int) : Bool := decide (1 ≤ n) && decide (n ≤ 1099511627776)

theorem ret_bool {a b : Bool} (h : a = b) : Ending.returned (.bool a) = .returned (.bool b) := by rw [h]
theorem ret_int {k : IntKind} {a b : Int} (h : a = b) : Ending.returned (.int k a) = .returned (.int k b) := by rw [h]

theorem small_any (c : UInt8) (w : World) : Calls Tryz.prog 158 #[.int .u8 c.toNat] w fun e w' => e = .returned (.bool (smallB c)) ∧ w = w' := by
  by_cases h1 : 97 ≤ (c.toNat : Int) <;> by_cases h2 : (c.toNat : Int) ≤ 122
  all_goals
    go_enter Tryz.func158, Tryz.ntmps158
    go_wp2
    go_ret
    exact ⟨ret_bool (by simp [smallB, h1, h2]), rfl⟩

theorem digit_any (c : UInt8) (w : World) : Calls Tryz.prog 161 #[.int .u8 c.toNat] w fun e w' => e = .returned (.bool (digitB c)) ∧ w = w' := by
  by_cases h1 : 48 ≤ (c.toNat : Int) <;> by_cases h2 : (c.toNat : Int) ≤ 57
  all_goals
    go_enter Tryz.func161, Tryz.ntmps161
    go_wp2
    go_ret
    exact ⟨ret_bool (by simp [digitB, h1, h2]), rfl⟩

theorem number_any (n : Int) (w : World) : Calls Tryz.prog 65 #[.int .i64 n] w fun e w' => e = .returned (.bool (numB n)) ∧ w = w' := by
  by_cases h1 : 1 ≤ n <;> by_cases h2 : n ≤ 1099511627776
  all_goals
    go_enter Tryz.func65, Tryz.ntmps65
    go_wp2
    go_ret
    exact ⟨ret_bool (by simp [numB, h1, h2]), rfl⟩

theorem part_any (c : UInt8) (w : World) : Calls Tryz.prog 160 #[.int .u8 c.toNat] w fun e w' => e = .returned (.bool (!partB c)) ∧ w = w' := by
  have h95 : ((c.toNat : Int) == 95) = (c == 95) := by
    rw [Bool.eq_iff_iff]; simp [← UInt8.toNat_inj]; omega
  have H95 := Lib.hid h95
  clear h95
  cases h1 : smallB c <;> cases h2 : digitB c <;> cases h3 : ((c.toNat : Int) == 95)
  all_goals
    have hs := small_any c
    have hd := digit_any c
    rw [h1] at hs
    rw [h2] at hd
    have hs' := Lib.hid hs
    have hd' := Lib.hid hd
    have H1 := Lib.hid h1
    have H2 := Lib.hid h2
    have H3 := Lib.hid h3
    clear hs hd h1 h2
    go_enter Tryz.func160, Tryz.ntmps160
    go_wp2_with (first | (go_at_call 158; refine (hs'.out _).mono ?_; rintro e w' ⟨rfl, rfl⟩) | (go_at_call 161; refine (hd'.out _).mono ?_; rintro e w' ⟨rfl, rfl⟩))
    go_ret
    exact ⟨ret_bool (by simp only [partB, bne, H1.out, H2.out, ← H95.out, H3.out]; rfl), rfl⟩

def bad (l : List UInt8) : Bool := l.any fun x => !partB x
theorem bad_snoc {l : List UInt8} {k : Nat} {u : UInt8} (hu : l[k]? = some u) (h : bad (l.take k) = false) : bad (l.take (k + 1)) = !partB u := by
  unfold bad at *
  rw [List.take_add_one, hu]
  simp [h]
theorem bad_of {l : List UInt8} {k : Nat} {u : UInt8} (hu : l[k]? = some u) (h : partB u = false) : bad l = true := by
  unfold bad
  rw [List.any_eq_true]
  exact ⟨u, List.mem_of_getElem? hu, by rw [h]; rfl⟩

/-- slices.IndexFunc over bytes, at the name's predicate. -/
theorem indexB (l : List UInt8) (b c : Nat) (w : World) (hl : l.length ≤ 30) (hc : ∀ (j : Nat) (u : UInt8), l[j]? = some u → w.cell? ⟨b, j, none⟩ = some (.int .u8 u.toNat)) :
    Calls Tryz.prog 170 #[.slice (some ⟨b, 0, none⟩) l.length c, .func (.func 160) #[] #[]] w fun e w' =>
      (∃ i : Int, e = .returned (.int .i64 i) ∧ ((0 ≤ i) ↔ bad l = true)) ∧ w = w' := by
  obtain ⟨n, hn⟩ : ∃ n, n = l.length := ⟨_, rfl⟩
  have HC := Lib.hid hc
  have HN := Lib.hid hn
  rw [← hn] at hl ⊢
  clear hc hn
  go_enter Tryz.func170, Tryz.ntmps170
  go_wp2
  go_loop [8, 5] (fun t _ => ∃ k : Nat, k ≤ n ∧ t = .int .i64 k ∧ Hid (bad (l.take k) = false)) (fun t _ => n - (intOf t).toNat)
  case atStart => exact ⟨0, Nat.zero_le _, rfl, Lib.hid rfl⟩
  case round =>
    obtain ⟨k, hk, rfl, HA⟩ := hrel
    by_cases hlt : k < n
    · have hlt' : k < l.length := by rw [← HN.out]; exact hlt
      obtain ⟨u, hu⟩ : ∃ u, l[k]? = some u := ⟨l[k], List.getElem?_eq_getElem hlt'⟩
      have hcell := HC.out k u hu
      have hpart := part_any u
      have HP := Lib.hid hpart
      have HU := Lib.hid hu
      clear hpart hu hlt'
      have htk := bad_snoc HU.out HA.out
      have HT := Lib.hid htk
      clear htk
      cases hp : partB u
      all_goals
        have HQ := Lib.hid hp
        rw [hp] at HP HT
        clear hp
        go_wp2_with (go_at_call 160; refine (HP.out _).mono ?_; rintro e w' ⟨rfl, rfl⟩)
      · go_ret
        refine ⟨⟨k, rfl, ?_⟩, rfl⟩
        simp [bad_of HU.out HQ.out]
      · go_round
        case rel => exact ⟨k + 1, by omega, by go_num, HT⟩
        case measure => simp [intOf]; omega
    · have hge : n ≤ k := by omega
      clear hlt
      go_wp2
      go_ret
      refine ⟨⟨-1, rfl, ?_⟩, rfl⟩
      have hkn : k = n := by omega
      have := HA.out
      rw [hkn, HN.out, List.take_length] at this
      simp [this]
theorem containsB (l : List UInt8) (b c : Nat) (w : World) (hl : l.length ≤ 30) (hc : ∀ (j : Nat) (u : UInt8), l[j]? = some u → w.cell? ⟨b, j, none⟩ = some (.int .u8 u.toNat)) :
    Calls Tryz.prog 159 #[.slice (some ⟨b, 0, none⟩) l.length c, .func (.func 160) #[] #[]] w fun e w' => e = .returned (.bool (bad l)) ∧ w = w' := by
  have hi := Lib.hid (indexB l b c w hl hc)
  clear hc
  go_enter Tryz.func159, Tryz.ntmps159
  go_wp2_with (go_at_call 170; refine hi.out.mono ?_; rintro e w' ⟨⟨i, rfl, hi2⟩, rfl⟩)
  go_ret
  exact ⟨ret_bool (by by_cases h : 0 ≤ i <;> simp_all), rfl⟩
def shapeB (s : ByteArray) : Bool := if h : 0 < s.size then smallB s[0] && decide (s.size ≤ 30) && !bad s.data.toList else false
set_option maxRecDepth 100000 in
theorem isname_any (s : ByteArray) (w : World)  :
    Calls Tryz.prog 135 #[.string s] w fun e w' => e = .returned (.bool (shapeB s)) ∧ Below w.heap.size w w' := by
  by_cases h0 : 0 < s.size
  · have hne : s.toList.isEmpty = false := by
      cases he : s.toList with
      | nil =>
        have : s.size = 0 := by
          have h1 := congrArg List.length he
          rw [Lib.toList_data] at h1
          simpa using h1
        omega
      | cons => rfl
    have hs := small_any s[0]
    have hsh : shapeB s = (smallB s[0] && decide (s.size ≤ 30) && !bad s.data.toList) := by unfold shapeB; rw [dif_pos h0]
    have HS := Lib.hid hsh
    clear hsh
    cases hsm : smallB s[0]
    · rw [hsm] at hs
      have hs' := Lib.hid hs
      have hm' := Lib.hid hsm
      clear hs hsm
      go_enter Tryz.func135, Tryz.ntmps135
      go_wp2_with (go_at_call 158; refine (hs'.out _).mono ?_; rintro e w' ⟨rfl, rfl⟩)
      go_ret
      exact ⟨ret_bool (by rw [HS.out, hm'.out]; rfl), Below.refl _ _⟩
    · rw [hsm] at hs
      have hs' := Lib.hid hs
      have hm' := Lib.hid hsm
      clear hs hsm
      by_cases h30 : s.size ≤ 30
      · have hconv := run_bytes_of_string (P := Tryz.prog) w 9 215 5 s Tryz.underlying9 Tryz.underlying215 Tryz.underlying5
        have hcl : ∀ (j : Nat) (u : UInt8), s.data.toList[j]? = some u → (bytesRow s (grownCap w s.size 0 5))[j]? = some (.int .u8 u.toNat) := by
          intro j u hj
          have hlt : j < s.data.toList.length := (List.getElem?_eq_some_iff.1 hj).1
          unfold bytesRow
          rw [Array.getElem?_append_left (by simpa using hlt)]
          simp at hj ⊢
          simp [hj]
        generalize bytesRow s (grownCap w s.size 0 5) = C at hconv hcl
        generalize grownCap w s.size 0 5 = cap at hconv
        have hwc : ∀ (j : Nat) (u : UInt8), s.data.toList[j]? = some u → (w.alloc (.cells C 5 (C.size, C.size + 1))).cell? ⟨w.heap.size, j, none⟩ = some (.int .u8 u.toNat) := by
          intro j u hj
          rw [cell_of_row _ _ j C 5 _ (heap_alloc_new w _)]
          exact hcl j u hj
        have hct := fun n => containsB s.data.toList w.heap.size cap ((w.alloc (.cells C 5 (C.size, C.size + 1))).drewN n) (by simpa using h30) hwc
        have HCT := Lib.hid hct
        clear hct hwc hcl
        go_enter Tryz.func135, Tryz.ntmps135
        go_wp2_with (go_at_call 158; refine (hs'.out _).mono ?_; rintro e w' ⟨rfl, rfl⟩)
        refine (HCT.out 1).mono ?_
        rintro e w2 ⟨rfl, rfl⟩
        go_wp2
        go_ret
        exact ⟨ret_bool (by rw [HS.out, hm'.out]; simp [h30]), ((Below.refl _ _).alloc (Nat.le_refl _) _).drew⟩
      · go_enter Tryz.func135, Tryz.ntmps135
        go_wp2_with (go_at_call 158; refine (hs'.out _).mono ?_; rintro e w' ⟨rfl, rfl⟩)
        go_ret
        exact ⟨ret_bool (by rw [HS.out, hm'.out]; simp [h30]), Below.refl _ _⟩
  · have hne : s.toList.isEmpty = true := by
      cases he : s.toList with
      | nil => rfl
      | cons a r =>
        have h1 := congrArg List.length he
        rw [Lib.toList_data] at h1
        simp at h1
        omega
    go_enter Tryz.func135, Tryz.ntmps135
    go_wp2
    go_ret
    exact ⟨ret_bool (by unfold shapeB; rw [dif_neg h0]), Below.refl _ _⟩

end Go.Ju

/- The words that are no names (a chain of tests), and the predicates over names. -/
namespace Go.Ju
open Go.RowKit
open Go.Proofs
def words : List (Array UInt8 × String) := [
  (#[111, 114], "lex.go:16"),
  (#[97, 110, 100], "lex.go:16"),
  (#[110, 111, 116], "lex.go:16"),
  (#[105, 115], "lex.go:16"),
  (#[110, 117, 108, 108], "lex.go:16"),
  (#[105, 110], "lex.go:16"),
  (#[98, 101, 116, 119, 101, 101, 110], "lex.go:16"),
  (#[108, 105, 107, 101], "lex.go:16"),
  (#[109, 111, 100], "lex.go:16"),
  (#[116, 114, 117, 101], "lex.go:16"),
  (#[102, 97, 108, 115, 101], "lex.go:16"),
  (#[110, 101, 119], "lex.go:16"),
  (#[111, 108, 100], "lex.go:16"),
  (#[115, 113, 108], "lex.go:16"),
  (#[102, 111, 117, 110, 100], "lex.go:16"),
  (#[110, 111, 116, 102, 111, 117, 110, 100], "lex.go:16"),
  (#[105, 115, 111, 112, 101, 110], "lex.go:16"),
  (#[114, 111, 119, 99, 111, 117, 110, 116], "lex.go:16"),
  (#[99, 111, 117, 110, 116], "lex.go:17"),
  (#[101, 120, 105, 115, 116, 115], "lex.go:17"),
  (#[99, 97, 115, 101], "lex.go:17"),
  (#[119, 104, 101, 110], "lex.go:17"),
  (#[116, 104, 101, 110], "lex.go:17"),
  (#[101, 108, 115, 101], "lex.go:17"),
  (#[101, 110, 100], "lex.go:17"),
  (#[115, 101, 108, 101, 99, 116], "lex.go:17"),
  (#[100, 105, 115, 116, 105, 110, 99, 116], "lex.go:17"),
  (#[102, 114, 111, 109], "lex.go:17"),
  (#[119, 104, 101, 114, 101], "lex.go:17"),
  (#[103, 114, 111, 117, 112], "lex.go:17"),
  (#[98, 121], "lex.go:17"),
  (#[104, 97, 118, 105, 110, 103], "lex.go:17"),
  (#[111, 114, 100, 101, 114], "lex.go:17"),
  (#[100, 101, 115, 99], "lex.go:17"),
  (#[102, 111, 114], "lex.go:17"),
  (#[117, 112, 100, 97, 116, 101], "lex.go:18"),
  (#[97, 115], "lex.go:18"),
  (#[111, 102], "lex.go:18"),
  (#[105, 110, 115, 101, 114, 116], "lex.go:18"),
  (#[105, 110, 116, 111], "lex.go:18"),
  (#[118, 97, 108, 117, 101, 115], "lex.go:18"),
  (#[115, 101, 116], "lex.go:18"),
  (#[100, 101, 108, 101, 116, 101], "lex.go:18"),
  (#[105, 110, 116], "lex.go:18"),
  (#[116, 101, 120, 116], "lex.go:18"),
  (#[98, 111, 111, 108], "lex.go:18"),
  (#[97, 114, 114, 97, 121], "lex.go:18"),
  (#[99, 117, 114, 115, 111, 114], "lex.go:18"),
  (#[101, 120, 99, 101, 112, 116, 105, 111, 110], "lex.go:18"),
  (#[100, 101, 99, 108, 97, 114, 101], "lex.go:18"),
  (#[98, 101, 103, 105, 110], "lex.go:18"),
  (#[101, 120, 105, 116], "lex.go:18"),
  (#[114, 101, 116, 117, 114, 110], "lex.go:19"),
  (#[114, 97, 105, 115, 101], "lex.go:19"),
  (#[105, 102], "lex.go:19"),
  (#[101, 108, 115, 105, 102], "lex.go:19"),
  (#[119, 104, 105, 108, 101], "lex.go:19"),
  (#[108, 111, 111, 112], "lex.go:19"),
  (#[114, 101, 118, 101, 114, 115, 101], "lex.go:19"),
  (#[111, 112, 101, 110], "lex.go:19"),
  (#[99, 108, 111, 115, 101], "lex.go:19"),
  (#[102, 101, 116, 99, 104], "lex.go:19"),
  (#[98, 117, 108, 107], "lex.go:19"),
  (#[99, 111, 108, 108, 101, 99, 116], "lex.go:19"),
  (#[108, 105, 109, 105, 116], "lex.go:19"),
  (#[102, 111, 114, 97, 108, 108], "lex.go:19"),
  (#[99, 111, 109, 109, 105, 116], "lex.go:19"),
  (#[114, 111, 108, 108, 98, 97, 99, 107], "lex.go:19"),
  (#[116, 111], "lex.go:20"),
  (#[115, 97, 118, 101, 112, 111, 105, 110, 116], "lex.go:20"),
  (#[111, 117, 116], "lex.go:20"),
  (#[112, 114, 111, 99, 101, 100, 117, 114, 101], "lex.go:20"),
  (#[102, 117, 110, 99, 116, 105, 111, 110], "lex.go:20"),
  (#[97, 117, 116, 111, 110, 111, 109, 111, 117, 115], "lex.go:20"),
  (#[99, 114, 101, 97, 116, 101], "lex.go:20"),
  (#[114, 101, 112, 108, 97, 99, 101], "lex.go:20"),
  (#[100, 114, 111, 112], "lex.go:20"),
  (#[97, 108, 116, 101, 114], "lex.go:20"),
  (#[116, 97, 98, 108, 101], "lex.go:20"),
  (#[97, 100, 100], "lex.go:20"),
  (#[103, 114, 97, 110, 116], "lex.go:20"),
  (#[111, 110], "lex.go:20"),
  (#[114, 101, 118, 111, 107, 101], "lex.go:20"),
  (#[97, 108, 108], "lex.go:21"),
  (#[117, 115, 101, 114], "lex.go:21"),
  (#[105, 110, 100, 101, 120], "lex.go:21"),
  (#[115, 101, 113, 117, 101, 110, 99, 101], "lex.go:21"),
  (#[115, 116, 97, 114, 116], "lex.go:21"),
  (#[99, 97, 99, 104, 101], "lex.go:21"),
  (#[118, 105, 101, 119], "lex.go:21"),
  (#[105, 110, 118, 111, 107, 101, 114], "lex.go:21"),
  (#[112, 97, 99, 107, 97, 103, 101], "lex.go:21"),
  (#[112, 114, 105, 118, 97, 116, 101], "lex.go:21"),
  (#[116, 114, 105, 103, 103, 101, 114], "lex.go:21"),
  (#[98, 101, 102, 111, 114, 101], "lex.go:21"),
  (#[97, 102, 116, 101, 114], "lex.go:21"),
  (#[101, 97, 99, 104], "lex.go:21"),
  (#[114, 111, 119], "lex.go:21"),
  (#[100, 101, 102, 97, 117, 108, 116], "lex.go:22"),
  (#[99, 111, 110, 115, 116, 114, 97, 105, 110, 116], "lex.go:22"),
  (#[117, 110, 105, 113, 117, 101], "lex.go:22"),
  (#[112, 114, 105, 109, 97, 114, 121], "lex.go:22"),
  (#[107, 101, 121], "lex.go:22"),
  (#[99, 104, 101, 99, 107], "lex.go:22"),
  (#[102, 111, 114, 101, 105, 103, 110], "lex.go:22"),
  (#[114, 101, 102, 101, 114, 101, 110, 99, 101, 115], "lex.go:22"),
  (#[100, 101, 102, 101, 114, 114, 101, 100], "lex.go:22"),
  (#[101, 120, 101, 99, 117, 116, 101], "lex.go:22")]
def wl (rg d : Nat) (x : Array UInt8 × String) : Code :=
  .region rg #[{ dst := some d, op := .binOp .eql 9 (.tmp 3) (.const (.string ⟨x.1⟩)) 9, type := 4, pos := x.2, after := #[], guard := none },
    { dst := some 4, op := .assign (.tmp d), type := 4, pos := x.2, after := #[{ on := 0, ground := .data }], guard := none }] false
def wchain : List (Array UInt8 × String) → Nat → Nat → Code
  | [], _, _ => .skip
  | [x], rg, d => wl rg d x
  | x :: y :: r, rg, d => .seq (wl rg d x) (.cond (.tmp 4) .skip (wchain (y :: r) (rg + 1) (d + 1)))
def WInv (s : ByteArray) (a : Act) : Prop := a.tmps.size = 113 ∧ a.tmps[3]? = some (.string s) ∧ a.defers = []
theorem winv_put {s : ByteArray} {a : Act} (h : WInv s a) {d : Nat} (hd : d ≠ 3) (v : Value) : WInv s (a.put (some d) v) := by
  obtain ⟨h1, h2, h3⟩ := h
  refine ⟨by simpa [Act.put] using h1, ?_, h3⟩
  rw [← h2]
  simp [Act.put, hd]
def eqB (s : ByteArray) (x : Array UInt8 × String) : Bool := s.toList == (⟨x.1⟩ : ByteArray).toList
theorem wl_wp (s : ByteArray) (rg d : Nat) (x : Array UInt8 × String) (Q : Exit → Act → World → Prop) (a : Act) (w : World) (hi : WInv s a) (h4 : 4 < d) (hd : d < 113)
    (h : ∀ a', WInv s a' → a'.tmps[4]? = some (.bool (eqB s x)) → Q .normal a' w) : (wl rg d x).wp Tryz.prog Q a w := by
  refine wp_region_list ?_
  refine wpList_plain rfl fun K hK => ?_
  have h3 : a.tmps[3]? = some (.string s) := hi.2.1
  have hb : ∀ b : ByteArray, (binOp .eql 9 (.string s) (.string b)).run Tryz.prog w = .ok (.bool (s.toList == b.toList)) w := by
    intro b
    go_simp
  have hi' := winv_put hi (d := d) (by omega) (.bool (eqB s x))
  have hdv : (a.put (some d) (.bool (eqB s x))).tmps[d]? = some (.bool (eqB s x)) := by
    simp [Act.put, hi.1, hd]
  unfold Oper.wp
  simp only [execOp, Act.eval, Array.getD_eq_getD_getElem?, h3, Option.getD_some, Sem.run_bind, Sem.run_pure, Oper.upon]
  refine hK _ _ ?_
  refine wpList_plain rfl fun K2 hK2 => ?_
  unfold Oper.wp
  change Oper.upon _ _ _ _ _ (Sem.run _ (execOp (a.put (some d) (.bool (eqB s x))).eval _) w)
  simp only [execOp, Act.eval, Array.getD_eq_getD_getElem?, hdv, Option.getD_some, Sem.run_pure, Oper.upon]
  refine hK2 _ _ (wpList_nil ?_)
  refine h _ (winv_put hi' (by omega) _) ?_
  simp [Act.put, hi.1]
theorem wchain_wp (s : ByteArray) (Q : Exit → Act → World → Prop) (w : World) : ∀ (l : List (Array UInt8 × String)) (rg d : Nat) (a : Act), l ≠ [] → WInv s a → 4 < d → d + l.length ≤ 113 →
    (∀ a', WInv s a' → a'.tmps[4]? = some (.bool (l.any (eqB s))) → Q .normal a' w) → (wchain l rg d).wp Tryz.prog Q a w
  | [], _, _, _, h0, _, _, _, _ => absurd rfl h0
  | [x], rg, d, a, _, hi, h4, hd, h => wl_wp s rg d x Q a w hi h4 (by simp at hd; omega) fun a' h1 h2 => h a' h1 (by simpa using h2)
  | x :: y :: r, rg, d, a, _, hi, h4, hd, h => by
    refine wp_seq (wl_wp s rg d x _ a w hi h4 (by simp at hd; omega) fun a' h1 h2 => ?_)
    show Code.wp _ _ _ _ _
    have he : a'.eval (.tmp 4) = .bool (eqB s x) := by simp [Act.eval, h2]
    cases hx : eqB s x with
    | true =>
      rw [hx] at he h2
      refine wp_cond_true he (wp_skip (h a' h1 ?_))
      rw [h2]
      simp [hx]
    | false =>
      rw [hx] at he h2
      refine wp_cond_false he (wchain_wp s Q w (y :: r) (rg + 1) (d + 1) a' (by simp) h1 (by omega) (by simp at hd ⊢; omega) fun a2 h3 h5 => h a2 h3 ?_)
      rw [h5]
      simp [hx]
def wordB (s : ByteArray) : Bool := words.any (eqB s)
theorem word_any (s : ByteArray) (w : World) : Calls Tryz.prog 136 #[.string s] w fun e w' => e = .returned (.bool (wordB s)) ∧ w = w' := by
  refine calls_of_wp Tryz.func136 rfl ?_
  rw [show (Tryz.f136.ntmps - (#[Value.string s] : Array Value).size) = 112 from rfl]
  generalize hA : ({ tmps := #[Value.string s] ++ Array.replicate 112 undef, defers := [] } : Act) = A
  have hA0 : A.tmps.size = 113 ∧ A.tmps[0]? = some (.string s) ∧ A.defers = [] := by subst hA; simp
  clear hA
  refine wp_seq (wp_region_list ?_)
  refine wpList_plain rfl fun K hK => ?_
  unfold Oper.wp
  simp only [execOp, Act.eval, Sem.run_pure, Oper.upon]
  refine hK _ _ (wpList_nil ?_)
  show Code.wp _ _ _ _ _
  refine wp_seq (wp_seq (wp_region_list ?_))
  refine wpList_plain rfl fun K hK => ?_
  unfold Oper.wp
  have h0 : (A.put (some 2) (.bool false)).tmps[0]? = some (.string s) := by simp [Act.put, hA0.2.1]
  change Oper.upon _ _ _ _ _ (Sem.run _ (execOp (A.put (some 2) (.bool false)).eval _) w)
  simp only [execOp, Act.eval, Array.getD_eq_getD_getElem?, h0, Option.getD_some, Sem.run_pure, Oper.upon]
  refine hK _ _ (wpList_nil ?_)
  show Code.wp _ _ _ _ _
  refine wp_block ?_
  refine wp_seq ?_
  change Code.wp _ (wchain words 2 5) _ _ _
  refine wchain_wp s _ w words 2 5 _ (by simp [words]) ⟨by simp [Act.put, hA0.1], by simp [Act.put, hA0.1], hA0.2.2⟩ (by omega) (by simp [words]) fun a' h1 h2 => ?_
  show Code.wp _ _ _ _ _
  have he : a'.eval (.tmp 4) = .bool (wordB s) := by simp [Act.eval, h2, wordB]
  cases hw : wordB s with
  | true =>
    rw [hw] at he
    refine wp_cond_true he (wp_seq (wp_region_list ?_))
    refine wpList_plain rfl fun K hK => ?_
    unfold Oper.wp
    simp only [execOp, Act.eval, Sem.run_pure, Oper.upon]
    refine hK _ _ (wpList_nil ?_)
    show Code.wp _ _ _ _ _
    refine wp_ret ?_
    try simp only [Exit.inBlock, Exit.then]
    refine bodyPost_ret (fn := Tryz.f136) (results_tmp (t := 2) rfl _ _ _) h1.2.2 (And.intro ?_ rfl)
    simp [Act.put, h1.1]
  | false =>
    rw [hw] at he
    refine wp_cond_false he (wp_skip ?_)
    show Code.wp _ _ _ _ _
    refine wp_seq (wp_region_list ?_)
    refine wpList_plain rfl fun K hK => ?_
    unfold Oper.wp
    simp only [execOp, Act.eval, Sem.run_pure, Oper.upon]
    refine hK _ _ (wpList_nil ?_)
    show Code.wp _ _ _ _ _
    refine wp_ret ?_
    try simp only [Exit.inBlock, Exit.then]
    refine bodyPost_ret (fn := Tryz.f136) (results_tmp (t := 2) rfl _ _ _) h1.2.2 (And.intro ?_ rfl)
    simp [Act.put, h1.1]
def nameB (s : ByteArray) : Bool := shapeB s && !wordB s

theorem lexname_any (s : ByteArray) (w : World) : Calls Tryz.prog 116 #[.string s] w fun e w' => e = .returned (.bool (nameB s)) ∧ Below w.heap.size w w' := by
  have h1 := isname_any s
  have h2 := word_any s
  cases hs : shapeB s <;> cases hw : wordB s
  all_goals
    rw [hs] at h1
    rw [hw] at h2
    have H1 := Lib.hid h1
    have H2 := Lib.hid h2
    have H3 := Lib.hid hs
    have H4 := Lib.hid hw
    clear h1 h2 hs hw
    go_enter Tryz.func116, Tryz.ntmps116
    go_wp2_with (first | (go_at_call 135; refine (H1.out _).mono ?_; rintro e w1 ⟨rfl, hb1⟩) | (go_at_call 136; refine (H2.out _).mono ?_; rintro e w2 ⟨rfl, rfl⟩))
    go_ret
    exact ⟨ret_bool (by simp only [nameB, H3.out, H4.out]; rfl), hb1⟩

theorem isName_any (s : ByteArray) (w : World) : Calls Tryz.prog 104 #[.string s] w fun e w' => e = .returned (.bool (nameB s)) ∧ Below w.heap.size w w' := by
  have H1 := Lib.hid (lexname_any s w)
  go_enter Tryz.func104, Tryz.ntmps104
  go_wp2_with (go_at_call 116; refine H1.out.mono ?_; rintro e w1 ⟨rfl, hb1⟩)
  go_ret
  exact ⟨rfl, hb1⟩

theorem isTable_any (o n : ByteArray) (w : World) : Calls Tryz.prog 72 #[.string o, .string n] w fun e w' => e = .returned (.bool (nameB o && nameB n)) ∧ Below w.heap.size w w' := by
  have h1 := isName_any o w
  have h2 := isName_any n
  cases hs : nameB o
  · rw [hs] at h1
    have H1 := Lib.hid h1
    clear h1 h2 hs
    go_enter Tryz.func72, Tryz.ntmps72
    go_wp2_with (go_at_call 104; refine H1.out.mono ?_; rintro e w1 ⟨rfl, hb1⟩)
    go_ret
    exact ⟨rfl, hb1⟩
  · cases hw : nameB n
    all_goals
      rw [hs] at h1
      rw [hw] at h2
      have H1 := Lib.hid h1
      have H2 := Lib.hid h2
      clear h1 h2 hs hw
      go_enter Tryz.func72, Tryz.ntmps72
      go_wp2_with fail
      refine H1.out.mono ?_
      rintro e w1 ⟨rfl, hb1⟩
      go_wp2_with fail
      refine (H2.out _).mono ?_
      rintro e w2 ⟨rfl, hb2⟩
      go_wp2
      go_ret
      exact ⟨rfl, hb1.trans (hb2.mono hb1.size)⟩
end Go.Ju

/- Values and rows: what is valid. -/
namespace Go.Ju
open Go.RowKit
open Go.Proofs

def graphB (c : UInt8) : Bool := decide (32 ≤ c.toNat) && decide (c.toNat ≤ 126)
def dirty (l : List UInt8) : Bool := l.any fun x => !graphB x
theorem dirty_snoc {l : List UInt8} {k : Nat} {u : UInt8} (hu : l[k]? = some u) (h : dirty (l.take k) = false) : dirty (l.take (k + 1)) = !graphB u := by
  unfold dirty at *
  rw [List.take_add_one, hu]
  simp [h]
theorem dirty_of {l : List UInt8} {k : Nat} {u : UInt8} (hu : l[k]? = some u) (h : graphB u = false) : dirty l = true := by
  unfold dirty
  rw [List.any_eq_true]
  exact ⟨u, List.mem_of_getElem? hu, by rw [h]; rfl⟩
def runeB (c : Int) : Bool := decide (c < 32) || decide (126 < c)

theorem rune_any (c : Int) (w : World) : Calls Tryz.prog 163 #[.int .i32 c] w fun e w' => e = .returned (.bool (runeB c)) ∧ w = w' := by
  by_cases h1 : c < 32 <;> by_cases h2 : 126 < c
  all_goals
    go_enter Tryz.func163, Tryz.ntmps163
    go_wp2
    go_ret
    exact ⟨ret_bool (by simp [runeB, h1, h2]), rfl⟩

theorem decode_high (s : ByteArray) (pos : Nat) (h : pos < s.size) (ha : ¬ (s[pos]'h).toNat < 128) : 126 < (Utf8.decode s pos).1 := by
  have e : s.get! (pos + 0) = s[pos]'h := by
    show s.get! pos = _
    simp [ByteArray.get!, getElem!_pos, h]
    rfl
  simp only [Utf8.decode, e, ha, if_false]
  split
  · split
    · show 126 < _; omega
    · show 126 < Utf8.runeError; decide
  · split
    · split
      · rename_i hc
        simp only [Bool.and_eq_true, decide_eq_true_eq] at hc
        show 126 < _; omega
      · show 126 < Utf8.runeError; decide
    · split
      · split
        · rename_i hc
          simp only [Bool.and_eq_true, decide_eq_true_eq] at hc
          show 126 < _; omega
        · show 126 < Utf8.runeError; decide
      · show 126 < Utf8.runeError; decide

theorem run_next_high (P : Program) (w : World) (s : ByteArray) (pos : Nat) (ty : TypeId) (h : pos < s.size) :
    (Instr.next (.pointer (some ⟨w.heap.size, 0, none⟩)) true ty).run P (w.iter s pos) =
      .ok (.tuple #[.bool true, .int .i64 pos, .int .i32 (Utf8.decode s pos).1]) (w.iter s (pos + (Utf8.decode s pos).2)) := by
  simp only [Instr.next, getObj, setObj, Sem.run_bind, Sem.run, World.iter_heap, Result.andThen, h, if_true, World.iter_set]
  simp [goInt]

set_option maxRecDepth 100000 in
theorem strIndexFunc_any (s : ByteArray) (w : World) :
    Calls Tryz.prog 173 #[.string s, .func (.func 163) #[] #[], .bool true] w fun e w' =>
      (∃ i : Int, e = .returned (.int .i64 i) ∧ ((0 ≤ i) ↔ dirty s.data.toList = true)) ∧ Below w.heap.size w w' := by
  have HB : ∀ pos, Below w.heap.size w (w.iter s pos) := fun pos => (Below.refl _ _).alloc (Nat.le_refl _) _
  go_enter Tryz.func173, Tryz.ntmps173
  go_wp2
  go_loopw [7, 8] (fun _ _ wr => ∃ k : Nat, k ≤ s.size ∧ wr = w.iter s k ∧ Hid (dirty (s.data.toList.take k) = false)) (fun _ _ wr => match wr.heap[w.heap.size]? with | some (.stringIter _ p) => s.size - p | _ => 0)
  case atStart => exact ⟨0, Nat.zero_le _, rfl, Lib.hid rfl⟩
  case round =>
    obtain ⟨k, hk, rfl, HA⟩ := hrel
    by_cases hlt : k < s.size
    · have hu : s.data.toList[k]? = some s[k] := by
        rw [List.getElem?_eq_getElem (by simpa using hlt)]
        rfl
      have HU := Lib.hid hu
      clear hu
      by_cases h128 : (s[k]'hlt).toNat < 128
      · have hnext := run_next_ascii (P := Tryz.prog) w s k 0 hlt h128
        have hr := rune_any ((s[k]'hlt).toNat : Int)
        cases hg : graphB s[k]
        · have hrb : runeB ((s[k]'hlt).toNat : Int) = true := by
            simp only [graphB, Bool.and_eq_false_iff, decide_eq_false_iff_not] at hg
            simp only [runeB, Bool.or_eq_true, decide_eq_true_eq]
            omega
          rw [hrb] at hr
          have HR := Lib.hid hr
          have HG := Lib.hid hg
          have HBk := HB (k + 1)
          clear hr hg hrb HB
          go_wp2_with (go_at_call 163; refine (HR.out _).mono ?_; rintro e w2 ⟨rfl, rfl⟩)
          go_ret
          refine ⟨⟨k, rfl, ?_⟩, HBk⟩
          simp [dirty_of HU.out HG.out]
        · have hrb : runeB ((s[k]'hlt).toNat : Int) = false := by
            simp only [graphB, Bool.and_eq_true, decide_eq_true_eq] at hg
            simp only [runeB, Bool.or_eq_false_iff, decide_eq_false_iff_not]
            omega
          rw [hrb] at hr
          have HR := Lib.hid hr
          have ht := dirty_snoc HU.out HA.out
          rw [hg] at ht
          have HT := Lib.hid ht
          clear hr hg hrb HB ht
          go_wp2_with (go_at_call 163; refine (HR.out _).mono ?_; rintro e w2 ⟨rfl, rfl⟩)
          go_roundw
          case rel => exact ⟨k + 1, by omega, rfl, HT⟩
          case measure => simp [World.iter_heap]; omega
      · have hnext := run_next_high Tryz.prog w s k 0 hlt
        have hd := decode_high s k hlt h128
        have hg : graphB s[k] = false := by
          simp only [graphB, Bool.and_eq_false_iff, decide_eq_false_iff_not]
          omega
        generalize Utf8.decode s k = dw at hnext hd
        have hr := rune_any (dw.1 : Int)
        have hrb : runeB (dw.1 : Int) = true := by
          simp only [runeB, Bool.or_eq_true, decide_eq_true_eq]
          omega
        rw [hrb] at hr
        have HR := Lib.hid hr
        have HG := Lib.hid hg
        have HBk := HB (k + dw.2)
        clear hr hg hrb HB hd
        go_wp2_with (go_at_call 163; refine (HR.out _).mono ?_; rintro e w2 ⟨rfl, rfl⟩)
        go_ret
        refine ⟨⟨k, rfl, ?_⟩, HBk⟩
        simp [dirty_of HU.out HG.out]
    · have hnext := run_next_end (P := Tryz.prog) w s k 0 hlt
      have HBk := HB k
      clear HB
      go_wp2
      go_ret
      refine ⟨⟨-1, rfl, ?_⟩, HBk⟩
      have hks : k = s.data.toList.length := by simp; omega
      have := HA.out
      rw [hks, List.take_length] at this
      simp [this]
theorem strIndex_any (s : ByteArray) (w : World) :
    Calls Tryz.prog 171 #[.string s, .func (.func 163) #[] #[]] w fun e w' =>
      (∃ i : Int, e = .returned (.int .i64 i) ∧ ((0 ≤ i) ↔ dirty s.data.toList = true)) ∧ Below w.heap.size w w' := by
  have H1 := Lib.hid (strIndexFunc_any s w)
  go_enter Tryz.func171, Tryz.ntmps171
  go_wp2_with (go_at_call 173; refine H1.out.mono ?_; rintro e w1 ⟨⟨i, rfl, hi⟩, hb1⟩)
  go_ret
  exact ⟨⟨i, rfl, hi⟩, hb1⟩

theorem strContains_any (s : ByteArray) (w : World) :
    Calls Tryz.prog 162 #[.string s, .func (.func 163) #[] #[]] w fun e w' => e = .returned (.bool (dirty s.data.toList)) ∧ Below w.heap.size w w' := by
  have H1 := Lib.hid (strIndex_any s w)
  go_enter Tryz.func162, Tryz.ntmps162
  go_wp2_with (go_at_call 171; refine H1.out.mono ?_; rintro e w1 ⟨⟨i, rfl, hi⟩, hb1⟩)
  go_ret
  exact ⟨ret_bool (by by_cases h : 0 ≤ i <;> simp_all), hb1⟩

def strB (s : ByteArray) : Bool := decide (s.size ≤ 200) && !dirty s.data.toList

theorem isString_any (s : ByteArray) (w : World) : Calls Tryz.prog 139 #[.string s] w fun e w' => e = .returned (.bool (strB s)) ∧ Below w.heap.size w w' := by
  by_cases h2 : s.size ≤ 200
  · have H1 := Lib.hid (strContains_any s w)
    go_enter Tryz.func139, Tryz.ntmps139
    go_wp2_with (go_at_call 162; refine H1.out.mono ?_; rintro e w1 ⟨rfl, hb1⟩)
    go_ret
    exact ⟨ret_bool (by simp [strB, h2]), hb1⟩
  · go_enter Tryz.func139, Tryz.ntmps139
    go_wp2
    go_ret
    exact ⟨ret_bool (by simp [strB, h2]), Below.refl _ _⟩

def intB (n : Int) : Bool := decide (-1099511627776 ≤ n) && decide (n ≤ 1099511627776)

theorem isInt_any (n : Int) (w : World) : Calls Tryz.prog 138 #[.int .i64 n] w fun e w' => e = .returned (.bool (intB n)) ∧ w = w' := by
  by_cases h1 : -1099511627776 ≤ n <;> by_cases h2 : n ≤ 1099511627776
  all_goals
    go_enter Tryz.func138, Tryz.ntmps138
    go_wp2
    go_ret
    exact ⟨ret_bool (by simp [intB, h1, h2]), rfl⟩

/-! ### values -/
structure Val where
  kind : Int
  n : Int
  text : ByteArray
  deriving DecidableEq, Inhabited
def Val.cells (v : Val) : List Value := [.int .i64 v.kind, .int .i64 v.n, .string v.text]
def noText (t : ByteArray) : Bool := t.toList.isEmpty
def validV (v : Val) : Bool :=
  if v.kind = 0 then decide (v.n = 0) && noText v.text
  else if v.kind = 1 then noText v.text && intB v.n
  else if v.kind = 2 then decide (v.n = 0) && strB v.text
  else if v.kind = 3 then noText v.text && (decide (v.n = 0) || decide (v.n = 1))
  else false

/-- The variable value.Null, as the program's text lays it. -/
def Nul (w : World) : Prop := ∃ t fr, w.heap[0]? = some (.cells #[.int .i64 0, .int .i64 0, .string ⟨#[]⟩] t fr)
theorem Nul.cells {w : World} (h : Nul w) : w.cell? ⟨0, 0, none⟩ = some (.int .i64 0) ∧ w.cell? ⟨0, 1, none⟩ = some (.int .i64 0) ∧ w.cell? ⟨0, 2, none⟩ = some (.string ⟨#[]⟩) := by
  obtain ⟨t, fr, h⟩ := h
  exact ⟨by simp [World.cell?, h], by simp [World.cell?, h], by simp [World.cell?, h]⟩
theorem Nul.lt {w : World} (h : Nul w) : 0 < w.heap.size := by
  obtain ⟨t, fr, h⟩ := h
  exact (Array.getElem?_eq_some_iff.1 h).1
theorem Nul.below {w w' : World} (h : Nul w) (hb : Below w.heap.size w w') : Nul w' := by
  have hl := h.lt
  obtain ⟨t, fr, h⟩ := h
  exact ⟨t, fr, (hb.block 0 hl).trans h⟩
theorem Nul.ev {G G' : Gh} {w w' : World} (h : Nul w) (hG : G 0 = none) (he : Ev G w G' w') : Nul w' ∧ G' 0 = none := by
  have hl := h.lt
  obtain ⟨t, fr, h⟩ := h
  refine ⟨⟨t, fr, (he.keep 0 hl hG).trans h⟩, ?_⟩
  cases hg : G' 0 with
  | none => rfl
  | some o =>
    rcases he.fresh 0 (by simp [hg]) with h1 | h1
    · exact absurd hG h1
    · omega

set_option maxHeartbeats 400000 in
theorem Valid_any (v : Val) (w : World) (hn : Nul w) : Calls Tryz.prog 119 #[.agg #[.int .i64 v.kind, .int .i64 v.n, .string v.text]] w fun e w' => e = .returned (.bool (validV v)) ∧ Below w.heap.size w w' := by
  obtain ⟨k, n, t⟩ := v
  obtain ⟨c0, c1, c2⟩ := hn.cells
  have hl := hn.lt
  have HB : Hid (∀ o, Below w.heap.size w (w.alloc o)) := fun o => (Below.refl _ _).alloc (Nat.le_refl _) _
  by_cases h0 : k = 0
  · subst h0
    by_cases hn0 : n = 0
    · subst hn0
      cases ht : noText t
      all_goals
        have HT := Lib.hid ht
        have hte : t.toList.isEmpty = noText t := rfl
        rw [ht] at hte
        clear ht
        go_enter Tryz.func119, Tryz.ntmps119
        go_wp2
        go_ret
        exact ⟨ret_bool (by simp [validV, HT.out]), HB.out _⟩
    · have hnb : (n == 0) = false := by simpa using hn0
      have HN := Lib.hid hn0
      clear hn0
      go_enter Tryz.func119, Tryz.ntmps119
      go_wp2
      go_ret
      exact ⟨ret_bool (by simp [validV, HN.out]), HB.out _⟩
  · by_cases h1 : k = 1
    · subst h1
      cases ht : noText t
      · have HT := Lib.hid ht
        have hte : t.toList.isEmpty = noText t := rfl
        rw [ht] at hte
        clear ht
        go_enter Tryz.func119, Tryz.ntmps119
        go_wp2
        go_ret
        exact ⟨ret_bool (by simp [validV, HT.out]), HB.out _⟩
      · have HT := Lib.hid ht
        have hte : t.toList.isEmpty = noText t := rfl
        rw [ht] at hte
        have HI := Lib.hid (isInt_any n)
        clear ht
        go_enter Tryz.func119, Tryz.ntmps119
        go_wp2_with (go_at_call 138; refine (HI.out _).mono ?_; rintro e w1 ⟨rfl, rfl⟩)
        go_ret
        exact ⟨ret_bool (by simp [validV, HT.out]), HB.out _⟩
    · by_cases h2 : k = 2
      · subst h2
        by_cases hn0 : n = 0
        · subst hn0
          have HI := Lib.hid (isString_any t)
          go_enter Tryz.func119, Tryz.ntmps119
          go_wp2_with (go_at_call 139; refine (HI.out _).mono ?_; rintro e w1 ⟨rfl, hb1⟩)
          go_ret
          exact ⟨ret_bool (by simp [validV]), (HB.out _).trans (hb1.mono (by simp))⟩
        · have hnb : (n == 0) = false := by simpa using hn0
          have HN := Lib.hid hn0
          clear hn0
          go_enter Tryz.func119, Tryz.ntmps119
          go_wp2
          go_ret
          exact ⟨ret_bool (by simp [validV, HN.out]), HB.out _⟩
      · by_cases h3 : k = 3
        · subst h3
          cases ht : noText t
          · have HT := Lib.hid ht
            have hte : t.toList.isEmpty = noText t := rfl
            rw [ht] at hte
            clear ht
            go_enter Tryz.func119, Tryz.ntmps119
            go_wp2
            go_ret
            exact ⟨ret_bool (by simp [validV, HT.out]), HB.out _⟩
          · have HT := Lib.hid ht
            have hte : t.toList.isEmpty = noText t := rfl
            rw [ht] at hte
            clear ht
            by_cases hn0 : n = 0
            · subst hn0
              go_enter Tryz.func119, Tryz.ntmps119
              go_wp2
              go_ret
              exact ⟨ret_bool (by simp [validV, HT.out]), HB.out _⟩
            · have hnb : (n == 0) = false := by simpa using hn0
              have HN := Lib.hid hn0
              clear hn0
              go_enter Tryz.func119, Tryz.ntmps119
              go_wp2
              go_ret
              exact ⟨ret_bool (by simp only [validV, HT.out, HN.out]; simp; exact Bool.beq_eq_decide_eq _ _), HB.out _⟩
        · have b0 : (k == 0) = false := by simpa using h0
          have b1 : (k == 1) = false := by simpa using h1
          have b2 : (k == 2) = false := by simpa using h2
          have b3 : (k == 3) = false := by simpa using h3
          have H0 := Lib.hid h0
          have H1 := Lib.hid h1
          have H2 := Lib.hid h2
          have H3 := Lib.hid h3
          clear h0 h1 h2 h3
          go_enter Tryz.func119, Tryz.ntmps119
          go_wp2
          go_ret
          exact ⟨ret_bool (by simp [validV, H0.out, H1.out, H2.out, H3.out]), HB.out _⟩
/-! ### rows -/
theorem flat_get {α : Type} (f : α → List Value) (c : Nat) (hc : ∀ x, (f x).length = c) : ∀ (l : List α) (k j : Nat) (x : α), l[k]? = some x → j < c → (l.flatMap f)[k * c + j]? = (f x)[j]?
  | [], k, j, x, h, _ => by simp at h
  | y :: r, 0, j, x, h, hj => by
    simp at h
    subst h
    rw [List.flatMap_cons, List.getElem?_append_left (by rw [hc]; omega)]
    simp
  | y :: r, k + 1, j, x, h, hj => by
    simp at h
    rw [List.flatMap_cons, List.getElem?_append_right (by rw [hc, Nat.add_mul]; omega), hc, show (k + 1) * c + j - c = k * c + j from by rw [Nat.add_mul]; omega]
    exact flat_get f c hc r k j x h hj
theorem flat_len {α : Type} (f : α → List Value) (c : Nat) (hc : ∀ x, (f x).length = c) (l : List α) : (l.flatMap f).length = l.length * c := by
  induction l with
  | nil => simp
  | cons x r ih => rw [List.flatMap_cons, List.length_append, hc, ih, List.length_cons, Nat.add_mul]; omega
def rowCells (l : List Val) : List Value := l.flatMap Val.cells
theorem rowCells_len (l : List Val) : (rowCells l).length = l.length * 3 := flat_len _ 3 (fun _ => rfl) l
/-- Value v is a row with the values l. -/
def RowAt (G : Gh) (v : Value) (l : List Val) : Prop := ∃ A c, v = .slice A l.length c ∧ l.length ≤ c ∧ Span G A (rowCells l)
theorem RowAt.sub {G G' : Gh} {v : Value} {l : List Val} (h : RowAt G v l) (hs : ∀ b o, G b = some o → G' b = some o) : RowAt G' v l := by
  obtain ⟨A, c, hv, hc, hp⟩ := h
  exact ⟨A, c, hv, hc, hp.sub hs⟩
theorem Span.val {G : Gh} {w : World} {A : Option Addr} {l : List Val} (h : Span G A (rowCells l)) (hG : Holds G w) {k : Nat} {v : Val} (hk : l[k]? = some v) :
    ∃ b o, A = some ⟨b, o, none⟩ ∧ b < w.heap.size ∧ w.cell? ⟨b, o + k * 3, none⟩ = some (.int .i64 v.kind) ∧ w.cell? ⟨b, o + k * 3 + 1, none⟩ = some (.int .i64 v.n) ∧ w.cell? ⟨b, o + k * 3 + 2, none⟩ = some (.string v.text) := by
  have g : ∀ j, j < 3 → (rowCells l)[k * 3 + j]? = v.cells[j]? := fun j hj => flat_get _ 3 (fun _ => rfl) l k j v hk hj
  rcases h with h | ⟨b, o, cs, t, fr, rfl, hb, hc⟩
  · have := g 0 (by omega)
    rw [h] at this
    simp [Val.cells] at this
  · refine ⟨b, o, rfl, hG.lt hb, hG.cell hb ?_, ?_, ?_⟩
    · exact hc _ _ (by rw [show k * 3 = k * 3 + 0 from rfl, g 0 (by omega)]; rfl)
    · rw [Nat.add_assoc]; exact hG.cell hb (hc _ _ (by rw [g 1 (by omega)]; rfl))
    · rw [Nat.add_assoc]; exact hG.cell hb (hc _ _ (by rw [g 2 (by omega)]; rfl))

theorem valid1_any (v : Val) (w : World) (hn : Nul w) : Calls Tryz.prog 118 #[.agg #[.int .i64 v.kind, .int .i64 v.n, .string v.text]] w fun e w' => e = .returned (.bool (!validV v)) ∧ Below w.heap.size w w' := by
  have hb : Below w.heap.size w (w.alloc (.cells #[.int .i64 v.kind, .int .i64 v.n, .string v.text] 82)) := (Below.refl _ _).alloc (Nat.le_refl _) _
  have HI := Lib.hid (Valid_any v _ (hn.below hb))
  have HB := Lib.hid hb
  clear hb
  go_enter Tryz.func118, Tryz.ntmps118
  go_wp2_with (go_at_call 119; refine HI.out.mono ?_; rintro e w1 ⟨rfl, hb1⟩)
  go_ret
  exact ⟨rfl, HB.out.trans (hb1.mono (by simp))⟩

def allV (l : List Val) : Bool := l.all validV
theorem allV_snoc {l : List Val} {k : Nat} {v : Val} (hv : l[k]? = some v) (h : allV (l.take k) = true) : allV (l.take (k + 1)) = validV v := by
  unfold allV at *
  rw [List.take_add_one, hv]
  simp [h]
theorem allV_not {l : List Val} {k : Nat} {v : Val} (hv : l[k]? = some v) (h : validV v = false) : allV l = false := by
  unfold allV
  rw [List.all_eq_false]
  exact ⟨v, List.mem_of_getElem? hv, by simp [h]⟩

theorem indexV (G : Gh) (A : Option Addr) (l : List Val) (c : Nat) (w : World) (hG : Holds G w) (hs : Span G A (rowCells l)) (hn : Nul w) (hl : l.length ≤ 9223372036854775807) :
    Calls Tryz.prog 137 #[.slice A l.length c, .func (.func 118) #[] #[]] w fun e w' => (∃ i : Int, e = .returned (.int .i64 i) ∧ ((0 ≤ i) ↔ allV l = false)) ∧ Below w.heap.size w w' := by
  obtain ⟨n, hnl⟩ : ∃ n, n = l.length := ⟨_, rfl⟩
  have HN := Lib.hid hnl
  rw [← hnl] at hl ⊢
  have HS : Hid (∀ k v, l[k]? = some v → _) := fun k v hk => hs.val hG hk
  clear hnl hs
  go_enter Tryz.func137, Tryz.ntmps137
  go_wp2
  go_loopw [8, 5] (fun t _ wr => ∃ k : Nat, k ≤ n ∧ t = .int .i64 k ∧ Hid (allV (l.take k) = true) ∧ Below w.heap.size w wr) (fun t _ _ => n - (intOf t).toNat)
  case atStart => exact ⟨0, Nat.zero_le _, rfl, Lib.hid rfl, Below.refl _ _⟩
  case round =>
    obtain ⟨k, hk, rfl, HA, hb⟩ := hrel
    by_cases hlt : k < n
    · have hlt' : k < l.length := by rw [← HN.out]; exact hlt
      obtain ⟨u, hu⟩ : ∃ u, l[k]? = some u := ⟨l[k], List.getElem?_eq_getElem hlt'⟩
      obtain ⟨b, o, rfl, hbl, c0, c1, c2⟩ := HS.out k u hu
      have d0 : wr.cell? _ = _ := (hb.cell (p := ⟨b, o + k * 3, none⟩) hbl).trans c0
      have d1 : wr.cell? _ = _ := (hb.cell (p := ⟨b, o + k * 3 + 1, none⟩) hbl).trans c1
      have d2 : wr.cell? _ = _ := (hb.cell (p := ⟨b, o + k * 3 + 2, none⟩) hbl).trans c2
      have hp := valid1_any u wr (hn.below hb)
      have ht := allV_snoc hu HA.out
      have HU := Lib.hid hu
      clear hlt' hu c0 c1 c2
      cases hv : validV u
      all_goals
        rw [hv] at hp ht
        have HP := Lib.hid hp
        have HT := Lib.hid ht
        have HV := Lib.hid hv
        clear hp ht hv
        go_wp2_with (go_at_call 118; refine HP.out.mono ?_; rintro e w1 ⟨rfl, hb1⟩)
      · go_ret
        refine ⟨⟨k, rfl, ?_⟩, hb.trans (hb1.mono hb.size)⟩
        simp [allV_not HU.out HV.out]
      · go_roundw
        case rel => exact ⟨k + 1, by omega, by go_num, HT, hb.trans (hb1.mono hb.size)⟩
        case measure => simp [intOf]; omega
    · have hge : n ≤ k := by omega
      clear hlt
      go_wp2
      go_ret
      refine ⟨⟨-1, rfl, ?_⟩, hb⟩
      have hkn : k = n := by omega
      have := HA.out
      rw [hkn, HN.out, List.take_length] at this
      simp [this]

theorem containsV (G : Gh) (A : Option Addr) (l : List Val) (c : Nat) (w : World) (hG : Holds G w) (hs : Span G A (rowCells l)) (hn : Nul w) (hl : l.length ≤ 9223372036854775807) :
    Calls Tryz.prog 117 #[.slice A l.length c, .func (.func 118) #[] #[]] w fun e w' => e = .returned (.bool (!allV l)) ∧ Below w.heap.size w w' := by
  have H1 := Lib.hid (indexV G A l c w hG hs hn hl)
  clear hs hG
  go_enter Tryz.func117, Tryz.ntmps117
  go_wp2_with (go_at_call 137; refine H1.out.mono ?_; rintro e w1 ⟨⟨i, rfl, hi⟩, hb1⟩)
  go_ret
  exact ⟨ret_bool (by by_cases h : 0 ≤ i <;> simp_all), hb1⟩

theorem valids_any (G : Gh) (A : Option Addr) (l : List Val) (c : Nat) (w : World) (hG : Holds G w) (hs : Span G A (rowCells l)) (hn : Nul w) (hl : l.length ≤ 9223372036854775807) :
    Calls Tryz.prog 105 #[.slice A l.length c] w fun e w' => e = .returned (.bool (allV l)) ∧ Below w.heap.size w w' := by
  have H1 := Lib.hid (containsV G A l c w hG hs hn hl)
  clear hs hG
  go_enter Tryz.func105, Tryz.ntmps105
  go_wp2_with (go_at_call 117; refine H1.out.mono ?_; rintro e w1 ⟨rfl, hb1⟩)
  go_ret
  exact ⟨ret_bool (by simp), hb1⟩

def rowB (l : List Val) : Bool := decide (l.length ≤ 20) && allV l

theorem isRow_any (G : Gh) (A : Option Addr) (l : List Val) (c : Nat) (w : World) (hG : Holds G w) (hs : Span G A (rowCells l)) (hn : Nul w) (hl : l.length ≤ 9223372036854775807) :
    Calls Tryz.prog 73 #[.slice A l.length c] w fun e w' => e = .returned (.bool (rowB l)) ∧ Below w.heap.size w w' := by
  by_cases h20 : l.length ≤ 20
  · have H1 := Lib.hid (valids_any G A l c w hG hs hn hl)
    clear hs hG
    go_enter Tryz.func73, Tryz.ntmps73
    go_wp2_with (go_at_call 105; refine H1.out.mono ?_; rintro e w1 ⟨rfl, hb1⟩)
    go_ret
    exact ⟨ret_bool (by simp [rowB, h20]), hb1⟩
  · clear hs hG
    go_enter Tryz.func73, Tryz.ntmps73
    go_wp2
    go_ret
    exact ⟨ret_bool (by simp [rowB, h20]), Below.refl _ _⟩
end Go.Ju

/- Clones of slices. -/
namespace Go.Ju
open Go.RowKit
open Go.Proofs

/-- G' knows all that G knows. -/
def Sub (G G' : Gh) : Prop := ∀ b o, G b = some o → G' b = some o
theorem Sub.refl (G : Gh) : Sub G G := fun _ _ h => h
theorem Sub.trans {G G' G'' : Gh} (h : Sub G G') (k : Sub G' G'') : Sub G G'' := fun b o hb => k b o (h b o hb)
theorem Sub.put_new {G : Gh} {w : World} (hG : Holds G w) (o : Obj) : Sub G (G.put w.heap.size o) := fun _ _ hb => Gh.put_some G hb (hG.ne_size hb)
theorem Appended.sub {G G' : Gh} {w w' : World} {e size n : Nat} {v v' : Value} {ys : List Value} (h : Appended G w e size v n ys v' G' w') (hG : Holds G w) (hv : ∀ g o, v.ownBlock = some g → G g = some o → False) : Sub G G' := fun b o hb => by
  rw [h.2.2.1 b (fun e => hv b o e.symm hb) (hG.ne_size hb)]
  exact hb

/-- A call that makes new blocks, of which all is known that is handed back, and turns nothing old. -/
def Makes (w : World) (R : Value → Gh → Prop) (e : Ending) (w' : World) : Prop := ∃ v Gr, e = .returned v ∧ Below w.heap.size w w' ∧ Holds Gr w' ∧ (∀ b, Gr b ≠ none → w.heap.size ≤ b) ∧ R v Gr
def newPart (n : Nat) (G : Gh) : Gh := fun b => if n ≤ b then G b else none
theorem newPart_at {n b : Nat} (G : Gh) (h : n ≤ b) : newPart n G b = G b := by simp [newPart, h]
theorem newPart_ge {n b : Nat} {G : Gh} (h : newPart n G b ≠ none) : n ≤ b := by
  unfold newPart at h
  split at h
  · assumption
  · exact absurd rfl h
theorem Holds.newPart {G : Gh} {w : World} (h : Holds G w) (n : Nat) : Holds (newPart n G) w := fun b o hb => by
  rw [newPart_at _ (newPart_ge (by rw [hb]; simp))] at hb
  exact h b o hb
theorem Ev.below_sub {G G' : Gh} {w w' : World} (h : Ev G w G' w') (hG : Holds G w) (hs : Sub G G') : Below w.heap.size w w' :=
  ⟨h.os, h.tape, h.output, h.size, fun b hb => by
    cases hg : G b with
    | none => exact h.keep b hb hg
    | some o => rw [hG b o hg, h.holds b o (hs b o hg)]⟩

theorem cell_ok_val (v : Val) : ∀ u ∈ v.cells, u.oneCell' = true := by
  intro u hu
  simp only [Val.cells, List.mem_cons, List.not_mem_nil, or_false] at hu
  rcases hu with rfl | rfl | rfl <;> rfl
theorem cell_ok_row (l : List Val) : ∀ u ∈ rowCells l, u.oneCell' = true := by
  intro u hu
  obtain ⟨v, _, h⟩ := List.mem_flatMap.1 hu
  exact cell_ok_val v u h

theorem Tryz.infoVal : (Tryz.prog.info? 82).map (fun i => (i.zero, i.size, i.bytes)) = some (some (.agg #[.int .i64 0, .int .i64 0, .string ⟨#[]⟩]), 3, 32) := by kernel_rfl
theorem Tryz.infoVer : (Tryz.prog.info? 98).map (fun i => (i.zero, i.size, i.bytes)) = some (some (.agg #[.int .i64 0, .bool false, .slice none 0 0]), 3, 40) := by kernel_rfl

/-- slices.Clone at rows' values: from wherever the cells lie. -/
theorem slClone_any (G : Gh) (A : Option Addr) (n c : Nat) (xs : List Value) (w : World) (hG : Holds G w) (hs : Span G A xs) (hx : xs.length = n * 3) (h1 : ∀ u ∈ xs, u.oneCell' = true) (hA : A = none → n = 0) (hl : n * 32 ≤ 140737488355328) :
    Calls Tryz.prog 79 #[.slice A n c] w (Makes w fun v Gr => Own Gr 82 3 v n xs) := by
  cases A with
  | none =>
    obtain rfl := hA rfl
    have hx0 : xs = [] := List.eq_nil_of_length_eq_zero (by simpa using hx)
    have hq := fun (w : World) => Lib.run_eql_slice_nil (P := Tryz.prog) w 41 82 none 0 c 0 0 Tryz.underlying41
    clear hG hs
    go_enter Tryz.func79, Tryz.ntmps79
    go_wp2
    go_ret
    subst hx0
    exact ⟨_, Gh.nil, rfl, Below.refl _ _, Holds.nil _, fun b h => absurd rfl h, Own.nil _ _ _⟩
  | some a =>
    have hq := fun (w : World) => Lib.run_eql_slice_nil (P := Tryz.prog) w 41 82 (some a) n c 0 0 Tryz.underlying41
    obtain ⟨i0, hi, hz0, hz1, hz2⟩ := info_parts Tryz.infoVal
    have hev := (Ev.refl hG).alloc (.cells #[] 82)
    have hsub := Sub.put_new hG (.cells #[] 82)
    have hown : Own (G.put w.heap.size (.cells #[] 82)) 82 3 (.slice (some ⟨w.heap.size, 0, none⟩) 0 0) 0 [] :=
      ⟨rfl, .inr ⟨w.heap.size, 0, #[], rfl, Gh.put_same _ _ _, Nat.le_refl _, by unfold maxLen; omega, rfl, rfl⟩⟩
    have hs1 := hs.sub hsub
    have HL := Lib.hid hl
    have H1 := Lib.hid h1
    have HX := Lib.hid hx
    clear hl h1 hx
    go_enter Tryz.func79, Tryz.ntmps79
    go_wp2_with (at_builtin; refine wpList_append_ev rfl _ _ 41 rfl hev.holds 82 i0 _ 3 32 Tryz.underlying41 hi hz0 hz1 hz2 rfl (by decide) _ 0 [] rfl hown (some a) n c xs rfl HX.out hs1 (by simp) H1.out (by unfold maxLen; have := HL.out; omega) (by have := HL.out; omega) ?_; intro v' G' w1 happ)
    go_ret
    have hsub2 : Sub G G' := by
      intro b o hb
      have hb' := hG.lt hb
      have q1 : some b ≠ (Value.slice (some ⟨w.heap.size, 0, none⟩) 0 0).ownBlock := fun e => by
        injection e with e
        change b = w.heap.size at e
        omega
      have q2 : b ≠ (w.alloc (.cells #[] 82)).heap.size := by rw [World.size_alloc]; omega
      rw [happ.2.2.1 b q1 q2, Gh.put_other _ _ (by omega)]
      exact hb
    have hfin := hev.trans happ.1
    refine ⟨v', newPart w.heap.size G', rfl, hfin.below_sub hG hsub2, hfin.holds.newPart _, fun b hb => newPart_ge hb, ?_⟩
    have ho : Own G' 82 3 v' n xs := by simpa using happ.2.1
    refine ho.keep fun b o hb hg => ?_
    rw [newPart_at _ ?_]
    · exact hg
    · rcases happ.2.2.2.1 with e | e
      · rw [hb] at e
        injection e with e
        change b = w.heap.size at e
        omega
      · rw [hb] at e
        injection e with e
        rw [World.size_alloc] at e
        omega
/-- slices.Clone at versions. -/
theorem vsClone_any (G : Gh) (A : Option Addr) (n c : Nat) (xs : List Value) (w : World) (hG : Holds G w) (hs : Span G A xs) (hx : xs.length = n * 3) (h1 : ∀ u ∈ xs, u.oneCell' = true) (hA : A = none → n = 0) (hl : n * 40 ≤ 140737488355328) :
    Calls Tryz.prog 102 #[.slice A n c] w (Makes w fun v Gr => Own Gr 98 3 v n xs) := by
  cases A with
  | none =>
    obtain rfl := hA rfl
    have hx0 : xs = [] := List.eq_nil_of_length_eq_zero (by simpa using hx)
    have hq := fun (w : World) => Lib.run_eql_slice_nil (P := Tryz.prog) w 99 98 none 0 c 0 0 Tryz.underlying99
    clear hG hs
    go_enter Tryz.func102, Tryz.ntmps102
    go_wp2
    go_ret
    subst hx0
    exact ⟨_, Gh.nil, rfl, Below.refl _ _, Holds.nil _, fun b h => absurd rfl h, Own.nil _ _ _⟩
  | some a =>
    have hq := fun (w : World) => Lib.run_eql_slice_nil (P := Tryz.prog) w 99 98 (some a) n c 0 0 Tryz.underlying99
    obtain ⟨i0, hi, hz0, hz1, hz2⟩ := info_parts Tryz.infoVer
    have hev := (Ev.refl hG).alloc (.cells #[] 98)
    have hsub := Sub.put_new hG (.cells #[] 98)
    have hown : Own (G.put w.heap.size (.cells #[] 98)) 98 3 (.slice (some ⟨w.heap.size, 0, none⟩) 0 0) 0 [] :=
      ⟨rfl, .inr ⟨w.heap.size, 0, #[], rfl, Gh.put_same _ _ _, Nat.le_refl _, by unfold maxLen; omega, rfl, rfl⟩⟩
    have hs1 := hs.sub hsub
    have HL := Lib.hid hl
    have H1 := Lib.hid h1
    have HX := Lib.hid hx
    clear hl h1 hx
    go_enter Tryz.func102, Tryz.ntmps102
    go_wp2_with (at_builtin; refine wpList_append_ev rfl _ _ 99 rfl hev.holds 98 i0 _ 3 40 Tryz.underlying99 hi hz0 hz1 hz2 rfl (by decide) _ 0 [] rfl hown (some a) n c xs rfl HX.out hs1 (by simp) H1.out (by unfold maxLen; have := HL.out; omega) (by have := HL.out; omega) ?_; intro v' G' w1 happ)
    go_ret
    have hsub2 : Sub G G' := by
      intro b o hb
      have hb' := hG.lt hb
      have q1 : some b ≠ (Value.slice (some ⟨w.heap.size, 0, none⟩) 0 0).ownBlock := fun e => by
        injection e with e
        change b = w.heap.size at e
        omega
      have q2 : b ≠ (w.alloc (.cells #[] 98)).heap.size := by rw [World.size_alloc]; omega
      rw [happ.2.2.1 b q1 q2, Gh.put_other _ _ (by omega)]
      exact hb
    have hfin := hev.trans happ.1
    refine ⟨v', newPart w.heap.size G', rfl, hfin.below_sub hG hsub2, hfin.holds.newPart _, fun b hb => newPart_ge hb, ?_⟩
    have ho : Own G' 98 3 v' n xs := by simpa using happ.2.1
    refine ho.keep fun b o hb hg => ?_
    rw [newPart_at _ ?_]
    · exact hg
    · rcases happ.2.2.2.1 with e | e
      · rw [hb] at e
        injection e with e
        change b = w.heap.size at e
        omega
      · rw [hb] at e
        injection e with e
        rw [World.size_alloc] at e
        omega

/-- valid.Clone. -/
theorem clone_any (G : Gh) (A : Option Addr) (l : List Val) (c : Nat) (w : World) (hG : Holds G w) (hs : Span G A (rowCells l)) (hA : A = none → l.length = 0) (hl : l.length * 32 ≤ 140737488355328) :
    Calls Tryz.prog 42 #[.slice A l.length c] w (Makes w fun v Gr => RowAt Gr v l) := by
  have H1 := Lib.hid (slClone_any G A l.length c (rowCells l) w hG hs (rowCells_len l) (cell_ok_row l) hA hl)
  clear hs hG hA
  go_enter Tryz.func42, Tryz.ntmps42
  go_wp2_with (go_at_call 79; refine H1.out.mono ?_; rintro e w1 ⟨v, Gr, rfl, hev, hho, hfr, hown⟩)
  go_ret
  obtain ⟨A', c', hv, hc, hsp⟩ := hown.form
  exact ⟨v, Gr, rfl, hev, hho, hfr, A', c', hv, hc, hsp⟩
end Go.Ju

/- The small predicates on names and numbers. -/
import Derived.Test.YthdnjokioboehaaGreatDoorProg
import Derived.Test.YthdnjokioboehaaGreatDoorApp
import Derived.WalkKit
import Derived.WalkLawsBesides
import Derived.WalkSpells
import Derived.LoopTactic
import Derived.Lib.Hide
import Derived.Laws.BytesString
import Derived.Laws.IdiomStrings
import Derived.Lib.Strings
namespace Go.Ju
open Go.RowKit
open Go.Proofs

def smallB (c : UInt8) : Bool := decide (97 ≤ (c.toNat : Int)) && decide ((c.toNat : Int) ≤ 122)
def digitB (c : UInt8) : Bool := decide (48 ≤ (c.toNat : Int)) && decide ((c.toNat : Int) ≤ 57)
def partB (c : UInt8) : Bool := smallB c || digitB c || (c == 95)
def numB (n : Int) : Bool := decide (1 ≤ n) && decide (n ≤ 1099511627776)

theorem ret_bool {a b : Bool} (h : a = b) : Ending.returned (.bool a) = .returned (.bool b) := by rw [h]
theorem ret_int {k : IntKind} {a b : Int} (h : a = b) : Ending.returned (.int k a) = .returned (.int k b) := by rw [h]

theorem small_any (c : UInt8) (w : World) : Calls Tryz.prog 158 #[.int .u8 c.toNat] w fun e w' => e = .returned (.bool (smallB c)) ∧ w = w' := by
  by_cases h1 : 97 ≤ (c.toNat : Int) <;> by_cases h2 : (c.toNat : Int) ≤ 122
  all_goals
    go_enter Tryz.func158, Tryz.ntmps158
    go_wp2
    go_ret
    exact ⟨ret_bool (by simp [smallB, h1, h2]), rfl⟩

theorem digit_any (c : UInt8) (w : World) : Calls Tryz.prog 161 #[.int .u8 c.toNat] w fun e w' => e = .returned (.bool (digitB c)) ∧ w = w' := by
  by_cases h1 : 48 ≤ (c.toNat : Int) <;> by_cases h2 : (c.toNat : Int) ≤ 57
  all_goals
    go_enter Tryz.func161, Tryz.ntmps161
    go_wp2
    go_ret
    exact ⟨ret_bool (by simp [digitB, h1, h2]), rfl⟩

theorem number_any (n : Int) (w : World) : Calls Tryz.prog 65 #[.int .i64 n] w fun e w' => e = .returned (.bool (numB n)) ∧ w = w' := by
  by_cases h1 : 1 ≤ n <;> by_cases h2 : n ≤ 1099511627776
  all_goals
    go_enter Tryz.func65, Tryz.ntmps65
    go_wp2
    go_ret
    exact ⟨ret_bool (by simp [numB, h1, h2]), rfl⟩

theorem part_any (c : UInt8) (w : World) : Calls Tryz.prog 160 #[.int .u8 c.toNat] w fun e w' => e = .returned (.bool (!partB c)) ∧ w = w' := by
  have h95 : ((c.toNat : Int) == 95) = (c == 95) := by
    rw [Bool.eq_iff_iff]; simp [← UInt8.toNat_inj]; omega
  have H95 := Lib.hid h95
  clear h95
  cases h1 : smallB c <;> cases h2 : digitB c <;> cases h3 : ((c.toNat : Int) == 95)
  all_goals
    have hs := small_any c
    have hd := digit_any c
    rw [h1] at hs
    rw [h2] at hd
    have hs' := Lib.hid hs
    have hd' := Lib.hid hd
    have H1 := Lib.hid h1
    have H2 := Lib.hid h2
    have H3 := Lib.hid h3
    clear hs hd h1 h2
    go_enter Tryz.func160, Tryz.ntmps160
    go_wp2_with (first | (go_at_call 158; refine (hs'.out _).mono ?_; rintro e w' ⟨rfl, rfl⟩) | (go_at_call 161; refine (hd'.out _).mono ?_; rintro e w' ⟨rfl, rfl⟩))
    go_ret
    exact ⟨ret_bool (by simp only [partB, bne, H1.out, H2.out, ← H95.out, H3.out]; rfl), rfl⟩

def bad (l : List UInt8) : Bool := l.any fun x => !partB x
theorem bad_snoc {l : List UInt8} {k : Nat} {u : UInt8} (hu : l[k]? = some u) (h : bad (l.take k) = false) : bad (l.take (k + 1)) = !partB u := by
  unfold bad at *
  rw [List.take_add_one, hu]
  simp [h]
theorem bad_of {l : List UInt8} {k : Nat} {u : UInt8} (hu : l[k]? = some u) (h : partB u = false) : bad l = true := by
  unfold bad
  rw [List.any_eq_true]
  exact ⟨u, List.mem_of_getElem? hu, by rw [h]; rfl⟩

/-- slices.IndexFunc over bytes, at the name's predicate. -/
theorem indexB (l : List UInt8) (b c : Nat) (w : World) (hl : l.length ≤ 30) (hc : ∀ (j : Nat) (u : UInt8), l[j]? = some u → w.cell? ⟨b, j, none⟩ = some (.int .u8 u.toNat)) :
    Calls Tryz.prog 170 #[.slice (some ⟨b, 0, none⟩) l.length c, .func (.func 160) #[] #[]] w fun e w' =>
      (∃ i : Int, e = .returned (.int .i64 i) ∧ ((0 ≤ i) ↔ bad l = true)) ∧ w = w' := by
  obtain ⟨n, hn⟩ : ∃ n, n = l.length := ⟨_, rfl⟩
  have HC := Lib.hid hc
  have HN := Lib.hid hn
  rw [← hn] at hl ⊢
  clear hc hn
  go_enter Tryz.func170, Tryz.ntmps170
  go_wp2
  go_loop [8, 5] (fun t _ => ∃ k : Nat, k ≤ n ∧ t = .int .i64 k ∧ Hid (bad (l.take k) = false)) (fun t _ => n - (intOf t).toNat)
  case atStart => exact ⟨0, Nat.zero_le _, rfl, Lib.hid rfl⟩
  case round =>
    obtain ⟨k, hk, rfl, HA⟩ := hrel
    by_cases hlt : k < n
    · have hlt' : k < l.length := by rw [← HN.out]; exact hlt
      obtain ⟨u, hu⟩ : ∃ u, l[k]? = some u := ⟨l[k], List.getElem?_eq_getElem hlt'⟩
      have hcell := HC.out k u hu
      have hpart := part_any u
      have HP := Lib.hid hpart
      have HU := Lib.hid hu
      clear hpart hu hlt'
      have htk := bad_snoc HU.out HA.out
      have HT := Lib.hid htk
      clear htk
      cases hp : partB u
      all_goals
        have HQ := Lib.hid hp
        rw [hp] at HP HT
        clear hp
        go_wp2_with (go_at_call 160; refine (HP.out _).mono ?_; rintro e w' ⟨rfl, rfl⟩)
      · go_ret
        refine ⟨⟨k, rfl, ?_⟩, rfl⟩
        simp [bad_of HU.out HQ.out]
      · go_round
        case rel => exact ⟨k + 1, by omega, by go_num, HT⟩
        case measure => simp [intOf]; omega
    · have hge : n ≤ k := by omega
      clear hlt
      go_wp2
      go_ret
      refine ⟨⟨-1, rfl, ?_⟩, rfl⟩
      have hkn : k = n := by omega
      have := HA.out
      rw [hkn, HN.out, List.take_length] at this
      simp [this]
theorem containsB (l : List UInt8) (b c : Nat) (w : World) (hl : l.length ≤ 30) (hc : ∀ (j : Nat) (u : UInt8), l[j]? = some u → w.cell? ⟨b, j, none⟩ = some (.int .u8 u.toNat)) :
    Calls Tryz.prog 159 #[.slice (some ⟨b, 0, none⟩) l.length c, .func (.func 160) #[] #[]] w fun e w' => e = .returned (.bool (bad l)) ∧ w = w' := by
  have hi := Lib.hid (indexB l b c w hl hc)
  clear hc
  go_enter Tryz.func159, Tryz.ntmps159
  go_wp2_with (go_at_call 170; refine hi.out.mono ?_; rintro e w' ⟨⟨i, rfl, hi2⟩, rfl⟩)
  go_ret
  exact ⟨ret_bool (by by_cases h : 0 ≤ i <;> simp_all), rfl⟩
def shapeB (s : ByteArray) : Bool := if h : 0 < s.size then smallB s[0] && decide (s.size ≤ 30) && !bad s.data.toList else false
set_option maxRecDepth 100000 in
theorem isname_any (s : ByteArray) (w : World)  :
    Calls Tryz.prog 135 #[.string s] w fun e w' => e = .returned (.bool (shapeB s)) ∧ Below w.heap.size w w' := by
  by_cases h0 : 0 < s.size
  · have hne : s.toList.isEmpty = false := by
      cases he : s.toList with
      | nil =>
        have : s.size = 0 := by
          have h1 := congrArg List.length he
          rw [Lib.toList_data] at h1
          simpa using h1
        omega
      | cons => rfl
    have hs := small_any s[0]
    have hsh : shapeB s = (smallB s[0] && decide (s.size ≤ 30) && !bad s.data.toList) := by unfold shapeB; rw [dif_pos h0]
    have HS := Lib.hid hsh
    clear hsh
    cases hsm : smallB s[0]
    · rw [hsm] at hs
      have hs' := Lib.hid hs
      have hm' := Lib.hid hsm
      clear hs hsm
      go_enter Tryz.func135, Tryz.ntmps135
      go_wp2_with (go_at_call 158; refine (hs'.out _).mono ?_; rintro e w' ⟨rfl, rfl⟩)
      go_ret
      exact ⟨ret_bool (by rw [HS.out, hm'.out]; rfl), Below.refl _ _⟩
    · rw [hsm] at hs
      have hs' := Lib.hid hs
      have hm' := Lib.hid hsm
      clear hs hsm
      by_cases h30 : s.size ≤ 30
      · have hconv := run_bytes_of_string (P := Tryz.prog) w 9 215 5 s Tryz.underlying9 Tryz.underlying215 Tryz.underlying5
        have hcl : ∀ (j : Nat) (u : UInt8), s.data.toList[j]? = some u → (bytesRow s (grownCap w s.size 0 5))[j]? = some (.int .u8 u.toNat) := by
          intro j u hj
          have hlt : j < s.data.toList.length := (List.getElem?_eq_some_iff.1 hj).1
          unfold bytesRow
          rw [Array.getElem?_append_left (by simpa using hlt)]
          simp at hj ⊢
          simp [hj]
        generalize bytesRow s (grownCap w s.size 0 5) = C at hconv hcl
        generalize grownCap w s.size 0 5 = cap at hconv
        have hwc : ∀ (j : Nat) (u : UInt8), s.data.toList[j]? = some u → (w.alloc (.cells C 5 (C.size, C.size + 1))).cell? ⟨w.heap.size, j, none⟩ = some (.int .u8 u.toNat) := by
          intro j u hj
          rw [cell_of_row _ _ j C 5 _ (heap_alloc_new w _)]
          exact hcl j u hj
        have hct := fun n => containsB s.data.toList w.heap.size cap ((w.alloc (.cells C 5 (C.size, C.size + 1))).drewN n) (by simpa using h30) hwc
        have HCT := Lib.hid hct
        clear hct hwc hcl
        go_enter Tryz.func135, Tryz.ntmps135
        go_wp2_with (go_at_call 158; refine (hs'.out _).mono ?_; rintro e w' ⟨rfl, rfl⟩)
        refine (HCT.out 1).mono ?_
        rintro e w2 ⟨rfl, rfl⟩
        go_wp2
        go_ret
        exact ⟨ret_bool (by rw [HS.out, hm'.out]; simp [h30]), ((Below.refl _ _).alloc (Nat.le_refl _) _).drew⟩
      · go_enter Tryz.func135, Tryz.ntmps135
        go_wp2_with (go_at_call 158; refine (hs'.out _).mono ?_; rintro e w' ⟨rfl, rfl⟩)
        go_ret
        exact ⟨ret_bool (by rw [HS.out, hm'.out]; simp [h30]), Below.refl _ _⟩
  · have hne : s.toList.isEmpty = true := by
      cases he : s.toList with
      | nil => rfl
      | cons a r =>
        have h1 := congrArg List.length he
        rw [Lib.toList_data] at h1
        simp at h1
        omega
    go_enter Tryz.func135, Tryz.ntmps135
    go_wp2
    go_ret
    exact ⟨ret_bool (by unfold shapeB; rw [dif_neg h0]), Below.refl _ _⟩

end Go.Ju

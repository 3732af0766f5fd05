/- The words that are no names (a chain of tests), and the predicates over names. -/
import Derived.Test.YthdnjokioboehaaGreatDoorLeaf
namespace Go.Ju
open Go.RowKit
open Go.Proofs
def words : List (Array UInt8 × String) := [
  (#[111, 114], "lex.go:16"),
  (#[97, 110, 100], "lex.go:16"),
  (#[110, 111, 116], "lex.go:16"),
  (#[105, 115], "lex.go:16"),
  (#[110, 117, 108, 108], "lex.go:16"),
  (#[105, 110], "lex.go:16"),
  (#[98, 101, 116, 119, 101, 101, 110], "lex.go:16"),
  (#[108, 105, 107, 101], "lex.go:16"),
  (#[109, 111, 100], "lex.go:16"),
  (#[116, 114, 117, 101], "lex.go:16"),
  (#[102, 97, 108, 115, 101], "lex.go:16"),
  (#[110, 101, 119], "lex.go:16"),
  (#[111, 108, 100], "lex.go:16"),
  (#[115, 113, 108], "lex.go:16"),
  (#[102, 111, 117, 110, 100], "lex.go:16"),
  (#[110, 111, 116, 102, 111, 117, 110, 100], "lex.go:16"),
  (#[105, 115, 111, 112, 101, 110], "lex.go:16"),
  (#[114, 111, 119, 99, 111, 117, 110, 116], "lex.go:16"),
  (#[99, 111, 117, 110, 116], "lex.go:17"),
  (#[101, 120, 105, 115, 116, 115], "lex.go:17"),
  (#[99, 97, 115, 101], "lex.go:17"),
  (#[119, 104, 101, 110], "lex.go:17"),
  (#[116, 104, 101, 110], "lex.go:17"),
  (#[101, 108, 115, 101], "lex.go:17"),
  (#[101, 110, 100], "lex.go:17"),
  (#[115, 101, 108, 101, 99, 116], "lex.go:17"),
  (#[100, 105, 115, 116, 105, 110, 99, 116], "lex.go:17"),
  (#[102, 114, 111, 109], "lex.go:17"),
  (#[119, 104, 101, 114, 101], "lex.go:17"),
  (#[103, 114, 111, 117, 112], "lex.go:17"),
  (#[98, 121], "lex.go:17"),
  (#[104, 97, 118, 105, 110, 103], "lex.go:17"),
  (#[111, 114, 100, 101, 114], "lex.go:17"),
  (#[100, 101, 115, 99], "lex.go:17"),
  (#[102, 111, 114], "lex.go:17"),
  (#[117, 112, 100, 97, 116, 101], "lex.go:18"),
  (#[97, 115], "lex.go:18"),
  (#[111, 102], "lex.go:18"),
  (#[105, 110, 115, 101, 114, 116], "lex.go:18"),
  (#[105, 110, 116, 111], "lex.go:18"),
  (#[118, 97, 108, 117, 101, 115], "lex.go:18"),
  (#[115, 101, 116], "lex.go:18"),
  (#[100, 101, 108, 101, 116, 101], "lex.go:18"),
  (#[105, 110, 116], "lex.go:18"),
  (#[116, 101, 120, 116], "lex.go:18"),
  (#[98, 111, 111, 108], "lex.go:18"),
  (#[97, 114, 114, 97, 121], "lex.go:18"),
  (#[99, 117, 114, 115, 111, 114], "lex.go:18"),
  (#[101, 120, 99, 101, 112, 116, 105, 111, 110], "lex.go:18"),
  (#[100, 101, 99, 108, 97, 114, 101], "lex.go:18"),
  (#[98, 101, 103, 105, 110], "lex.go:18"),
  (#[101, 120, 105, 116], "lex.go:18"),
  (#[114, 101, 116, 117, 114, 110], "lex.go:19"),
  (#[114, 97, 105, 115, 101], "lex.go:19"),
  (#[105, 102], "lex.go:19"),
  (#[101, 108, 115, 105, 102], "lex.go:19"),
  (#[119, 104, 105, 108, 101], "lex.go:19"),
  (#[108, 111, 111, 112], "lex.go:19"),
  (#[114, 101, 118, 101, 114, 115, 101], "lex.go:19"),
  (#[111, 112, 101, 110], "lex.go:19"),
  (#[99, 108, 111, 115, 101], "lex.go:19"),
  (#[102, 101, 116, 99, 104], "lex.go:19"),
  (#[98, 117, 108, 107], "lex.go:19"),
  (#[99, 111, 108, 108, 101, 99, 116], "lex.go:19"),
  (#[108, 105, 109, 105, 116], "lex.go:19"),
  (#[102, 111, 114, 97, 108, 108], "lex.go:19"),
  (#[99, 111, 109, 109, 105, 116], "lex.go:19"),
  (#[114, 111, 108, 108, 98, 97, 99, 107], "lex.go:19"),
  (#[116, 111], "lex.go:20"),
  (#[115, 97, 118, 101, 112, 111, 105, 110, 116], "lex.go:20"),
  (#[111, 117, 116], "lex.go:20"),
  (#[112, 114, 111, 99, 101, 100, 117, 114, 101], "lex.go:20"),
  (#[102, 117, 110, 99, 116, 105, 111, 110], "lex.go:20"),
  (#[97, 117, 116, 111, 110, 111, 109, 111, 117, 115], "lex.go:20"),
  (#[99, 114, 101, 97, 116, 101], "lex.go:20"),
  (#[114, 101, 112, 108, 97, 99, 101], "lex.go:20"),
  (#[100, 114, 111, 112], "lex.go:20"),
  (#[97, 108, 116, 101, 114], "lex.go:20"),
  (#[116, 97, 98, 108, 101], "lex.go:20"),
  (#[97, 100, 100], "lex.go:20"),
  (#[103, 114, 97, 110, 116], "lex.go:20"),
  (#[111, 110], "lex.go:20"),
  (#[114, 101, 118, 111, 107, 101], "lex.go:20"),
  (#[97, 108, 108], "lex.go:21"),
  (#[117, 115, 101, 114], "lex.go:21"),
  (#[105, 110, 100, 101, 120], "lex.go:21"),
  (#[115, 101, 113, 117, 101, 110, 99, 101], "lex.go:21"),
  (#[115, 116, 97, 114, 116], "lex.go:21"),
  (#[99, 97, 99, 104, 101], "lex.go:21"),
  (#[118, 105, 101, 119], "lex.go:21"),
  (#[105, 110, 118, 111, 107, 101, 114], "lex.go:21"),
  (#[112, 97, 99, 107, 97, 103, 101], "lex.go:21"),
  (#[112, 114, 105, 118, 97, 116, 101], "lex.go:21"),
  (#[116, 114, 105, 103, 103, 101, 114], "lex.go:21"),
  (#[98, 101, 102, 111, 114, 101], "lex.go:21"),
  (#[97, 102, 116, 101, 114], "lex.go:21"),
  (#[101, 97, 99, 104], "lex.go:21"),
  (#[114, 111, 119], "lex.go:21"),
  (#[100, 101, 102, 97, 117, 108, 116], "lex.go:22"),
  (#[99, 111, 110, 115, 116, 114, 97, 105, 110, 116], "lex.go:22"),
  (#[117, 110, 105, 113, 117, 101], "lex.go:22"),
  (#[112, 114, 105, 109, 97, 114, 121], "lex.go:22"),
  (#[107, 101, 121], "lex.go:22"),
  (#[99, 104, 101, 99, 107], "lex.go:22"),
  (#[102, 111, 114, 101, 105, 103, 110], "lex.go:22"),
  (#[114, 101, 102, 101, 114, 101, 110, 99, 101, 115], "lex.go:22"),
  (#[100, 101, 102, 101, 114, 114, 101, 100], "lex.go:22"),
  (#[101, 120, 101, 99, 117, 116, 101], "lex.go:22")]
def wl (rg d : Nat) (x : Array UInt8 × String) : Code :=
  .region rg #[{ dst := some d, op := .binOp .eql 9 (.tmp 3) (.const (.string ⟨x.1⟩)) 9, type := 4, pos := x.2, after := #[], guard := none },
    { dst := some 4, op := .assign (.tmp d), type := 4, pos := x.2, after := #[{ on := 0, ground := .data }], guard := none }] false
def wchain : List (Array UInt8 × String) → Nat → Nat → Code
  | [], _, _ => .skip
  | [x], rg, d => wl rg d x
  | x :: y :: r, rg, d => .seq (wl rg d x) (.cond (.tmp 4) .skip (wchain (y :: r) (rg + 1) (d + 1)))
def WInv (s : ByteArray) (a : Act) : Prop := a.tmps.size = 113 ∧ a.tmps[3]? = some (.string s) ∧ a.defers = []
theorem winv_put {s : ByteArray} {a : Act} (h : WInv s a) {d : Nat} (hd : d ≠ 3) (v : Value) : WInv s (a.put (some d) v) := by
  obtain ⟨h1, h2, h3⟩ := h
  refine ⟨by simpa [Act.put] using h1, ?_, h3⟩
  rw [← h2]
  simp [Act.put, hd]
def eqB (s : ByteArray) (x : Array UInt8 × String) : Bool := s.toList == (⟨x.1⟩ : ByteArray).toList
theorem wl_wp (s : ByteArray) (rg d : Nat) (x : Array UInt8 × String) (Q : Exit → Act → World → Prop) (a : Act) (w : World) (hi : WInv s a) (h4 : 4 < d) (hd : d < 113)
    (h : ∀ a', WInv s a' → a'.tmps[4]? = some (.bool (eqB s x)) → Q .normal a' w) : (wl rg d x).wp Tryz.prog Q a w := by
  refine wp_region_list ?_
  refine wpList_plain rfl fun K hK => ?_
  have h3 : a.tmps[3]? = some (.string s) := hi.2.1
  have hb : ∀ b : ByteArray, (binOp .eql 9 (.string s) (.string b)).run Tryz.prog w = .ok (.bool (s.toList == b.toList)) w := by
    intro b
    go_simp
  have hi' := winv_put hi (d := d) (by omega) (.bool (eqB s x))
  have hdv : (a.put (some d) (.bool (eqB s x))).tmps[d]? = some (.bool (eqB s x)) := by
    simp [Act.put, hi.1, hd]
  unfold Oper.wp
  simp only [execOp, Act.eval, Array.getD_eq_getD_getElem?, h3, Option.getD_some, Sem.run_bind, Sem.run_pure, Oper.upon]
  refine hK _ _ ?_
  refine wpList_plain rfl fun K2 hK2 => ?_
  unfold Oper.wp
  change Oper.upon _ _ _ _ _ (Sem.run _ (execOp (a.put (some d) (.bool (eqB s x))).eval _) w)
  simp only [execOp, Act.eval, Array.getD_eq_getD_getElem?, hdv, Option.getD_some, Sem.run_pure, Oper.upon]
  refine hK2 _ _ (wpList_nil ?_)
  refine h _ (winv_put hi' (by omega) _) ?_
  simp [Act.put, hi.1]
theorem wchain_wp (s : ByteArray) (Q : Exit → Act → World → Prop) (w : World) : ∀ (l : List (Array UInt8 × String)) (rg d : Nat) (a : Act), l ≠ [] → WInv s a → 4 < d → d + l.length ≤ 113 →
    (∀ a', WInv s a' → a'.tmps[4]? = some (.bool (l.any (eqB s))) → Q .normal a' w) → (wchain l rg d).wp Tryz.prog Q a w
  | [], _, _, _, h0, _, _, _, _ => absurd rfl h0
  | [x], rg, d, a, _, hi, h4, hd, h => wl_wp s rg d x Q a w hi h4 (by simp at hd; omega) fun a' h1 h2 => h a' h1 (by simpa using h2)
  | x :: y :: r, rg, d, a, _, hi, h4, hd, h => by
    refine wp_seq (wl_wp s rg d x _ a w hi h4 (by simp at hd; omega) fun a' h1 h2 => ?_)
    show Code.wp _ _ _ _ _
    have he : a'.eval (.tmp 4) = .bool (eqB s x) := by simp [Act.eval, h2]
    cases hx : eqB s x with
    | true =>
      rw [hx] at he h2
      refine wp_cond_true he (wp_skip (h a' h1 ?_))
      rw [h2]
      simp [hx]
    | false =>
      rw [hx] at he h2
      refine wp_cond_false he (wchain_wp s Q w (y :: r) (rg + 1) (d + 1) a' (by simp) h1 (by omega) (by simp at hd ⊢; omega) fun a2 h3 h5 => h a2 h3 ?_)
      rw [h5]
      simp [hx]
def wordB (s : ByteArray) : Bool := words.any (eqB s)
theorem word_any (s : ByteArray) (w : World) : Calls Tryz.prog 136 #[.string s] w fun e w' => e = .returned (.bool (wordB s)) ∧ w = w' := by
  refine calls_of_wp Tryz.func136 rfl ?_
  rw [show (Tryz.f136.ntmps - (#[Value.string s] : Array Value).size) = 112 from rfl]
  generalize hA : ({ tmps := #[Value.string s] ++ Array.replicate 112 undef, defers := [] } : Act) = A
  have hA0 : A.tmps.size = 113 ∧ A.tmps[0]? = some (.string s) ∧ A.defers = [] := by subst hA; simp
  clear hA
  refine wp_seq (wp_region_list ?_)
  refine wpList_plain rfl fun K hK => ?_
  unfold Oper.wp
  simp only [execOp, Act.eval, Sem.run_pure, Oper.upon]
  refine hK _ _ (wpList_nil ?_)
  show Code.wp _ _ _ _ _
  refine wp_seq (wp_seq (wp_region_list ?_))
  refine wpList_plain rfl fun K hK => ?_
  unfold Oper.wp
  have h0 : (A.put (some 2) (.bool false)).tmps[0]? = some (.string s) := by simp [Act.put, hA0.2.1]
  change Oper.upon _ _ _ _ _ (Sem.run _ (execOp (A.put (some 2) (.bool false)).eval _) w)
  simp only [execOp, Act.eval, Array.getD_eq_getD_getElem?, h0, Option.getD_some, Sem.run_pure, Oper.upon]
  refine hK _ _ (wpList_nil ?_)
  show Code.wp _ _ _ _ _
  refine wp_block ?_
  refine wp_seq ?_
  change Code.wp _ (wchain words 2 5) _ _ _
  refine wchain_wp s _ w words 2 5 _ (by simp [words]) ⟨by simp [Act.put, hA0.1], by simp [Act.put, hA0.1], hA0.2.2⟩ (by omega) (by simp [words]) fun a' h1 h2 => ?_
  show Code.wp _ _ _ _ _
  have he : a'.eval (.tmp 4) = .bool (wordB s) := by simp [Act.eval, h2, wordB]
  cases hw : wordB s with
  | true =>
    rw [hw] at he
    refine wp_cond_true he (wp_seq (wp_region_list ?_))
    refine wpList_plain rfl fun K hK => ?_
    unfold Oper.wp
    simp only [execOp, Act.eval, Sem.run_pure, Oper.upon]
    refine hK _ _ (wpList_nil ?_)
    show Code.wp _ _ _ _ _
    refine wp_ret ?_
    try simp only [Exit.inBlock, Exit.then]
    refine bodyPost_ret (fn := Tryz.f136) (results_tmp (t := 2) rfl _ _ _) h1.2.2 (And.intro ?_ rfl)
    simp [Act.put, h1.1]
  | false =>
    rw [hw] at he
    refine wp_cond_false he (wp_skip ?_)
    show Code.wp _ _ _ _ _
    refine wp_seq (wp_region_list ?_)
    refine wpList_plain rfl fun K hK => ?_
    unfold Oper.wp
    simp only [execOp, Act.eval, Sem.run_pure, Oper.upon]
    refine hK _ _ (wpList_nil ?_)
    show Code.wp _ _ _ _ _
    refine wp_ret ?_
    try simp only [Exit.inBlock, Exit.then]
    refine bodyPost_ret (fn := Tryz.f136) (results_tmp (t := 2) rfl _ _ _) h1.2.2 (And.intro ?_ rfl)
    simp [Act.put, h1.1]
def nameB (s : ByteArray) : Bool := shapeB s && !wordB s

theorem lexname_any (s : ByteArray) (w : World) : Calls Tryz.prog 116 #[.string s] w fun e w' => e = .returned (.bool (nameB s)) ∧ Below w.heap.size w w' := by
  have h1 := isname_any s
  have h2 := word_any s
  cases hs : shapeB s <;> cases hw : wordB s
  all_goals
    rw [hs] at h1
    rw [hw] at h2
    have H1 := Lib.hid h1
    have H2 := Lib.hid h2
    have H3 := Lib.hid hs
    have H4 := Lib.hid hw
    clear h1 h2 hs hw
    go_enter Tryz.func116, Tryz.ntmps116
    go_wp2_with (first | (go_at_call 135; refine (H1.out _).mono ?_; rintro e w1 ⟨rfl, hb1⟩) | (go_at_call 136; refine (H2.out _).mono ?_; rintro e w2 ⟨rfl, rfl⟩))
    go_ret
    exact ⟨ret_bool (by simp only [nameB, H3.out, H4.out]; rfl), hb1⟩

theorem isName_any (s : ByteArray) (w : World) : Calls Tryz.prog 104 #[.string s] w fun e w' => e = .returned (.bool (nameB s)) ∧ Below w.heap.size w w' := by
  have H1 := Lib.hid (lexname_any s w)
  go_enter Tryz.func104, Tryz.ntmps104
  go_wp2_with (go_at_call 116; refine H1.out.mono ?_; rintro e w1 ⟨rfl, hb1⟩)
  go_ret
  exact ⟨rfl, hb1⟩

theorem isTable_any (o n : ByteArray) (w : World) : Calls Tryz.prog 72 #[.string o, .string n] w fun e w' => e = .returned (.bool (nameB o && nameB n)) ∧ Below w.heap.size w w' := by
  have h1 := isName_any o w
  have h2 := isName_any n
  cases hs : nameB o
  · rw [hs] at h1
    have H1 := Lib.hid h1
    clear h1 h2 hs
    go_enter Tryz.func72, Tryz.ntmps72
    go_wp2_with (go_at_call 104; refine H1.out.mono ?_; rintro e w1 ⟨rfl, hb1⟩)
    go_ret
    exact ⟨rfl, hb1⟩
  · cases hw : nameB n
    all_goals
      rw [hs] at h1
      rw [hw] at h2
      have H1 := Lib.hid h1
      have H2 := Lib.hid h2
      clear h1 h2 hs hw
      go_enter Tryz.func72, Tryz.ntmps72
      go_wp2_with fail
      refine H1.out.mono ?_
      rintro e w1 ⟨rfl, hb1⟩
      go_wp2_with fail
      refine (H2.out _).mono ?_
      rintro e w2 ⟨rfl, hb2⟩
      go_wp2
      go_ret
      exact ⟨rfl, hb1.trans (hb2.mono hb1.size)⟩
end Go.Ju

/- How the store's data lie in memory. -/
import Derived.Test.YthdnjokioboehaaGreatDoorModel
namespace Go.Ju
open Go.RowKit
open Go.Proofs

/-! ### two lists, element by element -/
inductive All2 {α β : Type} (R : α → β → Prop) : List α → List β → Prop where
  | nil : All2 R [] []
  | cons {a : α} {b : β} {l : List α} {m : List β} : R a b → All2 R l m → All2 R (a :: l) (b :: m)
section
variable {α β : Type} {R S : α → β → Prop}
theorem All2.imp {l : List α} {m : List β} (h : All2 R l m) (hi : ∀ a b, R a b → S a b) : All2 S l m := by
  induction h with
  | nil => exact .nil
  | cons h1 _ ih => exact .cons (hi _ _ h1) ih
theorem All2.length {l : List α} {m : List β} (h : All2 R l m) : l.length = m.length := by
  induction h with
  | nil => rfl
  | cons _ _ ih => simp [ih]
theorem All2.append {l l' : List α} {m m' : List β} (h : All2 R l m) (h' : All2 R l' m') : All2 R (l ++ l') (m ++ m') := by
  induction h with
  | nil => exact h'
  | cons h1 _ ih => exact .cons h1 ih
theorem All2.get {l : List α} {m : List β} (h : All2 R l m) : ∀ {k : Nat} {a : α}, l[k]? = some a → ∃ b, m[k]? = some b ∧ R a b := by
  induction h with
  | nil => intro k a hk; simp at hk
  | cons h1 _ ih =>
    intro k a hk
    cases k with
    | zero => simp at hk; subst hk; exact ⟨_, rfl, h1⟩
    | succ k => simp at hk; simpa using ih hk
theorem All2.take {l : List α} {m : List β} (h : All2 R l m) (n : Nat) : All2 R (l.take n) (m.take n) := by
  induction h generalizing n with
  | nil => simpa using All2.nil
  | cons h1 _ ih =>
    cases n with
    | zero => exact .nil
    | succ n => exact .cons h1 (ih n)
theorem All2.drop {l : List α} {m : List β} (h : All2 R l m) (n : Nat) : All2 R (l.drop n) (m.drop n) := by
  induction h generalizing n with
  | nil => simpa using All2.nil
  | cons h1 h2 ih =>
    cases n with
    | zero => exact .cons h1 h2
    | succ n => exact ih n
/-- The cells of lists of one length. -/
theorem flatten_get {c : Nat} : ∀ {m : List (List Value)} {k j : Nat} {b : List Value}, (∀ x ∈ m, x.length = c) → m[k]? = some b → j < c → m.flatten[k * c + j]? = b[j]?
  | [], k, j, b, _, h, _ => by simp at h
  | y :: r, 0, j, b, hc, h, hj => by
    simp at h
    subst h
    rw [List.flatten_cons, List.getElem?_append_left (by rw [hc y (by simp)]; omega)]
    simp
  | y :: r, k + 1, j, b, hc, h, hj => by
    simp at h
    rw [List.flatten_cons, List.getElem?_append_right (by rw [hc y (by simp), Nat.add_mul]; omega), hc y (by simp), show (k + 1) * c + j - c = k * c + j from by rw [Nat.add_mul]; omega]
    exact flatten_get (fun x hx => hc x (by simp [hx])) h hj
theorem flatten_take {c : Nat} : ∀ {m : List (List Value)} (n : Nat), (∀ x ∈ m, x.length = c) → (m.take n).flatten = m.flatten.take (n * c)
  | [], n, _ => by simp
  | y :: r, 0, _ => by simp
  | y :: r, n + 1, hc => by
    rw [List.take_succ_cons, List.flatten_cons, List.flatten_cons, flatten_take n (fun x hx => hc x (by simp [hx])), List.take_append, hc y (by simp)]
    rw [show (n + 1) * c - c = n * c from by rw [Nat.add_mul]; omega, List.take_of_length_le (l := y) (by rw [hc y (by simp), Nat.add_mul]; omega)]
theorem flatten_drop {c : Nat} : ∀ {m : List (List Value)} (n : Nat), (∀ x ∈ m, x.length = c) → (m.drop n).flatten = m.flatten.drop (n * c)
  | [], n, _ => by simp
  | y :: r, 0, _ => by simp
  | y :: r, n + 1, hc => by
    rw [List.drop_succ_cons, List.flatten_cons, flatten_drop n (fun x hx => hc x (by simp [hx])), List.drop_append, hc y (by simp)]
    rw [show (n + 1) * c - c = n * c from by rw [Nat.add_mul]; omega, List.drop_of_length_le (l := y) (by rw [hc y (by simp), Nat.add_mul]; omega)]
    rfl
end

/-- The pieces of a store's memory. -/
inductive Comp where
  | tmp | imm | st | tM | dM | lM
  | tab (k : Key)
  | row (k : Key) (id : Int)
  | log (txn : Int)
  deriving DecidableEq

structure Lay where
  p : Nat
  tM : Nat
  dM : Nat
  lM : Nat
  tb : Key → Nat
  rM : Key → Nat
  rb : Key → Int → Nat
  lv : Int → Value

def VerIs (I : Gh) (v : Ver) (cs : List Value) : Prop := ∃ rv, cs = [.int .i64 v.time, .bool v.gone, rv] ∧ RowAt I rv v.row
def OpnAt (I : Gh) (pv : Value) : Option Ver → Prop
  | none => pv = .pointer none
  | some v => ∃ b cs, pv = ptr b ∧ I b = some (.cells cs.toArray 98 (0, 0)) ∧ VerIs I v cs
def VersAt (G I : Gh) (sv : Value) (l : List Ver) : Prop := ∃ css, All2 (VerIs I) l css ∧ Own G 98 3 sv l.length css.flatten
def RowObj (G I : Gh) (b : Nat) (r : RowS) : Prop :=
  ∃ sv op, G b = some (.cells #[sv, .bool r.lost, op, .int .i64 r.txn] 102 (0, 0)) ∧ VersAt G I sv r.old ∧ OpnAt I op r.opn
def ChgIs (I : Gh) (c : Chg) (cs : List Value) : Prop := ∃ op, cs = [.string c.key.1, .string c.key.2, .int .i64 c.drops, .int .i64 c.id, op] ∧ OpnAt I op c.before
def ChgsAt (G I : Gh) (sv : Value) (l : List Chg) : Prop := ∃ css, All2 (ChgIs I) l css ∧ Own G 133 5 sv l.length css.flatten
def MapAt {κ : Type} (G : Gh) (m : Nat) (enc : κ → Value) (ok : κ → Prop) (L : List (κ × Value)) : Prop := ∃ es clk, G m = some (.map es clk) ∧ MapOf enc ok es clk L
def TabObj (G : Gh) (b m : Nat) (t : Tab) (rb : Int → Nat) : Prop :=
  G b = some (.cells #[.map (some m), .int .i64 t.next] 94 (0, 0)) ∧ MapAt G m encI okI (t.rows.map fun p => (p.1, ptr (rb p.1)))

structure Rep (y : Lay) (M : St) (g : Comp → Gh) : Prop where
  st : g .st y.p = some (.cells #[.int .i64 M.time, .map (some y.tM), .map (some y.dM), .map (some y.lM)] 87 (0, 0))
  tM : MapAt (g .tM) y.tM encK (fun _ => True) (M.tabs.map fun p => (p.1, ptr (y.tb p.1)))
  dM : MapAt (g .dM) y.dM encK (fun _ => True) (M.drops.map fun p => (p.1, .int .i64 p.2))
  lM : MapAt (g .lM) y.lM encI okI (M.log.map fun p => (p.1, y.lv p.1))
  tab : ∀ k t, (k, t) ∈ M.tabs → TabObj (g (.tab k)) (y.tb k) (y.rM k) t (y.rb k)
  row : ∀ k t, (k, t) ∈ M.tabs → ∀ i r, (i, r) ∈ t.rows → RowObj (g (.row k i)) (g .imm) (y.rb k i) r
  log : ∀ x l, (x, l) ∈ M.log → ChgsAt (g (.log x)) (g .imm) (y.lv x) l

section
variable {I I' G G' : Gh}
theorem VerIs.sub {v : Ver} {cs : List Value} (h : VerIs I v cs) (hs : Sub I I') : VerIs I' v cs := by
  obtain ⟨rv, h1, h2⟩ := h
  exact ⟨rv, h1, h2.sub hs⟩
theorem OpnAt.sub {pv : Value} {o : Option Ver} (h : OpnAt I pv o) (hs : Sub I I') : OpnAt I' pv o := by
  cases o with
  | none => exact h
  | some v =>
    obtain ⟨b, cs, h1, h2, h3⟩ := h
    exact ⟨b, cs, h1, hs _ _ h2, h3.sub hs⟩
theorem VersAt.sub {sv : Value} {l : List Ver} (h : VersAt G I sv l) (hs : Sub I I') : VersAt G I' sv l := by
  obtain ⟨css, h1, h2⟩ := h
  exact ⟨css, h1.imp (fun _ _ h => h.sub hs), h2⟩
theorem RowObj.sub {b : Nat} {r : RowS} (h : RowObj G I b r) (hs : Sub I I') : RowObj G I' b r := by
  obtain ⟨sv, op, h1, h2, h3⟩ := h
  exact ⟨sv, op, h1, h2.sub hs, h3.sub hs⟩
theorem ChgsAt.sub {sv : Value} {l : List Chg} (h : ChgsAt G I sv l) (hs : Sub I I') : ChgsAt G I' sv l := by
  obtain ⟨css, h1, h2⟩ := h
  refine ⟨css, h1.imp (fun c cs h => ?_), h2⟩
  obtain ⟨op, h3, h4⟩ := h
  exact ⟨op, h3, h4.sub hs⟩
end
/-- What lies in the pieces that the data speak of is all that counts. -/
theorem Rep.keep {y : Lay} {M : St} {g g' : Comp → Gh} (h : Rep y M g) (h1 : ∀ c, c ≠ .tmp → c ≠ .imm → g' c = g c) (h2 : Sub (g .imm) (g' .imm)) : Rep y M g' where
  st := by rw [h1 _ (by simp) (by simp)]; exact h.st
  tM := by rw [h1 _ (by simp) (by simp)]; exact h.tM
  dM := by rw [h1 _ (by simp) (by simp)]; exact h.dM
  lM := by rw [h1 _ (by simp) (by simp)]; exact h.lM
  tab k t hk := by rw [h1 _ (by simp) (by simp)]; exact h.tab k t hk
  row k t hk i r hr := by rw [h1 _ (by simp) (by simp)]; exact (h.row k t hk i r hr).sub h2
  log x l hl := by rw [h1 _ (by simp) (by simp)]; exact (h.log x l hl).sub h2
end Go.Ju

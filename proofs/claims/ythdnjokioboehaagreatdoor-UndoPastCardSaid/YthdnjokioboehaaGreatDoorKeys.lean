/- The three kinds of keys: whole numbers, tables (owner and name), rows' addresses. -/
import Derived.Test.YthdnjokioboehaaGreatDoorClone
import Derived.Test.YthdnjokioboehaaGreatDoorFam
namespace Go.Ju
open Go.RowKit
open Go.Proofs

theorem findAsking_spec {κ : Type} [DecidableEq κ] {P : Program} {kt : TypeId} {enc : κ → Value} {ok : κ → Prop} {w : World}
    (heq : ∀ k k', ok k → ok k' → (Op.equal kt (enc k) (enc k')).run P w = .ok (decide (k = k')) w) (hinj : ∀ {a b : κ}, ok a → ok b → enc a = enc b → a = b) {k : κ} (hk : ok k) :
    ∀ (es : List MapEntry) (i : Nat), (∀ e ∈ es, ∃ k' : κ, ok k' ∧ e.key = enc k') →
    ((Instr.findAsking kt (enc k) es i).run P w = .ok none w ∧ ∀ e ∈ es, e.key ≠ enc k) ∨ ∃ j e, (Instr.findAsking kt (enc k) es i).run P w = .ok (some (i + j, e.val)) w ∧ es[j]? = some e ∧ e.key = enc k
  | [], i, _ => .inl ⟨by simp [Instr.findAsking], by simp⟩
  | e :: es, i, h => by
    obtain ⟨k', hk', he⟩ := h e (by simp)
    have h1 := heq k k' hk hk'
    by_cases hkk : k = k'
    · subst hkk
      refine .inr ⟨0, e, ?_, by simp, he⟩
      simp [Instr.findAsking, he, h1, Result.andThen]
    · have hne : e.key ≠ enc k := fun e' => hkk (hinj hk hk' (by rw [← e', he]))
      rcases findAsking_spec heq hinj hk es (i + 1) (fun x hx => h x (by simp [hx])) with ⟨hr, hn⟩ | ⟨j, x, hr, hj, hx⟩
      · refine .inl ⟨by simp [Instr.findAsking, he, h1, hkk, Result.andThen, hr], fun x hx => ?_⟩
        rcases List.mem_cons.1 hx with rfl | hx
        · exact hne
        · exact hn x hx
      · exact .inr ⟨j + 1, x, by simp [Instr.findAsking, he, h1, hkk, Result.andThen, hr, Nat.add_assoc, Nat.add_comm 1 j], by simpa using hj, hx⟩

theorem KL.of_asking {κ : Type} [DecidableEq κ] {P : Program} {kt : TypeId} {d : TypeDesc} {enc : κ → Value} {ok : κ → Prop} {W : World → Prop} (hd : P.underlying kt = some d) (hnow : ∀ a b, Instr.sameNow d a b = none)
    (heq : ∀ w, W w → ∀ k k', ok k → ok k' → (Op.equal kt (enc k) (enc k')).run P w = .ok (decide (k = k')) w) (hinj : ∀ {a b : κ}, ok a → ok b → enc a = enc b → a = b)
    (hcheck : ∀ w, W w → ∀ (em : Bool) (k : κ), ok k → (Instr.checkKey em 10000 kt (enc k)).run P w = .ok () w) (hst : ∀ (w : World) (k : κ), ok k → (Instr.keyThatStays (enc k) (enc k)).run P w = .ok (enc k) w) : KL P kt enc ok W where
  inj := hinj
  check := hcheck
  stays := hst
  find w hw k hk es hes := by
    cases es with
    | nil => exact .inl ⟨by simp [Instr.findKey, run_underlying hd, Instr.findNow], by simp⟩
    | cons e es =>
      have hf : (Instr.findKey kt (enc k) (e :: es)).run P w = (Instr.findAsking kt (enc k) (e :: es) 0).run P w := by
        simp [Instr.findKey, run_underlying hd, Instr.findNow, hnow]
      rw [hf]
      rcases findAsking_spec (heq w hw) hinj hk (e :: es) 0 hes with h | ⟨j, x, hr, h⟩
      · exact .inl h
      · exact .inr ⟨j, x, by simpa using hr, h⟩

/-! ### whole numbers -/
def encI (i : Int) : Value := .int .i64 i
def okI (i : Int) : Prop := (Lit.int .i64 i).wf = true
theorem okI_of {i : Int} (h1 : -9223372036854775808 ≤ i) (h2 : i ≤ 9223372036854775807) : okI i := by
  simp [okI, Lit.wf, IntKind.min, IntKind.max, IntKind.signed, IntKind.bits]
  omega
theorem klI : KL Tryz.prog 3 encI okI (fun _ => True) :=
  KL.of_keyed (Maps.int_keyed Tryz.underlying3) (fun _ _ h => by injection h) (fun k hk => ⟨_, Maps.keyOf_int_mk Tryz.underlying3 hk⟩)

/-! ### tables -/
abbrev Key := ByteArray × ByteArray
def encK (k : Key) : Value := .agg #[.string k.1, .string k.2]
theorem check_key (em : Bool) (a b : ByteArray) (w : World) : (Instr.checkKey em 10000 91 (.agg #[.string a, .string b])).run Tryz.prog w = .ok () w := by kernel_rfl
theorem equal_key (a b c d : ByteArray) (w : World) : (Op.equal 91 (.agg #[.string a, .string b]) (.agg #[.string c, .string d])).run Tryz.prog w = .ok (decide (((a, b) : Key) = (c, d))) w := by
  have h1 : ∀ x y : ByteArray, x.toList = y.toList ↔ x = y := fun x y => by
    rw [ByteArray.toList_eq, ByteArray.toList_eq]
    constructor
    · intro h
      cases x; cases y
      congr
      exact Array.toList_inj.1 h
    · rintro rfl; rfl
  unfold Op.equal Op.maxDepth
  simp [go_sem, h1]
  by_cases h2 : a = c <;> by_cases h3 : b = d <;> simp [h2, h3]
theorem klK : KL Tryz.prog 91 encK (fun _ => True) (fun _ => True) :=
  KL.of_asking Tryz.underlying91 (fun _ _ => rfl) (fun w _ k k' _ _ => equal_key _ _ _ _ w)
    (fun _ _ h => by
      unfold encK at h
      injection h with h
      simp only [Array.mk.injEq, List.cons.injEq, Value.string.injEq, and_true] at h
      exact Prod.ext h.1 h.2)
    (fun w _ em k _ => check_key em _ _ w)
    (fun w k _ => by simp [Instr.keyThatStays, encK, Instr.sameBits, beq_toListBytes])

/-! ### rows' addresses -/
def ptr (b : Nat) : Value := .pointer (some ⟨b, 0, none⟩)
theorem check_ptr (em : Bool) (b : Nat) (w : World) : (Instr.checkKey em 10000 95 (ptr b)).run Tryz.prog w = .ok () w := by kernel_rfl
theorem size_row (w : World) : (sizeOf 102).run Tryz.prog w = .ok 4 w := by kernel_rfl
theorem equal_ptr (b c : Nat) (w : World) {cs cs' : Array Value} {t t' : TypeId} (hb : w.heap[b]? = some (.cells cs t (0, 0))) (hc : w.heap[c]? = some (.cells cs' t' (0, 0))) :
    (Op.equal 95 (ptr b) (ptr c)).run Tryz.prog w = .ok (decide (b = c)) w := by
  unfold Op.equal Op.maxDepth Op.equalIn ptr
  simp only [Sem.run_bind, run_underlying Tryz.underlying95, Result.andThen_ok, size_row]
  by_cases h : b = c
  · subst h
    simp [sameAddr]
  · have h' : ¬ c = b := fun e => h e.symm
    simp [sameAddr, h, frozen, Sem.run, World.frozen?, hb, hc, noView, viewAt, shape, World.shape?, mayBeOne, stringish, Result.andThen]
theorem klP (S : Nat → Prop) : KL Tryz.prog 95 ptr S (fun w => ∀ b, S b → ∃ cs t, w.heap[b]? = some (.cells cs t (0, 0))) :=
  KL.of_asking Tryz.underlying95 (fun _ _ => rfl) (fun w hw k k' hk hk' => by
      obtain ⟨cs, t, h1⟩ := hw k hk
      obtain ⟨cs', t', h2⟩ := hw k' hk'
      exact equal_ptr k k' w h1 h2)
    (fun _ _ h => by
      unfold ptr at h
      injection h with h
      injection h with h
      injection h)
    (fun w _ em k _ => check_ptr em k w)
    (fun w k _ => by simp [Instr.keyThatStays, ptr, Instr.sameBits])
end Go.Ju

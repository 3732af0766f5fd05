/- UndoPast: the plain law. -/
import Derived.Test.YthdnjokioboehaaGreatDoorMade
import Derived.Test.YthdnjokioboehaaGreatDoorSteps
namespace Go.Ju
theorem Later.of_num {x T : Int} {M M' : St} (h : Hush x M M') (hx : numB x = false → M' = M) : Later T M M' := by
  cases hn : numB x with
  | true => exact Later.of_hush h (numB_ne hn)
  | false => rw [hx hn]; exact Later.refl _ _
theorem Later.doA {n : Nat} {M : St} (h : Inv n M) (a : ActM) (hk : kindB a.op ≠ 10) {T : Int} (hT : T ≤ M.time) : Later T M (M.doA a).1 := by
  obtain ⟨h1, h2⟩ := kindB_range a.op
  have h3 : kindB a.op = 0 ∨ kindB a.op = 1 ∨ kindB a.op = 2 ∨ kindB a.op = 3 ∨ kindB a.op = 4 ∨ kindB a.op = 5 ∨ kindB a.op = 6 ∨ kindB a.op = 7 ∨ kindB a.op = 8 ∨ kindB a.op = 9 := by omega
  rcases h3 with e | e | e | e | e | e | e | e | e | e
  · rw [doA_0 M a e]
    refine Later.of_num (Hush.addA h _ _ _) fun hn => ?_
    unfold St.addA St.argsB
    rw [hn, Bool.and_false, Bool.false_and]
    rfl
  · rw [doA_1 M a e]
    refine Later.of_num (Hush.putA _ _ _ _ _) fun hn => ?_
    unfold St.putA St.argsB
    rw [hn, Bool.and_false, Bool.false_and]
    rfl
  · rw [doA_2 M a e]
    refine Later.of_num (Hush.delA _ _ _ _) fun hn => ?_
    unfold St.delA St.argsB
    rw [hn, Bool.and_false]
    rfl
  · rw [doA_3 M a e]; exact Later.refl _ _
  · rw [doA_4 M a e]
    refine Later.of_num (Hush.backA h _ _) fun hn => ?_
    unfold St.backA
    rw [hn]
    rfl
  · rw [doA_5 M a e]; exact Later.commitA h _ hT
  · rw [doA_6 M a e]
    refine Later.of_num (Hush.abortA h _) fun hn => ?_
    unfold St.abortA
    rw [hn]
    rfl
  · rw [doA_7 M a e]; exact Later.refl _ _
  · rw [doA_8 M a e]; exact Later.refl _ _
  · rw [doA_9 M a e]; exact Later.refl _ _
/-- All but Drop. -/
def runsKeep (M : St) (l : List ActM) : St := l.foldl (fun M a => if kindB a.op = 10 then M else (M.doA a).1) M
theorem runsKeep_snoc (M : St) {l : List ActM} {k : Nat} {a : ActM} (h : l[k]? = some a) : runsKeep M (l.take (k + 1)) = if kindB a.op = 10 then runsKeep M (l.take k) else ((runsKeep M (l.take k)).doA a).1 := by
  unfold runsKeep
  rw [List.take_add_one, h, List.foldl_append]
  rfl
theorem Later.runs (l : List ActM) : ∀ {n : Nat} {M : St}, Inv n M → ∀ {T : Int}, T ≤ M.time → Later T M (runsKeep M l) ∧ Inv (n + 2 * l.length) (runsKeep M l) := by
  induction l with
  | nil => intro n M h T hT; exact ⟨Later.refl _ _, h.mono (by simp)⟩
  | cons a l ih =>
    intro n M h T hT
    unfold runsKeep
    rw [List.foldl_cons]
    by_cases hk : kindB a.op = 10
    · rw [if_pos hk]
      obtain ⟨h1, h2⟩ := ih h hT
      exact ⟨h1, h2.mono (by simp; omega)⟩
    · rw [if_neg hk]
      have h3 := Later.doA h a hk hT
      obtain ⟨h1, h2⟩ := ih (h.doA a) (T := T) (by have := h3.time; omega)
      exact ⟨h3.trans h1, h2.mono (by simp; omega)⟩
theorem past_law {n : Nat} {M : St} (h : Inv n M) (more : List ActM) (k : Key) : ((runsKeep M more).atA k M.time 0).2 = 26 ∨ (runsKeep M more).atA k M.time 0 = M.atA k M.time 0 := by
  obtain ⟨h1, h2⟩ := Later.runs more h (Int.le_refl _)
  exact Later.at h h2 h1 k
end Go.Ju

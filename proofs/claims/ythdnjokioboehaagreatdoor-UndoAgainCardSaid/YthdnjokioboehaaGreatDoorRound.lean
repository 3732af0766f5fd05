/- A region that draws its order and only reads, in a round of a range over a function. No program is named. -/
import Derived.Test.YthdnjokioboehaaGreatDoorBackward
namespace Go.Ju
open Go.Proofs

def noDefer (l : List Oper) : Bool := l.all fun o => match o.op with | .defer _ => false | _ => true
theorem noDefer_at {l : List Oper} (h : noDefer l = true) {o : Oper} (ho : o ∈ l) : ∀ c, o.op ≠ .defer c := fun c hc => by
  have := List.all_eq_true.1 h o ho
  rw [hc] at this
  simp at this
section
variable {F : Fence} {n : Nat} {P : Program}
theorem wpOpIn_inRound (ll : Nat) (hro : F.round = none) {l : List Oper} (h : noDefer l = true) (Q : Exit → Act → World → Prop) (i : Nat) (K : Act → World → Prop) : wpOpIn (F.inRound ll) n P l.toArray Q i K = wpOpIn F n P l.toArray Q i K := by
  funext a w
  unfold wpOpIn
  cases ho : l.toArray[i]? with
  | none => rfl
  | some o =>
    have hm : o ∈ l := List.mem_of_getElem? (by simpa using ho : l[i]? = some o)
    have hs : ∀ ρ, Oper.semAt (F.inRound ll).round ρ o = Oper.semAt F.round ρ o := fun ρ => by
      rw [Fence.inRound_round, Oper.semAt_some _ _ _ (noDefer_at h hm), hro, Oper.semAt_none]
    unfold Oper.wpIn
    dsimp only
    rw [hs]
    rfl
theorem wpAnyIn_inRound (ll : Nat) (hro : F.round = none) {l : List Oper} (h : noDefer l = true) {md : Region.Mode} (Q : Exit → Act → World → Prop) : ∀ fuel, wpAnyIn (F.inRound ll) n P md l.toArray Q fuel = wpAnyIn F n P md l.toArray Q fuel
  | 0 => rfl
  | fuel + 1 => by
    funext listed a w
    unfold wpAnyIn
    simp only [wpOpIn_inRound ll hro h, wpAnyIn_inRound ll hro h]
/-- 'gi_quiet' in a round. -/
theorem region_quiet_round (ll : Nat) {id : Nat} {Q : Exit → Act → World → Prop} {a : Act} {w : World} {l : List Oper} (hro : F.round = none) (hm : P.follows .mixedOrders = true) (hB : Region.lexB .any l.toArray = true) (hnd : noDefer l = true)
    (h : wpQuietIn F n P l.toArray (fun w' => ∃ n, w' = w.drewN n) (fun a' => ∀ w', (∃ n, w' = w.drewN n) → Q .normal a' w') l a) : (Code.region id l.toArray true).wpIn (F.inRound ll) n P Q a w := by
  refine wpIn_region_any hm ?_
  rw [wpAnyIn_inRound ll hro hnd]
  simp only [Region.lexB, Bool.and_eq_true] at hB
  refine wpAnyIn_of_quiet (C := fun w' => ∃ n, w' = w.drewN n) (Q := fun a' => ∀ w', (∃ n, w' = w.drewN n) → Q .normal a' w') hro (fun _ w' hw' h => h w' hw') _ _ _ _ ⟨1, rfl⟩ ?_
  have := wpAnyQIn_lex (F := F) (n := n) (C := fun w' => ∃ n, w' = w.drewN n) (md := .any) hB.1 l 0 (Array.replicate l.toArray.size false) a (by simp) (by simpa using hB.2) h
  simpa using this
end
end Go.Ju

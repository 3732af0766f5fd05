/- An entry of a map that is read and stored again ('m[k]++'). -/
import Derived.Test.YthdnjokioboehaaGreatDoorRowA
namespace Go.Ju
open Go.RowKit
open Go.Proofs
open Go.ChangeMaps

theorem setBlock_inj {w : World} {b : Nat} {x x' : Obj} (hb : b < w.heap.size) (h : setBlock w b x = setBlock w b x') : x = x' := by
  have := congrArg (fun u : World => u.heap[b]?) h
  simpa [setBlock, hb] using this
theorem push_modify (es : Array MapEntry) (a : MapEntry) (f : MapEntry → MapEntry) : (es.push a).modify es.size f = es.push (f a) := by
  apply Array.toList_inj.1
  rw [Array.toList_modify, modify_eq_set _ _ _ a (by simp)]
  simp
theorem findIdx_born {es : Array MapEntry} {j : Nat} {e0 : MapEntry} (hn : (es.toList.map (·.born)).Nodup) (hj : es.toList[j]? = some e0) : es.findIdx? (fun e => (e.born : Int) == (e0.born : Int)) = some j := by
  have hlt := (List.getElem?_eq_some_iff.1 hj).1
  have hj0 := (List.getElem?_eq_some_iff.1 hj).2
  rw [Array.findIdx?_eq_some_iff_getElem]
  refine ⟨by simpa using hlt, ?_, fun i hi => ?_⟩
  · have : es[j]'(by simpa using hlt) = e0 := by simpa using hj0
    simp [this]
  · intro e
    simp only [beq_iff_eq] at e
    have hil : i < es.toList.length := Nat.lt_trans hi hlt
    have e' : es.toList[i].born = e0.born := by
      have : es[i]'(by simpa using hil) = es.toList[i] := by simp
      rw [this] at e
      omega
    have := (List.getElem_inj (i := i) (j := j) (h₀ := by simpa using hil) (h₁ := by simpa using hlt) hn).1 (by simp only [List.getElem_map]; rw [hj0]; exact e')
    omega

section
variable {κ β : Type} [DecidableEq κ] {P : Program} {kt t e : TypeId} {enc : κ → Value} {ok : κ → Prop} {G : Gh} {m : Nat} {L : List (κ × β)} {f : κ × β → Value}
theorem heap_setBlock_at {w : World} {b : Nat} (hb : b < w.heap.size) (x : Obj) : (setBlock w b x).heap[b]? = some x := by simp [setBlock, hb]
theorem size_setBlock (w : World) (b : Nat) (x : Obj) : (setBlock w b x).heap.size = w.heap.size := by simp [setBlock]
theorem setBlock_setBlock (w : World) (b : Nat) (x y : Obj) : setBlock (setBlock w b x) b y = setBlock w b y := by simp [setBlock]
def entryVal (z : Value) (f : κ × β → Value) (k : κ) (o : Option β) : Value := match o with | none => z | some v => f (k, v)
/-- m[k] is read, made if it lacks, and stored. -/
theorem MapAt.entry (K : KL P kt enc ok (fun _ => True)) (ht : P.underlying t = some (.map kt e)) {W : World} (hG : Holds G W) (h : MapAt G m enc ok (L.map fun p => (p.1, f p))) {k : κ} (hk : ok k) {z : Value} (hz : ∀ W', (zeroValue e).run P W' = .ok z W') (b : β) (f' : κ × β → Value) (hf : ∀ p ∈ L, p.1 ≠ k → f' p = f p) :
    ∃ x1 i x2, (∀ W', Holds G W' → (Instr.mapEntry t (.map (some m)) (enc k)).run P W' = .ok (.tuple #[entryVal z f k (aget L k), goInt i]) (setBlock W' m x1)) ∧
      (∀ W', Holds G W' → (Instr.lookup t (.map (some m)) (enc k) false).run P (setBlock W' m x1) = .ok (entryVal z f k (aget L k)) (setBlock W' m x1)) ∧
      (∀ W', Holds G W' → (Instr.entryStore t (.map (some m)) (goInt i) (f' (k, b))).run P (setBlock W' m x1) = .ok () (setBlock W' m x2)) ∧
      (∀ W', Holds G W' → Ev G W' (G.put m x2) (setBlock W' m x2)) ∧ MapAt (G.put m x2) m enc ok ((aput L k b).map fun p => (p.1, f' p)) := by
  obtain ⟨x2, hu1, hu2, hu3⟩ := h.update K ht hG hk b f' hf
  have hnod := h.nodup
  obtain ⟨es, clk, hm, hmap⟩ := h
  have hmW := hG m _ hm
  have hmlt := hG.lt hm
  cases ha : aget L k with
  | some v =>
    have hmem : (k, f (k, v)) ∈ L.map fun p => (p.1, f p) := List.mem_map_of_mem (f := fun p => (p.1, f p)) (aget_mem ha)
    rcases hmap.find K (w := W) trivial hk with ⟨_, hn⟩ | ⟨j, e0, v0, _, hj, hke, hv0, hm0⟩
    · exact absurd (List.mem_map_of_mem (f := Prod.fst) hmem) hn
    · have hvv : v0 = f (k, v) := nodup_val hmap.nodup hm0 hmem
      subst hvv
      have hset : (es.modify j fun x => { x with key := enc k }) = es := by
        apply Array.toList_inj.1
        rw [Array.toList_modify, modify_eq_set _ _ _ _ hj]
        exact set_self (by rw [hj, ← hke])
      have hfind : ∀ W', (Instr.findKey kt (enc k) es.toList).run P W' = .ok (some (j, f (k, v))) W' := fun W' => by
        rcases hmap.find K (w := W') trivial hk with ⟨_, hn⟩ | ⟨j', e0', v0', hr, hj', hke', hv0', hm0'⟩
        · exact absurd (List.mem_map_of_mem (f := Prod.fst) hmem) hn
        · obtain rfl := hmap.unique K hj' hj hke' hke
          rw [hr, nodup_val hmap.nodup hm0' hmem]
      have hej : es[j]? = some e0 := by simpa using hj
      have hx2 : x2 = .map (es.modify j fun x => { x with key := enc k, val := f' (k, b) }) clk := by
        refine setBlock_inj (w := W) hmlt ?_
        have h1 := hu1 W hG
        have hst := run_keyThat (P := P) K W hk hj hke
        simp [Instr.mapUpdate, run_underlying ht, getObj_map hmW, K.check W trivial _ k hk, hfind, hst, setObj_map hmW, Result.andThen] at h1
        exact h1.symm
      refine ⟨.map es clk, e0.born, x2, fun W' hW' => ?_, fun W' hW' => ?_, fun W' hW' => ?_, hu2, hu3⟩
      · have hb := hW' m _ hm
        have hst : (Instr.keyThatStays e0.key (enc k)).run P W' = .ok (enc k) W' := by rw [hke]; exact K.stays W' k hk
        simp [entryVal, Instr.mapEntry, run_underlying ht, getObj_map hb, K.check W' trivial _ k hk, hfind, hst, setObj_map hb, Result.andThen, hset, hej]
      · have hb := heap_setBlock_at (hW'.lt hm) (.map es clk)
        simp [entryVal, Instr.lookup, run_underlying ht, getObj_map hb, K.check _ trivial _ k hk, hfind, Result.andThen]
      · have hb := heap_setBlock_at (hW'.lt hm) (.map es clk)
        rw [hx2]
        have hmk : (es.modify j fun x => { x with val := f' (k, b) }) = es.modify j fun x => { x with key := enc k, val := f' (k, b) } := by
          apply Array.toList_inj.1
          rw [Array.toList_modify, Array.toList_modify, modify_eq_set _ _ _ _ hj, modify_eq_set _ _ _ _ hj, hke]
        simp [Instr.entryStore, getObj_map hb, asInt, asIntOf, goInt, findIdx_born hmap.born.2 hj, setObj_map hb, Result.andThen, setBlock_setBlock, hmk]
  | none =>
    have hnk : k ∉ (L.map fun p => (p.1, f p)).map Prod.fst := by rw [keys_map]; exact aget_none.1 ha
    have hfind : ∀ W', (Instr.findKey kt (enc k) es.toList).run P W' = .ok none W' := fun W' => by
      rcases hmap.find K (w := W') trivial hk with ⟨hr, _⟩ | ⟨j, e0, v0, _, _, _, _, hm0⟩
      · exact hr
      · exact absurd (List.mem_map_of_mem (f := Prod.fst) hm0) hnk
    have hx2 : x2 = .map (es.push { key := enc k, val := f' (k, b), born := clk }) (clk + 1) := by
      refine setBlock_inj (w := W) hmlt ?_
      have h1 := hu1 W hG
      simp [Instr.mapUpdate, run_underlying ht, getObj_map hmW, K.check W trivial _ k hk, hfind, setObj_map hmW, Result.andThen] at h1
      exact h1.symm
    have hnew : (es.push { key := enc k, val := z, born := clk }).toList[es.size]? = some { key := enc k, val := z, born := clk } := by simp
    have hborn : ((es.push { key := enc k, val := z, born := clk }).toList.map (·.born)).Nodup := by
      simp only [Array.toList_push, List.map_append, List.map_cons, List.map_nil]
      rw [List.nodup_append]
      refine ⟨hmap.born.2, by simp, fun a ha b hb' => ?_⟩
      obtain ⟨x, hx, rfl⟩ := List.mem_map.1 ha
      simp only [List.mem_cons, List.not_mem_nil, or_false] at hb'
      have := hmap.born.1 x hx
      omega
    have hmapz : MapOf enc ok (es.push { key := enc k, val := z, born := clk }) (clk + 1) ((k, z) :: L.map fun p => (p.1, f p)) := by
      obtain ⟨es', hr', hmo⟩ := run_update_new K ht (w := W) trivial hmW hmap hk hnk z
      have hx' : (Obj.map es' (clk + 1)) = .map (es.push { key := enc k, val := z, born := clk }) (clk + 1) := by
        refine setBlock_inj (w := W) hmlt ?_
        have h1 := hr' W trivial hmW
        simp [Instr.mapUpdate, run_underlying ht, getObj_map hmW, K.check W trivial _ k hk, hfind, setObj_map hmW, Result.andThen] at h1
        exact h1.symm
      injection hx' with hx'
      rw [← hx']
      exact hmo
    refine ⟨.map (es.push { key := enc k, val := z, born := clk }) (clk + 1), clk, x2, fun W' hW' => ?_, fun W' hW' => ?_, fun W' hW' => ?_, hu2, hu3⟩
    · have hb := hW' m _ hm
      simp [entryVal, Instr.mapEntry, run_underlying ht, getObj_map hb, K.check W' trivial _ k hk, hfind, hz, setObj_map hb, Result.andThen]
    · have hb := heap_setBlock_at (hW'.lt hm) (.map (es.push { key := enc k, val := z, born := clk }) (clk + 1))
      exact run_lookup_there K ht trivial hb hmapz hk (by simp [entryVal])
    · have hb := heap_setBlock_at (hW'.lt hm) (.map (es.push { key := enc k, val := z, born := clk }) (clk + 1))
      rw [hx2]
      have hfi := findIdx_born hborn hnew
      simp only at hfi
      have hpm := push_modify es { key := enc k, val := z, born := clk } (fun x => { x with val := f' (k, b) })
      simp [Instr.entryStore, getObj_map hb, asInt, asIntOf, goInt, hfi, setObj_map hb, Result.andThen, setBlock_setBlock, hpm]
end
end Go.Ju

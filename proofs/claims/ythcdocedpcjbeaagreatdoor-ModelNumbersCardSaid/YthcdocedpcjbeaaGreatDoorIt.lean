/-
  Ranging over a map: what is left of it, step by step. No program text.
-/
import Derived.Test.YthcdocedpcjbeaaGreatDoorBase
import Derived.Maps.RangeWalk
namespace Go.Proofs.YthcdocedpcjbeaaGreatDoor
open Go.RowKit

/-- An iterator at block g over the map at block r: these keys and values, in the order in which they were laid in, are still to come. -/
def IterAt (w : World) (r g : Nat) (todo : List (Value × Value)) : Prop :=
  ∃ es clock since seen c0, w.heap[g]? = some (.mapIter (some r) since seen c0) ∧ since ≤ c0 ∧ (∀ x ∈ es.toList, x.born < since) ∧ w.heap[r]? = some (.map es clock) ∧
    since ≤ clock ∧ (es.toList.map (·.born)).Nodup ∧ (leftOf es seen).toList.map (fun e => (e.key, e.val)) = todo

theorem IterAt.lt {w : World} {r g : Nat} {todo : List (Value × Value)} (h : IterAt w r g todo) : r < w.heap.size ∧ g < w.heap.size := by
  obtain ⟨es, clock, since, seen, c0, h1, _, _, h2, _⟩ := h
  exact ⟨(Array.getElem?_eq_some_iff.1 h2).1, (Array.getElem?_eq_some_iff.1 h1).1⟩
theorem IterAt.chg {S : Nat → Prop} {w w' : World} {r g : Nat} {todo : List (Value × Value)} (h : IterAt w r g todo) (hc : Chg S w w') (hr : ¬ S r) (hg : ¬ S g) : IterAt w' r g todo := by
  have hl := h.lt
  obtain ⟨es, clock, since, seen, c0, h1, h2, h3, h4, h5⟩ := h
  exact ⟨es, clock, since, seen, c0, (hc.block g hl.2 hg).trans h1, h2, h3, (hc.block r hl.1 hr).trans h4, h5⟩
theorem IterAt.below {w w' : World} {r g : Nat} {todo : List (Value × Value)} (h : IterAt w r g todo) (hc : Below w.heap.size w w') : IterAt w' r g todo :=
  h.chg (S := fun _ => False) (Chg.of_below hc) (fun x => x) (fun x => x)
theorem nodup_of_born {l : List MapEntry} (h : l.Pairwise (fun a b => a.born < b.born)) : (l.map (·.born)).Nodup := by
  rw [List.Nodup, List.pairwise_map]
  exact h.imp fun hab => by omega

/-- where the loop begins. -/
theorem IterAt.start {w : World} {r : Nat} {es : Array MapEntry} {clock : Nat} (hb : w.heap[r]? = some (.map es clock)) (hp : es.toList.Pairwise (fun a b => a.born < b.born)) (hc : ∀ e ∈ es.toList, e.born < clock) :
    IterAt (w.alloc (.mapIter (some r) clock #[] clock)) r w.heap.size (es.toList.map fun e => (e.key, e.val)) := by
  have hlt := (Array.getElem?_eq_some_iff.1 hb).1
  refine ⟨es, clock, clock, #[], clock, heap_alloc_new w _, Nat.le_refl _, hc, (Below.heap_alloc w _ r hlt).trans hb, Nat.le_refl _, nodup_of_born hp, ?_⟩
  congr 1
  unfold leftOf
  simp

theorem filter_erase {b : Nat} : ∀ {l : List MapEntry} {i : Nat} {e : MapEntry}, (l.map (·.born)).Nodup → l[i]? = some e → e.born = b → l.filter (fun x => x.born != b) = l.eraseIdx i
  | [], i, e, _, h, _ => by simp at h
  | x :: r, 0, e, hn, h, hb => by
    simp at h
    subst h hb
    have hn' := (List.nodup_cons.1 hn).1
    simp only [List.filter_cons, bne_self_eq_false, Bool.false_eq_true, if_false, List.eraseIdx_zero, List.tail_cons]
    rw [List.filter_eq_self]
    intro y hy
    have : y.born ≠ x.born := fun h => hn' (List.mem_map.2 ⟨y, hy, h⟩)
    simpa using this
  | x :: r, i + 1, e, hn, h, hb => by
    simp at h
    have hn' := List.nodup_cons.1 hn
    have hx : x.born ≠ b := fun hh => hn'.1 (List.mem_map.2 ⟨e, List.mem_of_getElem? h, hb.trans hh.symm⟩)
    have : (x.born != b) = true := by simpa using hx
    simp only [List.filter_cons, this, if_true, List.eraseIdx_cons_succ]
    rw [filter_erase hn'.2 h hb]

theorem leftOf_push (es : Array MapEntry) (seen : Array Nat) (b : Nat) : (leftOf es (seen.push b)).toList = (leftOf es seen).toList.filter (fun x => x.born != b) := by
  unfold leftOf
  rw [Array.toList_filter, Array.toList_filter, List.filter_filter]
  apply List.filter_congr
  intro x _
  by_cases h : x.born = b
  · simp [h]
  · have h' : ¬ b = x.born := fun e => h e.symm
    simp [h]

section
variable {P : Program} (w : World) {ops : Array Oper} {rest : List Oper} {o : Oper} {a : Act} {Q : Exit → Act → World → Prop}
/-- one step of the loop: nothing is left, or one that is left comes. -/
theorem wpList_next_it (hg : o.guard = none) (it : Operand) (hop : o.op = Op.next it false) (r g : Nat) (todo : List (Value × Value)) (hit : a.eval it = .pointer (some ⟨g, 0, none⟩)) (h : IterAt w r g todo)
    (hDone : todo = [] → wpList P ops Q rest (a.put o.dst (.tuple #[.bool false])) w)
    (hMore : ∀ (i : Nat) k v w', todo[i]? = some (k, v) → IterAt w' r g (todo.eraseIdx i) → Chg (fun b => b = g) w w' → w'.heap.size = w.heap.size →
      (Instr.entry (.pointer (some ⟨g, 0, none⟩))).run P w' = .ok (.tuple #[k, v]) w' → wpList P ops Q rest (a.put o.dst (.tuple #[.bool true, k, v])) w') :
    wpList P ops Q (o :: rest) a w := by
  have hl := h.lt
  obtain ⟨es, clock, since, seen, c0, h1, h2, h3, h4, h5, h6, h7⟩ := h
  have hgr : g ≠ r := by rintro rfl; rw [h1] at h4; cases h4
  refine wpList_plain hg fun K' hK' => ?_
  unfold Oper.wp
  rcases run_next_at (P := P) w o.type g r since c0 seen es clock h1 h4 h3 h2 with ⟨h0, hrun⟩ | ⟨e, he, w1, hw1, hrun⟩
  · simp [execOp, hop, hit, hrun, Result.andThen]
    refine hK' _ _ (hDone ?_)
    rw [← h7, Array.eq_empty_of_size_eq_zero h0]; rfl
  · obtain ⟨i, hi, hie⟩ := List.mem_iff_getElem.1 he
    have hi? : (leftOf es seen).toList[i]? = some e := by rw [List.getElem?_eq_getElem hi, hie]
    have hmem : e ∈ es.toList := by
      have : e ∈ leftOf es seen := by simpa using he
      unfold leftOf at this
      simpa using (Array.mem_filter.1 this).1
    have hnd : ((leftOf es seen).toList.map (·.born)).Nodup := by
      unfold leftOf
      rw [Array.toList_filter]
      exact h6.sublist (List.filter_sublist.map _)
    have hheap : w1.heap = w.heap ∧ w1.os = w.os ∧ w1.tape = w.tape ∧ w1.output = w.output := by rcases hw1 with rfl | rfl <;> exact ⟨rfl, rfl, rfl, rfl⟩
    have hg1 : (ChangeMaps.setBlock w1 g (.mapIter (some r) since (seen.push e.born) clock)).heap[g]? = some (.mapIter (some r) since (seen.push e.born) clock) := by
      show (w1.heap.setIfInBounds g _)[g]? = _
      rw [hheap.1, Array.getElem?_setIfInBounds_self_of_lt hl.2]
    have hr1 : (ChangeMaps.setBlock w1 g (.mapIter (some r) since (seen.push e.born) clock)).heap[r]? = some (.map es clock) := by
      show (w1.heap.setIfInBounds g _)[r]? = _
      rw [hheap.1, Array.getElem?_setIfInBounds_ne hgr, h4]
    have hIt : IterAt (ChangeMaps.setBlock w1 g (.mapIter (some r) since (seen.push e.born) clock)) r g (todo.eraseIdx i) := by
      refine ⟨es, clock, since, seen.push e.born, clock, hg1, h5, h3, hr1, h5, h6, ?_⟩
      rw [leftOf_push, filter_erase hnd hi? rfl, ← h7, ChangeMaps.map_eraseIdx]
    have hsz : (ChangeMaps.setBlock w1 g (.mapIter (some r) since (seen.push e.born) clock)).heap.size = w.heap.size := by
      show (w1.heap.setIfInBounds g _).size = _
      rw [hheap.1, Array.size_setIfInBounds]
    have hC : Chg (fun b => b = g) w (ChangeMaps.setBlock w1 g (.mapIter (some r) since (seen.push e.born) clock)) :=
      ⟨hheap.2.1, hheap.2.2.1, hheap.2.2.2, by omega, fun k hk hn => by
        show (w1.heap.setIfInBounds g _)[k]? = _
        rw [hheap.1, Array.getElem?_setIfInBounds_ne (fun h => hn h.symm)]⟩
    have hent := run_entry_at (P := P) (ChangeMaps.setBlock w1 g (.mapIter (some r) since (seen.push e.born) clock)) g r since seen es clock e hg1 hr1 hmem h6
    have hti : todo[i]? = some (e.key, e.val) := by rw [← h7, List.getElem?_map, hi?]; rfl
    simp [execOp, hop, hit, hrun, Result.andThen]
    exact hK' _ _ (hMore i e.key e.val _ hti hIt hC hsz hent)
end
end Go.Proofs.YthcdocedpcjbeaaGreatDoor

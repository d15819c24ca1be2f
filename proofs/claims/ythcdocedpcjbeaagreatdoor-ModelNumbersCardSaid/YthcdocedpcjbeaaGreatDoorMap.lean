/-
  Maps whose keys are numbers or texts, in memory: what their operations do. No program text.
-/
import Derived.Test.YthcdocedpcjbeaaGreatDoorBase
import Derived.MapKept
import Derived.ChangeMaps5
namespace Go.Proofs.YthcdocedpcjbeaaGreatDoor
open Go.RowKit

/-- How keys of one kind lie in memory. -/
structure KeyEnc (P : Program) (tk : TypeId) {α : Type} [DecidableEq α] (encK : α → Value) : Prop where
  und : ∃ d, P.underlying tk = some d ∧ ∀ a b, Instr.sameNow d (encK a) (encK b) = some (decide (a = b))
  chk : ∀ (e : Bool) a w, (Instr.checkKey e 10000 tk (encK a)).run P w = .ok () w
  stay : ∀ a w, (Instr.keyThatStays (encK a) (encK a)).run P w = .ok (encK a) w

section
variable {α β : Type} {encK : α → Value} {encV : β → Value}
def encG (encK : α → Value) (encV : β → Value) (p : α × β) : Value × Value := (encK p.1, encV p.2)
/-- Block r is a map with these entries, in the order in which they came. -/
def MapG (encK : α → Value) (encV : β → Value) (w : World) (r : Nat) (l : List (α × β)) : Prop :=
  ∃ es clock, w.heap[r]? = some (.map es clock) ∧ es.toList.map (fun e => (e.key, e.val)) = l.map (encG encK encV) ∧
    es.toList.Pairwise (fun a b => a.born < b.born) ∧ ∀ e ∈ es.toList, e.born < clock
theorem MapG.lt {w : World} {r : Nat} {l : List (α × β)} (h : MapG encK encV w r l) : r < w.heap.size := by
  obtain ⟨es, c, hb, _⟩ := h
  exact (Array.getElem?_eq_some_iff.1 hb).1
theorem MapG.chg {S : Nat → Prop} {w w' : World} {r : Nat} {l : List (α × β)} (h : MapG encK encV w r l) (hc : Chg S w w') (hr : ¬ S r) : MapG encK encV w' r l := by
  have hlt := h.lt
  obtain ⟨es, c, hb, h2⟩ := h
  exact ⟨es, c, (hc.block r hlt hr).trans hb, h2⟩
theorem MapG.below {w w' : World} {r : Nat} {l : List (α × β)} (h : MapG encK encV w r l) (hc : Below w.heap.size w w') : MapG encK encV w' r l :=
  h.chg (S := fun _ => False) (Chg.of_below hc) (fun x => x)
theorem MapG.made (w : World) : MapG encK encV (w.alloc (.map #[] 0)) w.heap.size ([] : List (α × β)) :=
  ⟨#[], 0, by show (w.heap.push _)[w.heap.size]? = _; simp, rfl, List.Pairwise.nil, by simp⟩
theorem Blk.ne_mapG {w : World} {a r : Nat} {t : TypeId} {cs : Array Value} {l : List (α × β)} (h : Blk w a t cs) (hm : MapG encK encV w r l) : a ≠ r := by
  rintro rfl
  obtain ⟨es, ck, hb, _⟩ := hm
  unfold Blk at h
  rw [h] at hb
  cases hb

end
section
variable {P : Program} {tk : TypeId} {α β : Type} [DecidableEq α] {encK : α → Value} {encV : β → Value}
def posG (k : α) : List (α × β) → Nat → Option (Nat × β)
  | [], _ => none
  | p :: r, i => if k = p.1 then some (i, p.2) else posG k r (i + 1)
def putG (l : List (α × β)) (k : α) (v : β) : List (α × β) :=
  match posG k l 0 with
  | some (i, _) => l.modify i (fun p => (p.1, v))
  | none => l ++ [(k, v)]
def dropG (l : List (α × β)) (k : α) : List (α × β) :=
  match posG k l 0 with
  | some (i, _) => l.eraseIdx i
  | none => l
def findG (k : α) : List (α × β) → Option β
  | [] => none
  | p :: r => if k = p.1 then some p.2 else findG k r
theorem posG_find (k : α) : ∀ (l : List (α × β)) (i : Nat), (posG k l i).map (·.2) = findG k l
  | [], _ => rfl
  | p :: r, i => by
    simp only [posG, findG]
    split
    · rfl
    · exact posG_find k r (i + 1)
theorem posG_spec (k : α) : ∀ (l : List (α × β)) (i j : Nat) (e : β), posG k l i = some (j, e) → ∃ p, i ≤ j ∧ l[j - i]? = some p ∧ k = p.1 ∧ p.2 = e
  | [], i, j, e, h => by simp [posG] at h
  | p :: r, i, j, e, h => by
    simp only [posG] at h
    split at h
    · rename_i hb
      simp only [Option.some.injEq, Prod.mk.injEq] at h
      obtain ⟨rfl, rfl⟩ := h
      exact ⟨p, Nat.le_refl _, by simp, hb, rfl⟩
    · obtain ⟨q, h1, h2, h3⟩ := posG_spec k r (i + 1) j e h
      exact ⟨q, by omega, by rw [show j - i = (j - (i + 1)) + 1 by omega]; simpa using h2, h3⟩

theorem findNowG {d : TypeDesc} (hs : ∀ a b, Instr.sameNow d (encK a) (encK b) = some (decide (a = b))) (k : α) : ∀ (es : List MapEntry) (l : List (α × β)) (i : Nat), es.map (fun e => (e.key, e.val)) = l.map (encG encK encV) →
    Instr.findNow d (encK k) es i = some ((posG k l i).map fun x => (x.1, encV x.2))
  | [], l, i, h => by
    cases l with
    | nil => rfl
    | cons p r => simp at h
  | e :: es, l, i, h => by
    cases l with
    | nil => simp at h
    | cons p r =>
      simp only [List.map_cons, List.cons.injEq, encG, Prod.mk.injEq] at h
      obtain ⟨⟨hk, hv⟩, hr⟩ := h
      simp only [Instr.findNow, hk, hs, hv, posG]
      by_cases hb : k = p.1
      · simp [hb]
      · simp only [hb, decide_false, if_false]
        exact findNowG hs k es r (i + 1) hr
theorem run_findKeyG (K : KeyEnc P tk encK) (w : World) (k : α) (es : List MapEntry) (l : List (α × β)) (h : es.map (fun e => (e.key, e.val)) = l.map (encG encK encV)) :
    (Instr.findKey tk (encK k) es).run P w = .ok ((posG k l 0).map fun x => (x.1, encV x.2)) w := by
  obtain ⟨d, hd, hs⟩ := K.und
  simp only [Instr.findKey, Sem.run_bind, run_underlying hd, Result.andThen_ok, findNowG hs k es l 0 h, Sem.run_pure]

theorem run_lookupG (K : KeyEnc P tk encK) {tm te : TypeId} (hm : P.underlying tm = some (.map tk te)) {z : β} (hz : ∀ w, (zeroValue te).run P w = .ok (encV z) w) (w : World) {r : Nat} {l : List (α × β)} (h : MapG encK encV w r l) (k : α) (ok : Bool) :
    (Instr.lookup tm (.map (some r)) (encK k) ok).run P w = .ok (if ok then .tuple #[encV ((findG k l).getD z), .bool (findG k l).isSome] else encV ((findG k l).getD z)) w := by
  obtain ⟨es, clock, hb, he, _⟩ := h
  rw [← posG_find k l 0]
  simp only [Instr.lookup, Sem.run_bind, run_underlying hm, Result.andThen_ok, MapKept.run_getObj_map hb, Sem.run_pure, K.chk, run_findKeyG K w k _ l he]
  cases posG k l 0 with
  | none => simp only [Option.map_none, Sem.run_bind, Sem.run_pure, Result.andThen_ok, hz]; rfl
  | some x => rfl

theorem run_updateG (K : KeyEnc P tk encK) {tm te : TypeId} (hm : P.underlying tm = some (.map tk te)) (w : World) {r : Nat} {l : List (α × β)} (h : MapG encK encV w r l) (k : α) (v : β) :
    ∃ w', (Instr.mapUpdate tm (.map (some r)) (encK k) (encV v)).run P w = .ok () w' ∧ MapG encK encV w' r (putG l k v) ∧ Chg (fun b => b = r) w w' := by
  have hlt := h.lt
  obtain ⟨es, clock, hb, he, hp, hc⟩ := h
  have hfin : ∀ o : Obj, Chg (fun b => b = r) w { w with heap := w.heap.setIfInBounds r o } := fun o =>
    ⟨rfl, rfl, rfl, by simp, fun i hi hn => by
      show (w.heap.setIfInBounds r o)[i]? = _
      rw [Array.getElem?_setIfInBounds_ne (fun e => hn e.symm)]⟩
  have hat : ∀ o : Obj, ({ w with heap := w.heap.setIfInBounds r o } : World).heap[r]? = some o := fun o => by
    show (w.heap.setIfInBounds r o)[r]? = _
    rw [Array.getElem?_setIfInBounds_self_of_lt hlt]
  cases hq : posG k l 0 with
  | none =>
    refine ⟨_, ?_, ⟨es.push ⟨encK k, encV v, clock⟩, clock + 1, hat _, ?_, ?_, ?_⟩, hfin _⟩
    · simp only [Instr.mapUpdate, Sem.run_bind, run_underlying hm, Result.andThen_ok, MapKept.run_getObj_map hb, K.chk, run_findKeyG K w k _ l he, hq, Option.map_none, MapKept.run_setObj_map _ hb]
    · simp [putG, hq, he, encG]
    · simp only [Array.toList_push, List.pairwise_append]
      exact ⟨hp, List.pairwise_singleton _ _, fun a ha b hb => by simp at hb; subst hb; exact hc a ha⟩
    · intro x hx
      simp at hx
      rcases hx with hx | rfl
      · have := hc x (by simpa using hx); omega
      · simp
  | some x =>
    obtain ⟨i, e0⟩ := x
    obtain ⟨p, _, hi, hn, rfl⟩ := posG_spec k l 0 i e0 hq
    simp only [Nat.sub_zero] at hi
    obtain ⟨x0, hx0, hxk⟩ : ∃ x0, es.toList[i]? = some x0 ∧ x0.key = encK k := by
      have h1 : (es.toList.map (fun e => (e.key, e.val)))[i]? = some (encG encK encV p) := by rw [he, List.getElem?_map, hi]; rfl
      rw [List.getElem?_map] at h1
      cases hx : es.toList[i]? with
      | none => rw [hx] at h1; simp at h1
      | some x0 =>
        rw [hx] at h1
        simp [encG] at h1
        exact ⟨x0, rfl, by rw [h1.1, hn]⟩
    have hx0' : es[i]? = some x0 := by simpa using hx0
    refine ⟨_, ?_, ⟨es.modify i fun x => { x with key := encK k, val := encV v }, clock, hat _, ?_, ?_, ?_⟩, hfin _⟩
    · simp only [Instr.mapUpdate, Sem.run_bind, run_underlying hm, Result.andThen_ok, MapKept.run_getObj_map hb, K.chk, run_findKeyG K w k _ l he, hq, Option.map_some, hx0', Option.getD_some, hxk, K.stay, MapKept.run_setObj_map _ hb]
    · simp only [putG, hq, Array.toList_modify]
      apply List.ext_getElem?
      intro j
      have hj : (es.toList.map (fun e => (e.key, e.val)))[j]? = (l.map (encG encK encV))[j]? := by rw [he]
      simp only [List.getElem?_map, List.getElem?_modify] at hj ⊢
      by_cases hij : i = j
      · subst hij
        rw [hx0, hi]
        simp [encG, hn]
      · simp only [hij, if_false]
        simpa using hj
    · rw [Array.toList_modify]
      have e1 : (es.toList.modify i fun x => { x with key := encK k, val := encV v }).map (·.born) = es.toList.map (·.born) := by
        apply List.ext_getElem?
        intro j
        simp only [List.getElem?_map, List.getElem?_modify]
        by_cases hj : i = j
        · subst hj; cases es.toList[i]? <;> simp
        · simp [hj]
      have h2 : (es.toList.map (·.born)).Pairwise (· < ·) := List.pairwise_map.2 hp
      rw [← e1] at h2
      exact List.pairwise_map.1 h2
    · intro x hx
      rw [Array.toList_modify, List.mem_iff_getElem?] at hx
      obtain ⟨j, hj⟩ := hx
      rw [List.getElem?_modify] at hj
      cases hy : es.toList[j]? with
      | none => rw [hy] at hj; simp at hj
      | some y =>
        have hby := hc y (List.mem_of_getElem? hy)
        rw [hy] at hj
        by_cases hij : i = j
        · simp [hij] at hj; subst hj; exact hby
        · simp [hij] at hj; subst hj; exact hby

theorem run_deleteG (K : KeyEnc P tk encK) {tm te : TypeId} (hm : P.underlying tm = some (.map tk te)) (w : World) {r : Nat} {l : List (α × β)} (h : MapG encK encV w r l) (k : α) :
    ∃ w', (Builtin.delete_ #[tm, tk] 0 #[.map (some r), encK k]).run P w = .ok (.tuple #[]) w' ∧ MapG encK encV w' r (dropG l k) ∧ Chg (fun b => b = r) w w' := by
  have hlt := h.lt
  obtain ⟨es, clock, hb, he, hp, hc⟩ := h
  have hfin : ∀ o : Obj, Chg (fun b => b = r) w { w with heap := w.heap.setIfInBounds r o } := fun o =>
    ⟨rfl, rfl, rfl, by simp, fun i hi hn => by
      show (w.heap.setIfInBounds r o)[i]? = _
      rw [Array.getElem?_setIfInBounds_ne (fun e => hn e.symm)]⟩
  have hat : ∀ o : Obj, ({ w with heap := w.heap.setIfInBounds r o } : World).heap[r]? = some o := fun o => by
    show (w.heap.setIfInBounds r o)[r]? = _
    rw [Array.getElem?_setIfInBounds_self_of_lt hlt]
  cases hq : posG k l 0 with
  | none =>
    refine ⟨_, ?_, ⟨es, clock, hat _, by simp [dropG, hq, he], hp, hc⟩, hfin _⟩
    simp [Builtin.delete_, run_underlying hm, MapKept.run_getObj_map hb, K.chk, run_findKeyG K w k _ l he, hq, MapKept.run_setObj_map _ hb]
  | some x =>
    obtain ⟨i, e0⟩ := x
    have htl : (es.eraseIdxIfInBounds i).toList = es.toList.eraseIdx i := by simp
    refine ⟨_, ?_, ⟨es.eraseIdxIfInBounds i, clock, hat _, ?_, ?_, ?_⟩, hfin _⟩
    · simp [Builtin.delete_, run_underlying hm, MapKept.run_getObj_map hb, K.chk, run_findKeyG K w k _ l he, hq, MapKept.run_setObj_map _ hb]
    · rw [htl]
      simp only [dropG, hq]
      rw [ChangeMaps.map_eraseIdx, ChangeMaps.map_eraseIdx, he]
    · rw [htl]; exact hp.sublist (List.eraseIdx_sublist _ _)
    · rw [htl]; exact fun x hx => hc x ((List.eraseIdx_sublist _ _).subset hx)
end

theorem keyEnc_int {P : Program} {tk : TypeId} {k : IntKind} (h : P.underlying tk = some (.int k)) : KeyEnc P tk (fun n : Int => Value.int k n) where
  und := ⟨_, h, fun a b => by simp [Instr.sameNow]; rfl⟩
  chk := fun e a w => by rw [Instr.checkKey]; simp [run_underlying h]
  stay := fun a w => by simp [Instr.keyThatStays, Instr.sameBits]
theorem keyEnc_string {P : Program} {tk : TypeId} (h : P.underlying tk = some .string) : KeyEnc P tk (fun s : ByteArray => Value.string s) where
  und := ⟨_, h, fun a b => by simp only [Instr.sameNow]; rw [ba_beq_decide]⟩
  chk := fun e a w => by rw [Instr.checkKey]; simp [run_underlying h]
  stay := fun a w => by simp [Instr.keyThatStays, Instr.sameBits, ba_self]
end Go.Proofs.YthcdocedpcjbeaaGreatDoor

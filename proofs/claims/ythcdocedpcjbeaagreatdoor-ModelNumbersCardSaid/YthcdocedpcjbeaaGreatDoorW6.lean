/-
  The model's map in memory: what its operations do.
-/
import Derived.Test.YthcdocedpcjbeaaGreatDoorW4
import Derived.Stop.BytesEq
namespace Go.Proofs.YthcdocedpcjbeaaGreatDoor
open Go.RowKit

def encE (e : Ent) : Value := .agg #[.string e.val, .int .u32 e.flags, .int .i64 e.exp, .int .u64 e.cas]
def zeroE : Ent := ⟨⟨#[]⟩, 0, 0, 0⟩
abbrev Ents := List (ByteArray × Ent)
def encP (p : ByteArray × Ent) : Value × Value := (nameV (nm p.1), encE p.2)

/-- Block r is the model's map with these entries, in the order in which they came. -/
def MapIs (w : World) (r : Nat) (l : Ents) : Prop :=
  ∃ es clock, w.heap[r]? = some (.map es clock) ∧ es.toList.map (fun e => (e.key, e.val)) = l.map encP ∧
    es.toList.Pairwise (fun a b => a.born < b.born) ∧ ∀ e ∈ es.toList, e.born < clock

theorem MapIs.lt {w : World} {r : Nat} {l : Ents} (h : MapIs w r l) : r < w.heap.size := by
  obtain ⟨es, c, hb, _⟩ := h
  exact (Array.getElem?_eq_some_iff.1 hb).1
theorem MapIs.chg {S : Nat → Prop} {w w' : World} {r : Nat} {l : Ents} (h : MapIs w r l) (hc : Chg S w w') (hr : ¬ S r) : MapIs w' r l := by
  have hlt := h.lt
  obtain ⟨es, c, hb, h2⟩ := h
  exact ⟨es, c, (hc.block r hlt hr).trans hb, h2⟩
theorem MapIs.below {w w' : World} {r : Nat} {l : Ents} (h : MapIs w r l) (hc : Below w.heap.size w w') : MapIs w' r l :=
  h.chg (S := fun _ => False) (Chg.of_below hc) (fun x => x)
theorem MapIs.drew {w : World} {r : Nat} {l : Ents} (h : MapIs w r l) : MapIs w.drew r l := h
theorem MapIs.made (w : World) : MapIs (w.alloc (.map #[] 0)) w.heap.size [] :=
  ⟨#[], 0, by show (w.heap.push _)[w.heap.size]? = _; simp, rfl, List.Pairwise.nil, by simp⟩

/-- The first entry whose name is that of k, and where. -/
def posE (k : ByteArray) : Ents → Nat → Option (Nat × Ent)
  | [], _ => none
  | p :: r, i => if nm k == nm p.1 then some (i, p.2) else posE k r (i + 1)

section
variable (w : World)

theorem run_checkName (b : Bool) (l : List UInt8) (h : l.length = 32) : (Instr.checkKey b 10000 111 (nameV l)).run Tryz.prog w = .ok () w := by
  rw [Instr.checkKey]
  simp only [nameV, Sem.run_bind, run_underlying Tryz.underlying111, Result.andThen_ok, Std.Legacy.Range.forIn_eq_forIn_range', Std.Legacy.Range.size, Nat.sub_zero, Nat.add_sub_cancel, Nat.div_one]
  have hl : ∀ i ∈ List.range' 0 32 1, i < 32 := fun i hi => by simpa using (List.mem_range'_1.1 hi).2
  generalize List.range' 0 32 1 = q at hl ⊢
  induction q with
  | nil => simp
  | cons i q ih =>
    have hi : i < 32 := hl i (by simp)
    have px : (part 5 (bytesV l) (i * 1)).run Tryz.prog w = .ok (.int .u8 ((l.getD i 0).toNat : Int)) w := by
      simp [part, isAgg, run_underlying Tryz.underlying5, bytesV, List.getD, List.getElem?_eq_getElem (show i < l.length by omega)]
    have pc : ∀ n : Int, (Instr.checkKey b 9999 5 (.int .u8 n)).run Tryz.prog w = .ok () w := fun n => by
      rw [Instr.checkKey]
      simp [run_underlying Tryz.underlying5]
    simp only [List.forIn_cons, Sem.run_bind, Tryz.sizeOf5, Result.andThen_ok, px, pc, Sem.run_pure]
    exact ih fun j hj => hl j (by simp [hj])

theorem eq_names (a b : List UInt8) (ha : a.length = 32) (hb : b.length = 32) : (Op.equal 111 (nameV a) (nameV b)).run Tryz.prog w = .ok (a == b) w :=
  run_equalIn_bytes w 9998 111 5 32 Tryz.underlying111 Tryz.underlying5 Tryz.sizeOf5 a b ha hb

theorem run_findAsking (k : ByteArray) : ∀ (es : List MapEntry) (l : Ents) (i : Nat), es.map (fun e => (e.key, e.val)) = l.map encP →
    (Instr.findAsking 111 (nameV (nm k)) es i).run Tryz.prog w = .ok ((posE k l i).map fun x => (x.1, encE x.2)) w
  | [], l, i, h => by
    cases l with
    | nil => rfl
    | cons p r => simp at h
  | e :: es, l, i, h => by
    cases l with
    | nil => simp at h
    | cons p r =>
      simp only [List.map_cons, List.cons.injEq, encP, Prod.mk.injEq] at h
      obtain ⟨⟨hk, hv⟩, hr⟩ := h
      rw [Instr.findAsking]
      simp only [Sem.run_bind, hk, hv, eq_names w _ _ (nm_length k) (nm_length p.1), Result.andThen_ok, posE]
      cases hb : (nm k == nm p.1)
      · simpa using run_findAsking k es r (i + 1) hr
      · simp
theorem run_findKeyN (k : ByteArray) (es : List MapEntry) (l : Ents) (h : es.map (fun e => (e.key, e.val)) = l.map encP) :
    (Instr.findKey 111 (nameV (nm k)) es).run Tryz.prog w = .ok ((posE k l 0).map fun x => (x.1, encE x.2)) w := by
  simp only [Instr.findKey, Sem.run_bind, run_underlying Tryz.underlying111, Result.andThen_ok]
  cases es with
  | nil =>
    cases l with
    | nil => rfl
    | cons p r => simp at h
  | cons e es =>
    simp only [Instr.findNow, nameV, Instr.sameNow]
    exact run_findAsking w k (e :: es) l 0 h

theorem run_lookupN {r : Nat} {l : Ents} (h : MapIs w r l) (k : ByteArray) :
    (Instr.lookup 100 (.map (some r)) (nameV (nm k)) true).run Tryz.prog w =
      .ok (.tuple #[encE (((posE k l 0).map (·.2)).getD zeroE), .bool (posE k l 0).isSome]) w := by
  obtain ⟨es, clock, hb, hm, _⟩ := h
  simp only [Instr.lookup, Sem.run_bind, run_underlying Tryz.underlying100, Result.andThen_ok, MapKept.run_getObj_map hb, Sem.run_pure,
    run_checkName w _ _ (nm_length k), run_findKeyN w k _ l hm]
  cases posE k l 0 with
  | none =>
    simp only [Option.map_none, Sem.run_bind, Sem.run_pure, Result.andThen_ok, Tryz.zeroValue44]
    rfl
  | some x => rfl

/-- behind a store: the entry in its place, or at the end. -/
def putN (l : Ents) (k : ByteArray) (e : Ent) : Ents :=
  match posE k l 0 with
  | some (i, _) => l.modify i (fun p => (p.1, e))
  | none => l ++ [(k, e)]
def dropN (l : Ents) (k : ByteArray) : Ents :=
  match posE k l 0 with
  | some (i, _) => l.eraseIdx i
  | none => l

theorem sameBits_name (n : Nat) (l : List UInt8) : Instr.sameBits (n + 1) (nameV l) (nameV l) = true := by
  simp only [nameV, Instr.sameBits, bytesV, beq_self_eq_true, Bool.true_and, List.all_eq_true]
  intro x hx
  have : ∀ (l : List Value) (x : Value × Value), x ∈ l.zip l → x.1 = x.2 ∧ x.1 ∈ l := by
    intro l
    induction l with
    | nil => intro x hx; simp at hx
    | cons a l ih =>
      intro x hx
      simp only [List.zip_cons_cons, List.mem_cons] at hx
      rcases hx with rfl | hx
      · simp
      · have := ih x hx; simp [this.1]; exact .inr (this.1 ▸ this.2)
  obtain ⟨h1, h2⟩ := this _ x hx
  obtain ⟨a, b⟩ := x
  simp only at h1 h2
  subst h1
  simp at h2
  obtain ⟨b, _, rfl⟩ := h2
  cases n <;> simp [Instr.sameBits]

theorem posE_spec (k : ByteArray) : ∀ (l : Ents) (i : Nat) (j : Nat) (e : Ent), posE k l i = some (j, e) → ∃ p, i ≤ j ∧ l[j - i]? = some p ∧ nm k = nm p.1 ∧ p.2 = e
  | [], i, j, e, h => by simp [posE] at h
  | p :: r, i, j, e, h => by
    simp only [posE] at h
    split at h
    · rename_i hb
      simp only [Option.some.injEq, Prod.mk.injEq] at h
      obtain ⟨rfl, rfl⟩ := h
      exact ⟨p, Nat.le_refl _, by simp, by simpa using hb, rfl⟩
    · obtain ⟨q, h1, h2, h3⟩ := posE_spec k r (i + 1) j e h
      exact ⟨q, by omega, by rw [show j - i = (j - (i + 1)) + 1 by omega]; simpa using h2, h3⟩

theorem pairwise_born_modify {es : List MapEntry} (f : MapEntry → MapEntry) (hf : ∀ e, (f e).born = e.born) (i : Nat) (h : es.Pairwise (fun a b => a.born < b.born)) : (es.modify i f).Pairwise (fun a b => a.born < b.born) := by
  have e1 : (es.modify i f).map (·.born) = es.map (·.born) := by
    apply List.ext_getElem?
    intro j
    simp only [List.getElem?_map, List.getElem?_modify]
    by_cases hj : i = j
    · subst hj
      cases es[i]? <;> simp [hf]
    · simp [hj]
  have h2 : (es.map (·.born)).Pairwise (· < ·) := List.pairwise_map.2 h
  rw [← e1] at h2
  exact List.pairwise_map.1 h2

theorem run_updateN {r : Nat} {l : Ents} (h : MapIs w r l) (k : ByteArray) (e : Ent) :
    ∃ w', (Instr.mapUpdate 100 (.map (some r)) (nameV (nm k)) (encE e)).run Tryz.prog w = .ok () w' ∧ MapIs w' r (putN l k e) ∧ Chg (fun b => b = r) w w' := by
  have hlt := h.lt
  obtain ⟨es, clock, hb, hm, hp, hc⟩ := h
  have hfin : ∀ o : Obj, Chg (fun b => b = r) w { w with heap := w.heap.setIfInBounds r o } := fun o =>
    ⟨rfl, rfl, rfl, by simp, fun i hi hn => by
      show (w.heap.setIfInBounds r o)[i]? = _
      rw [Array.getElem?_setIfInBounds_ne (fun e => hn e.symm)]⟩
  have hat : ∀ o : Obj, ({ w with heap := w.heap.setIfInBounds r o } : World).heap[r]? = some o := fun o => by
    show (w.heap.setIfInBounds r o)[r]? = _
    rw [Array.getElem?_setIfInBounds_self_of_lt hlt]
  cases hq : posE k l 0 with
  | none =>
    refine ⟨_, ?_, ⟨es.push ⟨nameV (nm k), encE e, clock⟩, clock + 1, hat _, ?_, ?_, ?_⟩, hfin _⟩
    · simp only [Instr.mapUpdate, Sem.run_bind, run_underlying Tryz.underlying100, Result.andThen_ok, MapKept.run_getObj_map hb, run_checkName w _ _ (nm_length k), run_findKeyN w k _ l hm, hq, Option.map_none, MapKept.run_setObj_map _ hb]
    · simp [putN, hq, hm, encP]
    · simp only [Array.toList_push, List.pairwise_append]
      exact ⟨hp, List.pairwise_singleton _ _, fun a ha b hb => by simp at hb; subst hb; exact hc a ha⟩
    · intro x hx
      simp at hx
      rcases hx with hx | rfl
      · have := hc x (by simpa using hx); omega
      · simp
  | some x =>
    obtain ⟨i, e0⟩ := x
    obtain ⟨p, _, hi, hn, rfl⟩ := posE_spec k l 0 i e0 hq
    have hei : ∃ x0, es.toList[i]? = some x0 ∧ x0.key = nameV (nm k) := by
      have h1 : (es.toList.map (fun e => (e.key, e.val)))[i]? = some (encP p) := by rw [hm, List.getElem?_map]; simpa using congrArg (Option.map encP) hi
      rw [List.getElem?_map] at h1
      cases hx : es.toList[i]? with
      | none => rw [hx] at h1; simp at h1
      | some x0 =>
        rw [hx] at h1
        simp [encP] at h1
        exact ⟨x0, rfl, by rw [h1.1, hn]⟩
    obtain ⟨x0, hx0, hxk⟩ := hei
    have hx0' : es[i]? = some x0 := by simpa using hx0
    refine ⟨_, ?_, ⟨es.modify i fun x => { x with key := nameV (nm k), val := encE e }, clock, hat _, ?_, ?_, ?_⟩, hfin _⟩
    · simp only [Instr.mapUpdate, Sem.run_bind, run_underlying Tryz.underlying100, Result.andThen_ok, MapKept.run_getObj_map hb, run_checkName w _ _ (nm_length k), run_findKeyN w k _ l hm, hq, Option.map_some,
        hx0', Option.getD_some, hxk, Instr.keyThatStays, sameBits_name, if_true, Sem.run_pure, MapKept.run_setObj_map _ hb]
    · simp only [putN, hq, Array.toList_modify]
      apply List.ext_getElem?
      intro j
      have hj : (es.toList.map (fun e => (e.key, e.val)))[j]? = (l.map encP)[j]? := by rw [hm]
      simp only [List.getElem?_map, List.getElem?_modify] at hj ⊢
      by_cases hij : i = j
      · subst hij
        rw [hx0, show l[i]? = some p by simpa using hi]
        simp [encP, hn]
      · simp only [hij, if_false]
        simpa using hj
    · rw [Array.toList_modify]
      exact pairwise_born_modify (fun x => { x with key := nameV (nm k), val := encE e }) (fun _ => rfl) i hp
    · intro x hx
      rw [Array.toList_modify, List.mem_iff_getElem?] at hx
      obtain ⟨j, hj⟩ := hx
      rw [List.getElem?_modify] at hj
      cases hy : es.toList[j]? with
      | none => rw [hy] at hj; simp at hj
      | some y =>
        have hby := hc y (List.mem_of_getElem? hy)
        rw [hy] at hj
        by_cases hij : i = j
        · simp [hij] at hj; subst hj; exact hby
        · simp [hij] at hj; subst hj; exact hby

theorem run_deleteN {r : Nat} {l : Ents} (h : MapIs w r l) (k : ByteArray) :
    ∃ w', (Builtin.delete_ #[100, 111] 0 #[.map (some r), nameV (nm k)]).run Tryz.prog w = .ok (.tuple #[]) w' ∧ MapIs w' r (dropN l k) ∧ Chg (fun b => b = r) w w' := by
  have hlt := h.lt
  obtain ⟨es, clock, hb, hm, hp, hc⟩ := h
  have hfin : ∀ o : Obj, Chg (fun b => b = r) w { w with heap := w.heap.setIfInBounds r o } := fun o =>
    ⟨rfl, rfl, rfl, by simp, fun i hi hn => by
      show (w.heap.setIfInBounds r o)[i]? = _
      rw [Array.getElem?_setIfInBounds_ne (fun e => hn e.symm)]⟩
  have hat : ∀ o : Obj, ({ w with heap := w.heap.setIfInBounds r o } : World).heap[r]? = some o := fun o => by
    show (w.heap.setIfInBounds r o)[r]? = _
    rw [Array.getElem?_setIfInBounds_self_of_lt hlt]
  cases hq : posE k l 0 with
  | none =>
    refine ⟨_, ?_, ⟨es, clock, hat _, by simp [dropN, hq, hm], hp, hc⟩, hfin _⟩
    simp [Builtin.delete_, run_underlying Tryz.underlying100, MapKept.run_getObj_map hb, run_checkName w _ _ (nm_length k), run_findKeyN w k _ l hm, hq, MapKept.run_setObj_map _ hb]
  | some x =>
    obtain ⟨i, e0⟩ := x
    have htl : (es.eraseIdxIfInBounds i).toList = es.toList.eraseIdx i := by simp
    refine ⟨_, ?_, ⟨es.eraseIdxIfInBounds i, clock, hat _, ?_, ?_, ?_⟩, hfin _⟩
    · simp [Builtin.delete_, run_underlying Tryz.underlying100, MapKept.run_getObj_map hb, run_checkName w _ _ (nm_length k), run_findKeyN w k _ l hm, hq, MapKept.run_setObj_map _ hb]
    · rw [htl]
      simp only [dropN, hq]
      rw [ChangeMaps.map_eraseIdx, ChangeMaps.map_eraseIdx, hm]
    · rw [htl]; exact hp.sublist (List.eraseIdx_sublist _ _)
    · rw [htl]; exact fun x hx => hc x ((List.eraseIdx_sublist _ _).subset hx)

theorem run_clearN {r : Nat} {l : Ents} (h : MapIs w r l) :
    ∃ w', (Builtin.clear_ #[100] 0 #[.map (some r)]).run Tryz.prog w = .ok (.tuple #[]) w' ∧ MapIs w' r [] ∧ Chg (fun b => b = r) w w' := by
  have hlt := h.lt
  obtain ⟨es, clock, hb, hm, hp, hc⟩ := h
  refine ⟨{ w with heap := w.heap.setIfInBounds r (.map #[] clock) }, ?_, ⟨#[], clock, ?_, rfl, List.Pairwise.nil, by simp⟩, ⟨rfl, rfl, rfl, by simp, fun i hi hn => ?_⟩⟩
  · simp [Builtin.clear_, run_underlying Tryz.underlying100, MapKept.run_getObj_map hb, MapKept.run_setObj_map _ hb]
  · show (w.heap.setIfInBounds r _)[r]? = _
    rw [Array.getElem?_setIfInBounds_self_of_lt hlt]
  · show (w.heap.setIfInBounds r _)[i]? = _
    rw [Array.getElem?_setIfInBounds_ne (fun e => hn e.symm)]
end
end Go.Proofs.YthcdocedpcjbeaaGreatDoor

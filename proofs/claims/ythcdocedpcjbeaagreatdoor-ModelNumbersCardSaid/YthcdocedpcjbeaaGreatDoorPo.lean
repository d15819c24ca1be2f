/-
  Plain laws of the model: what a command leaves as it was; the bounds of what it leaves.
-/
import Derived.Test.YthcdocedpcjbeaaGreatDoorW15
namespace Go.Proofs.YthcdocedpcjbeaaGreatDoor
open Go.RowKit

theorem wrap_u64_b (n : Int) : 0 ≤ u64 n ∧ u64 n < 18446744073709551616 := by
  unfold u64 IntKind.wrap
  simp [IntKind.signed, IntKind.bits]
  omega
/-- the entry of a name, told by the key alone. -/
def findE (k : ByteArray) : Ents → Option Ent
  | [] => none
  | p :: r => if nm k == nm p.1 then some p.2 else findE k r
theorem posE_findE (k : ByteArray) : ∀ (l : Ents) (i : Nat), (posE k l i).map (·.2) = findE k l
  | [], _ => rfl
  | p :: r, i => by
    simp only [posE, findE]
    split
    · rfl
    · exact posE_findE k r (i + 1)
theorem posE_some (k : ByteArray) (l : Ents) (i : Nat) : (posE k l i).isSome = (findE k l).isSome := by rw [← posE_findE k l i]; simp
theorem getN_findE (l : Ents) (k : ByteArray) (now : Int) : getN l k now = match findE k l with
    | none => none
    | some e => if decide (trim (nm k) = k) && !Pl.gone e.exp now then some e else none := by
  unfold getN foundN
  rw [posE_some, posE_findE]
  cases findE k l with
  | none => rfl
  | some e => simp
theorem findE_modify (k : ByteArray) (e : Ent) : ∀ (l : Ents) (i : Nat) (p : ByteArray × Ent), l[i]? = some p → nm k ≠ nm p.1 → findE k (l.modify i (fun q => (q.1, e))) = findE k l
  | [], i, p, h, _ => by simp at h
  | q :: r, 0, p, h, hn => by
    simp at h
    subst h
    simp [findE, hn]
  | q :: r, i + 1, p, h, hn => by
    simp at h
    simp only [List.modify_succ_cons, findE]
    rw [findE_modify k e r i p h hn]
theorem findE_erase (k : ByteArray) : ∀ (l : Ents) (i : Nat) (p : ByteArray × Ent), l[i]? = some p → nm k ≠ nm p.1 → findE k (l.eraseIdx i) = findE k l
  | [], i, p, h, _ => by simp at h
  | q :: r, 0, p, h, hn => by
    simp at h
    subst h
    simp [findE, hn]
  | q :: r, i + 1, p, h, hn => by
    simp at h
    simp only [List.eraseIdx_cons_succ, findE]
    rw [findE_erase k r i p h hn]
theorem findE_snoc (k k' : ByteArray) (e : Ent) (l : Ents) (hn : nm k ≠ nm k') : findE k (l ++ [(k', e)]) = findE k l := by
  induction l with
  | nil => simp [findE, hn]
  | cons q r ih => simp only [List.cons_append, findE, ih]
theorem findE_put_ne {k k' : ByteArray} (hn : nm k ≠ nm k') (l : Ents) (e : Ent) : findE k (putN l k' e) = findE k l := by
  unfold putN
  cases hq : posE k' l 0 with
  | none => exact findE_snoc k k' e l hn
  | some x =>
    obtain ⟨i, e0⟩ := x
    obtain ⟨p, _, hi, hp, rfl⟩ := posE_spec k' l 0 i e0 hq
    exact findE_modify k e l i p hi (fun h => hn (h.trans hp.symm))
theorem findE_drop_ne {k k' : ByteArray} (hn : nm k ≠ nm k') (l : Ents) : findE k (dropN l k') = findE k l := by
  unfold dropN
  cases hq : posE k' l 0 with
  | none => rfl
  | some x =>
    obtain ⟨i, e0⟩ := x
    obtain ⟨p, _, hi, hp, rfl⟩ := posE_spec k' l 0 i e0 hq
    exact findE_erase k l i p hi (fun h => hn (h.trans hp.symm))
theorem findE_dropM_ne {k k' : ByteArray} (hn : nm k ≠ nm k') (l : Ents) : findE k (dropM l k') = findE k l := by
  unfold dropM
  split
  · exact findE_drop_ne hn l
  · rfl

theorem key_size {k : ByteArray} (h : Pl.isKey k = true) : 1 ≤ k.size ∧ k.size ≤ 32 := by
  simp only [Pl.isKey, Bool.and_eq_true, decide_eq_true_eq] at h
  exact ⟨h.1, h.2.1⟩
theorem key_bytes {k : ByteArray} (h : Pl.isKey k = true) : ∀ b ∈ k.data.toList, b ≠ 0 := by
  simp only [Pl.isKey, Bool.and_eq_true, List.all_eq_true] at h
  rintro b hb rfl
  have := h.2.2 0 hb
  revert this
  decide
theorem dropWhile_zeros (n : Nat) (l : List UInt8) (h : ∀ b ∈ l, b ≠ 0) : (List.replicate n (0 : UInt8) ++ l).dropWhile (· == 0) = l := by
  induction n with
  | zero =>
    cases l with
    | nil => rfl
    | cons b r =>
      have := h b (List.mem_cons_self ..)
      simp [this]
  | succ n ih => simp only [List.replicate_succ, List.cons_append, List.dropWhile]; simpa using ih
theorem trim_key {k : ByteArray} (h : Pl.isKey k = true) : trim (nm k) = k := by
  have hl : k.data.toList.length = k.size := by simp
  have h2 := (key_size h).2
  have e : Lib.trimRightB (nm k) 0 = k.data.toList := by
    unfold Lib.trimRightB nm
    rw [List.take_of_length_le (by omega), List.reverse_append, List.reverse_replicate, dropWhile_zeros _ _ (fun b hb => key_bytes h b (by simpa using hb))]
    simp
  unfold trim
  rw [e]
theorem nm_ne {k k' : ByteArray} (h : Pl.isKey k = true) (h' : Pl.isKey k' = true) (hne : k ≠ k') : nm k ≠ nm k' := fun e =>
  hne (by rw [← trim_key h, ← trim_key h', e])

theorem bd_ends {now exp : Int} (hs : Pl.second now = true) : 0 ≤ Pl.ends now exp ∧ Pl.ends now exp < 4294967296 := by
  simp only [Pl.second, Bool.and_eq_true, decide_eq_true_eq] at hs
  unfold Pl.ends; split <;> (try split) <;> omega
theorem okE_put {l : Ents} (h : OkE l) (k : ByteArray) {e : Ent} (he : BdE e) (hv : e.val.size ≤ 2000) : OkE (putN l k e) := by
  refine ⟨h.1.put k he, ?_⟩
  have h2 := h.2
  unfold putN
  cases hq : posE k l 0 with
  | none =>
    intro p hp
    rcases List.mem_append.1 hp with hp | hp
    · exact h2 p hp
    · simp at hp; subst hp; exact hv
  | some x =>
    obtain ⟨i, _⟩ := x
    intro p hp
    rw [List.mem_iff_getElem?] at hp
    obtain ⟨j, hj⟩ := hp
    rw [List.getElem?_modify] at hj
    cases hy : l[j]? with
    | none => rw [hy] at hj; simp at hj
    | some y =>
      rw [hy] at hj
      by_cases hij : i = j
      · simp [hij] at hj; subst hj; exact hv
      · simp [hij] at hj; subst hj; exact h2 y (List.mem_of_getElem? hy)
theorem okE_sub {l l' : Ents} (h : OkE l) (hs : ∀ p ∈ l', p ∈ l) : OkE l' := ⟨fun p hp => h.1 p (hs p hp), fun p hp => h.2 p (hs p hp)⟩
theorem okE_dropM {l : Ents} (h : OkE l) (k : ByteArray) : OkE (dropM l k) := by
  unfold dropM
  split
  · unfold dropN
    split
    · exact okE_sub h fun p hp => (List.eraseIdx_sublist _ _).subset hp
    · exact h
  · exact h
theorem getN_bd {l : Ents} (h : OkE l) (k : ByteArray) (now : Int) : BdE ((getN l k now).getD zeroE) := by
  unfold getN
  split
  · exact h.1.found k
  · exact bd_zero
theorem okE_reads {gat : Bool} {ends now : Int} (he : 0 ≤ ends ∧ ends < 4294967296) (ks : List ByteArray) : ∀ (s : Ents × List Hit), OkE s.1 → OkE (ks.foldl (readS gat ends now) s).1 := by
  induction ks with
  | nil => intro s h; exact h
  | cons k r ih =>
    intro s h
    refine ih _ ?_
    unfold readS
    have h1 := getN_val h.2 k now
    cases hq : getN s.1 k now with
    | none => exact h
    | some x =>
      rw [hq] at h1
      simp only [Option.getD_some] at h1
      cases gat
      · exact h
      · exact okE_put h k (e := { x with exp := ends }) he h1
theorem okE_store {l : Ents} {laid : Int} (h : OkE l) {c : Cmd} {ends : Int} {failed : Bool} {old : Ent} {is : Bool} {k : ByteArray} (he : 0 ≤ ends ∧ ends < 4294967296) (ho : BdE old) : OkE (storeM l laid c ends failed old is k).2.1 := by
  have hl1 : OkE (if c.kind = 5 ∧ failed = true then dropM l k else l) := by split; exact okE_dropM h k; exact h
  have hx : BdE (laidE c ends old) := by unfold laidE; split; exact ho; split; exact ho; exact he
  unfold storeM
  split
  · exact h
  · simp only
    split
    · exact hl1
    · rename_i hz
      split
      · exact hl1
      · exact okE_put hl1 k (e := { laidE c ends old with cas := u64 (laid + 1) }) hx (by simpa using hz)
theorem okE_count {l : Ents} {laid : Int} (h : OkE l) {c : Cmd} {failed : Bool} {old : Ent} {k : ByteArray} (ho : BdE old) (hd : (dec (countV c old).toNat).size ≤ 2000) : OkE (countM l laid c failed old k).2.2.1 := by
  unfold countM
  split
  · exact h
  · split
    · exact h
    · exact okE_put h k (e := { old with val := dec (countV c old).toNat, cas := u64 (laid + 1) }) ho hd
theorem decDigits_len : ∀ (k u : Nat), u < 10 ^ (k + 1) → (Lib.decDigits u).length ≤ k + 1
  | k, u, h => by
    rw [Lib.decDigits]
    split
    · simp
    · match k, h with
      | 0, h => omega
      | k + 1, h =>
        have := decDigits_len k (u / 10) (by rw [Nat.pow_succ] at h; omega)
        simp only [List.length_append, List.length_singleton]
        omega
theorem dec_size {n : Nat} (h : n < 18446744073709551616) : (dec n).size ≤ 2000 := by
  have h1 := decDigits_len 19 n (by omega)
  have e : (dec n).size = (Lib.decDigits n).length := rfl
  omega
theorem countV_bd {c : Cmd} {old : Ent} (hd : 0 ≤ c.delta) : 0 ≤ countV c old ∧ countV c old < 18446744073709551616 := by
  have h1 := parse_lt old.val
  unfold countV
  split
  · exact wrap_u64_b _
  · omega
theorem err_zero {c : Cmd} {now : Int} (he : errOf c now = 0) : Pl.check c = 0 ∧ Pl.second now = true := by
  unfold errOf at he
  split at he
  · rename_i h; exact absurd he (by simpa using h)
  · rename_i h
    split at he
    · rename_i h2; exact ⟨by simpa using h, h2⟩
    · cases he
/-- all that Do does, case by case. -/
theorem doM_cases {P : DoOut → Prop} (c : Cmd) (now : Int) (failed : Bool) (l : Ents) (laid : Int)
    (h0 : errOf c now ≠ 0 → P ⟨0, [], 0, l, laid⟩)
    (hflush : errOf c now = 0 → c.kind = 15 → P ⟨10, [], 0, [], laid⟩)
    (hreads : errOf c now = 0 → 1 ≤ c.kind → c.kind ≤ 4 → P ⟨1, (readTo (isGat c.kind) (Pl.ends now c.exp) now l c.keys).2, 0, (readTo (isGat c.kind) (Pl.ends now c.exp) now l c.keys).1, laid⟩)
    (hstore : ∀ k, c.keys = [k] → Pl.isKey k = true → errOf c now = 0 → Pl.stores c.kind = true →
      P ⟨(storeM l laid c (Pl.ends now c.exp) failed ((getN l k now).getD zeroE) (getN l k now).isSome k).1, [], 0, (storeM l laid c (Pl.ends now c.exp) failed ((getN l k now).getD zeroE) (getN l k now).isSome k).2.1, (storeM l laid c (Pl.ends now c.exp) failed ((getN l k now).getD zeroE) (getN l k now).isSome k).2.2⟩)
    (hnone : ∀ k, c.keys = [k] → Pl.isKey k = true → errOf c now = 0 → getN l k now = none → P ⟨5, [], 0, l, laid⟩)
    (hdel : ∀ k e, c.keys = [k] → Pl.isKey k = true → errOf c now = 0 → c.kind = 11 → getN l k now = some e → P ⟨6, [], 0, dropM l k, laid⟩)
    (htouch : ∀ k e, c.keys = [k] → Pl.isKey k = true → errOf c now = 0 → c.kind = 14 → getN l k now = some e → P ⟨9, [], 0, putN l k { e with exp := Pl.ends now c.exp }, laid⟩)
    (hcount : ∀ k e, c.keys = [k] → Pl.isKey k = true → errOf c now = 0 → (c.kind = 12 ∨ c.kind = 13) → getN l k now = some e →
      P ⟨(countM l laid c failed e k).1, [], (countM l laid c failed e k).2.1, (countM l laid c failed e k).2.2.1, (countM l laid c failed e k).2.2.2⟩) :
    P (doM c now failed l laid) := by
  unfold doM
  by_cases he : errOf c now = 0
  · rw [if_pos he]
    obtain ⟨hc, hs⟩ := err_zero he
    obtain ⟨hk, _, hko, hka, _⟩ := check_ok hc
    have hk2 : 1 ≤ c.kind ∧ c.kind ≤ 15 := by simpa [Pl.isKind] using hk
    by_cases h15 : c.kind = 15
    · unfold doIn; rw [if_pos h15]; exact hflush he h15
    by_cases h4 : c.kind ≤ 4
    · unfold doIn; rw [if_neg h15, if_pos h4]; exact hreads he hk2.1 h4
    have h1 := keys_one hko h4 h15
    obtain ⟨k, hkk⟩ : ∃ k, c.keys = [k] := by
      match hq : c.keys, h1 with
      | [k], _ => exact ⟨k, rfl⟩
      | [], h => simp at h
      | _ :: _ :: _, h => simp at h; omega
    have hkey : Pl.isKey k = true := by rw [hkk] at hka; simpa using hka
    unfold doIn
    rw [if_neg h15, if_neg h4, hkk]
    simp only
    by_cases hst : Pl.stores c.kind = true
    · rw [if_pos hst]; exact hstore k hkk hkey he hst
    rw [if_neg hst]
    cases hg : getN l k now with
    | none => simp only [Option.isSome_none, if_true]; exact hnone k hkk hkey he hg
    | some e =>
      simp only [Option.isSome_some, Bool.true_eq_false, if_false, Option.getD_some]
      by_cases h11 : c.kind = 11
      · rw [if_pos h11]; exact hdel k e hkk hkey he h11 hg
      rw [if_neg h11]
      by_cases h14 : c.kind = 14
      · rw [if_pos h14]; exact htouch k e hkk hkey he h14 hg
      rw [if_neg h14]
      refine hcount k e hkk hkey he ?_ hg
      have : ¬ (5 ≤ c.kind ∧ c.kind ≤ 10) := by simpa [Pl.stores] using hst
      omega
  · rw [if_neg he]; exact h0 he

theorem okE_do {l : Ents} (h : OkE l) (c : Cmd) (now : Int) (failed : Bool) (laid : Int) (hd : 0 ≤ c.delta) : OkE (doM c now failed l laid).l := by
  refine doM_cases (P := fun o => OkE o.l) c now failed l laid (fun _ => h) (fun _ _ => ?_) ?_ ?_ (fun _ _ _ _ _ => h) (fun k _ _ _ _ _ _ => okE_dropM h k) ?_ ?_
  · exact ⟨fun _ h => (by cases h), fun _ h => (by cases h)⟩
  · exact fun he _ _ => okE_reads (bd_ends (err_zero he).2) c.keys (l, []) h
  · exact fun k _ _ he _ => okE_store h (bd_ends (err_zero he).2) (getN_bd h k now)
  · intro k e _ _ he _ hg
    have h1 := getN_val h.2 k now
    rw [hg] at h1
    exact okE_put h k (e := { e with exp := Pl.ends now c.exp }) (bd_ends (err_zero he).2) h1
  · intro k e _ _ he _ hg
    have h1 := getN_bd h k now
    rw [hg] at h1
    exact okE_count h h1 (dec_size (by have := countV_bd (c := c) (old := e) hd; omega))

/-- a command of other keys. -/
theorem do_other {l : Ents} (c : Cmd) (now : Int) (failed : Bool) (laid : Int) {k0 : ByteArray} (hk0 : Pl.isKey k0 = true) (hf : c.kind ≠ 15) (hn : k0 ∉ c.keys) : findE k0 (doM c now failed l laid).l = findE k0 l := by
  have ne1 : ∀ k, c.keys = [k] → Pl.isKey k = true → nm k0 ≠ nm k := fun k hk hkey => nm_ne hk0 hkey (fun e => hn (by rw [hk, e]; exact List.mem_singleton.2 rfl))
  refine doM_cases (P := fun o => findE k0 o.l = findE k0 l) c now failed l laid (fun _ => rfl) (fun _ h => absurd h hf) ?_ ?_ (fun _ _ _ _ _ => rfl) (fun k _ hk hkey _ _ _ => findE_dropM_ne (ne1 k hk hkey) l) ?_ ?_
  · intro he _ h4
    have hka := (check_ok (err_zero he).1).2.2.2.1
    rw [List.all_eq_true] at hka
    have : ∀ (ks : List ByteArray) (s : Ents × List Hit), (∀ k ∈ ks, nm k0 ≠ nm k) → findE k0 (ks.foldl (readS (isGat c.kind) (Pl.ends now c.exp) now) s).1 = findE k0 s.1 := by
      intro ks
      induction ks with
      | nil => intro s _; rfl
      | cons k r ih =>
        intro s hs
        refine (ih _ (fun k hk => hs k (List.mem_cons_of_mem _ hk))).trans ?_
        unfold readS
        split
        · rfl
        · split
          · exact findE_put_ne (hs k (List.mem_cons_self ..)) _ _
          · rfl
    exact this c.keys (l, []) fun k hk => nm_ne hk0 (hka k hk) (fun e => hn (e ▸ hk))
  · intro k hk hkey _ _
    have hne := ne1 k hk hkey
    have hl1 : findE k0 (if c.kind = 5 ∧ failed = true then dropM l k else l) = findE k0 l := by split; exact findE_dropM_ne hne l; rfl
    unfold storeM
    split
    · rfl
    · simp only
      split
      · exact hl1
      · split
        · exact hl1
        · exact (findE_put_ne hne _ _).trans hl1
  · exact fun k e hk hkey _ _ _ => findE_put_ne (ne1 k hk hkey) _ _
  · intro k e hk hkey _ _ _
    unfold countM
    split
    · rfl
    · split
      · rfl
      · exact findE_put_ne (ne1 k hk hkey) _ _
theorem do_other_get {l : Ents} (c : Cmd) (now now' : Int) (failed : Bool) (laid : Int) {k0 : ByteArray} (hk0 : Pl.isKey k0 = true) (hf : c.kind ≠ 15) (hn : k0 ∉ c.keys) : getN (doM c now failed l laid).l k0 now' = getN l k0 now' := by
  rw [getN_findE, getN_findE, do_other c now failed laid hk0 hf hn]
/-- get, gets: nothing is changed. -/
theorem do_reads_same {l : Ents} (c : Cmd) (now : Int) (failed : Bool) (laid : Int) (h : c.kind = 1 ∨ c.kind = 2) : (doM c now failed l laid).l = l ∧ (doM c now failed l laid).laid = laid := by
  unfold doM
  split
  · unfold doIn
    rw [if_neg (by omega), if_pos (by omega)]
    have hg : isGat c.kind = false := by rcases h with h | h <;> rw [h] <;> rfl
    rw [hg]
    have : ∀ (ks : List ByteArray) (s : Ents × List Hit), (ks.foldl (readS false (Pl.ends now c.exp) now) s).1 = s.1 := by
      intro ks
      induction ks with
      | nil => intro s; rfl
      | cons k r ih =>
        intro s
        refine (ih _).trans ?_
        unfold readS
        split <;> rfl
    exact ⟨this c.keys (l, []), rfl⟩
  · exact ⟨rfl, rfl⟩
end Go.Proofs.YthcdocedpcjbeaaGreatDoor

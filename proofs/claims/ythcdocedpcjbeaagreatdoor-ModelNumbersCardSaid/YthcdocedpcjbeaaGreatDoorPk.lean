/-
  Plain laws of ModelNumbers: what the keys find; a number that is compared, twice.
-/
import Derived.Test.YthcdocedpcjbeaaGreatDoorPn
import Derived.Test.YthcdocedpcjbeaaGreatDoorPt
import Derived.Test.YthcdocedpcjbeaaGreatDoorPm
import Derived.Test.YthcdocedpcjbeaaGreatDoorKeys
import Derived.Test.YthcdocedpcjbeaaGreatDoorMap
namespace Go.Proofs.YthcdocedpcjbeaaGreatDoor
open Go.RowKit Go.Sort

theorem findE_of_mem {l : Ents} : Inj (fun p => nm p.1) l → ∀ p ∈ l, findE p.1 l = some p.2 := by
  induction l with
  | nil => intro _ p hp; cases hp
  | cons q r ih =>
    intro h p hp
    simp only [findE]
    by_cases hq : nm p.1 = nm q.1
    · rw [if_pos (by simpa using hq)]
      obtain ⟨i, hi⟩ := List.mem_iff_getElem?.1 hp
      have h0 := h i 0 p q hi rfl hq
      subst h0
      simp at hi
      rw [hi]
    · rw [if_neg (by simpa using hq)]
      refine ih (fun i j p q hi hj he => ?_) p ?_
      · have := h (i + 1) (j + 1) p q (by simpa using hi) (by simpa using hj) he
        omega
      · rcases List.mem_cons.1 hp with rfl | hp
        · exact absurd rfl hq
        · exact hp
theorem keysL_map {l : Ents} (hk : ∀ p ∈ l, Pl.isKey p.1 = true) (now : Int) : (keysL l now).map baOf = (l.filter (fun p => !Pl.gone p.2.exp now)).map (·.1) := by
  unfold keysL
  rw [List.map_map]
  refine List.map_congr_left fun p hp => ?_
  exact trim_key (hk p ((List.mem_filter.1 hp).1))
theorem keysM_perm {l : Ents} (hk : ∀ p ∈ l, Pl.isKey p.1 = true) (now : Int) : (keysM l now).Perm ((l.filter (fun p => !Pl.gone p.2.exp now)).map (·.1)) := by
  rw [← keysL_map hk now]
  exact (List.mergeSort_perm _ _).map baOf
theorem inj_pairwise {l : Ents} (h : Inj (fun p => nm p.1) l) : (l.map (·.1)).Nodup := by
  rw [List.Nodup, List.pairwise_map, List.pairwise_iff_getElem]
  intro i j hi hj hij e
  have := h i j l[i] l[j] (List.getElem?_eq_getElem hi) (List.getElem?_eq_getElem hj) (by simp only; rw [e])
  omega
theorem keysM_nodup {l : Ents} {laid : Int} (h : NumInv l laid) (now : Int) : (keysM l now).Nodup :=
  (keysM_perm h.key now).nodup_iff.2 ((inj_pairwise h.name).sublist (List.filter_sublist.map _))
theorem keysM_get {l : Ents} {laid : Int} (h : NumInv l laid) {now : Int} {i : Nat} {k : ByteArray} (hi : (keysM l now)[i]? = some k) : ∃ x, getN l k now = some x ∧ (k, x) ∈ l := by
  have hm := (keysM_perm h.key now).mem_iff.1 (List.mem_of_getElem? hi)
  obtain ⟨p, hp, rfl⟩ := List.mem_map.1 hm
  have hpl := (List.mem_filter.1 hp).1
  have hg := (List.mem_filter.1 hp).2
  refine ⟨p.2, ?_, hpl⟩
  rw [getN_findE, findE_of_mem h.name p hpl]
  simp only
  rw [trim_key (h.key p hpl)]
  simp at hg
  simp [hg]
theorem keysM_cas {l : Ents} {laid : Int} (h : NumInv l laid) {now : Int} {i j : Nat} {k k' : ByteArray} {x x' : Ent} (hi : (keysM l now)[i]? = some k) (hj : (keysM l now)[j]? = some k') (hx : getN l k now = some x) (hx' : getN l k' now = some x') (he : x.cas = x'.cas) : i = j := by
  obtain ⟨y, h1, m1⟩ := keysM_get h hi
  obtain ⟨y', h2, m2⟩ := keysM_get h hj
  rw [hx] at h1; injection h1 with h1; subst h1
  rw [hx'] at h2; injection h2 with h2; subst h2
  obtain ⟨a, ha⟩ := List.mem_iff_getElem?.1 m1
  obtain ⟨b, hb⟩ := List.mem_iff_getElem?.1 m2
  have hab := h.cas a b _ _ ha hb he
  subst hab
  rw [ha] at hb
  injection hb with hb
  injection hb with hk
  subst hk
  have hn := keysM_nodup h now
  have hil := (List.getElem?_eq_some_iff.1 hi).1
  have hjl := (List.getElem?_eq_some_iff.1 hj).1
  exact (List.getElem_inj (h₀ := hil) (h₁ := hjl) hn).1 ((List.getElem?_eq_some_iff.1 hi).2.trans (List.getElem?_eq_some_iff.1 hj).2.symm)
theorem getN_key {l : Ents} {laid : Int} (h : NumInv l laid) {k : ByteArray} {now : Int} {x : Ent} (hx : getN l k now = some x) : Pl.isKey k = true ∧ (k, x) ∈ l := by
  obtain ⟨h1, h2, _⟩ := getN_some hx
  obtain ⟨p, hp, hn, rfl⟩ := findE_mem h1
  have : k = p.1 := by rw [← h2, hn, trim_key (h.key p hp)]
  subst this
  exact ⟨h.key p hp, hp⟩

theorem findG_snoc {α β : Type} [DecidableEq α] (l : List (α × β)) (k c : α) (v : β) : findG c (l ++ [(k, v)]) = match findG c l with | some x => some x | none => if c = k then some v else none := by
  induction l with
  | nil => simp [findG]
  | cons p r ih =>
    simp only [List.cons_append, findG]
    split
    · rfl
    · exact ih
theorem findG_put_none {α β : Type} [DecidableEq α] {l : List (α × β)} {k : α} (h : findG k l = none) (v : β) : putG l k v = l ++ [(k, v)] := by
  unfold putG
  cases hq : posG k l 0 with
  | none => rfl
  | some x => have := posG_find k l 0; rw [hq, h] at this; cases this

/-- numbers that were seen: those of the first k keys. -/
def Seen (l : Ents) (now : Int) (k : Nat) (sl : List (Int × Bool)) : Prop := ∀ c v, findG c sl = some v → ∃ i kk x, i < k ∧ (keysM l now)[i]? = some kk ∧ getN l kk now = some x ∧ x.cas = c
theorem Seen.start (l : Ents) (now : Int) : Seen l now 0 [] := fun c v h => by cases h
theorem Seen.fresh {l : Ents} {laid now : Int} (h : NumInv l laid) {k : Nat} {sl : List (Int × Bool)} (hs : Seen l now k sl) {kk : ByteArray} {x : Ent} (hk : (keysM l now)[k]? = some kk) (hx : getN l kk now = some x) : findG x.cas sl = none := by
  cases hq : findG x.cas sl with
  | none => rfl
  | some v =>
    obtain ⟨i, k', x', hi, h1, h2, h3⟩ := hs _ _ hq
    have := keysM_cas h h1 hk h2 hx h3
    omega
theorem Seen.step {l : Ents} {now : Int} {k : Nat} {sl : List (Int × Bool)} (hs : Seen l now k sl) {kk : ByteArray} {x : Ent} (hk : (keysM l now)[k]? = some kk) (hx : getN l kk now = some x) (hf : findG x.cas sl = none) : Seen l now (k + 1) (putG sl x.cas true) := by
  intro c v h
  rw [findG_put_none hf, findG_snoc] at h
  cases hq : findG c sl with
  | some y =>
    obtain ⟨i, k', x', hi, h1, h2, h3⟩ := hs _ _ hq
    exact ⟨i, k', x', by omega, h1, h2, h3⟩
  | none =>
    rw [hq] at h
    simp only at h
    split at h
    · rename_i he
      exact ⟨k, kk, x, by omega, hk, hx, he.symm⟩
    · cases h

def bNew : ByteArray := ⟨#[110, 101, 119]⟩
def casC (k : ByteArray) (n : Int) : Cmd := ⟨10, [k], 0, 0, bNew, n, 0, false⟩
theorem cas_check {k : ByteArray} {n : Int} (hk : Pl.isKey k = true) : errOf (casC k n) 1000 = 0 := by
  have hc : Pl.check (casC k n) = 0 := check_of rfl (by simp [casC, Pl.same, Pl.stores, Pl.hasEnds, Pl.isReads, ba_self]) rfl (by simp [casC, hk]) (show bNew.size ≤ 2000 by decide)
  unfold errOf; rw [hc]; rfl
theorem cas_small {k : ByteArray} {n : Int} (hk : Pl.isKey k = true) : small (casC k n) :=
  ⟨by simp [casC], (show bNew.size ≤ 9223372036854775807 by decide), fun s hs => by simp [casC] at hs; subst hs; have := (key_size hk).2; omega, by simp [casC], by simp [casC]⟩
theorem cas_first {l : Ents} {laid : Int} {k : ByteArray} {x : Ent} (hk : Pl.isKey k = true) (hg : getN l k 1000 = some x) : doM (casC k x.cas) 1000 false l laid = ⟨2, [], 0, putN l k ⟨bNew, 0, 0, u64 (laid + 1)⟩, u64 (laid + 1)⟩ := by
  unfold doM
  rw [if_pos (cas_check hk)]
  rw [doIn_store (k := k) (rest := []) (old := x) (is := true) (casC k x.cas) 1000 _ false l laid (by simp [casC]) (by simp [casC]) rfl (by rw [hg]; rfl) (by rw [hg]; rfl) rfl]
  unfold storeM
  rw [if_neg (by simp [mayC, casC])]
  rfl
theorem cas_again {l : Ents} {laid : Int} {k : ByteArray} {x : Ent} {n : Int} (hk : Pl.isKey k = true) (hg : getN l k 1000 = some x) (hn : x.cas ≠ n) : doM (casC k n) 1000 false l laid = ⟨4, [], 0, l, laid⟩ := by
  unfold doM
  rw [if_pos (cas_check hk)]
  rw [doIn_store (k := k) (rest := []) (old := x) (is := true) (casC k n) 1000 _ false l laid (by simp [casC]) (by simp [casC]) rfl (by rw [hg]; rfl) (by rw [hg]; rfl) rfl]
  have hm : mayC (casC k n) x true = 4 := by simp [mayC, casC, hn]
  unfold storeM
  rw [if_pos (by rw [hm]; decide), hm]
theorem cas_found {l : Ents} {k : ByteArray} {n : Int} (hk : Pl.isKey k = true) : getN (putN l k ⟨bNew, 0, 0, n⟩) k 1000 = some ⟨bNew, 0, 0, n⟩ := by
  have hf : findE k (putN l k ⟨bNew, 0, 0, n⟩) = some ⟨bNew, 0, 0, n⟩ := by
    unfold putN
    cases hq : posE k l 0 with
    | none =>
      have hnone : findE k l = none := by rw [← posE_findE k l 0, hq]; rfl
      simp only
      clear hq
      induction l with
      | nil => simp [findE]
      | cons q r ih =>
        simp only [findE] at hnone
        split at hnone
        · cases hnone
        · rename_i hq
          simp only [List.cons_append, findE, hq, Bool.false_eq_true, if_false]
          exact ih hnone
    | some x =>
      obtain ⟨i, e0⟩ := x
      have key : ∀ (l : Ents) (s i : Nat) (e0 : Ent), posE k l s = some (s + i, e0) → findE k (l.modify i (fun p => (p.1, ⟨bNew, 0, 0, n⟩))) = some ⟨bNew, 0, 0, n⟩ := by
        intro l
        induction l with
        | nil => intro s i e0 h; simp [posE] at h
        | cons q r ih =>
          intro s i e0 h
          simp only [posE] at h
          split at h
          · rename_i hq
            simp only [Option.some.injEq, Prod.mk.injEq] at h
            obtain rfl : i = 0 := by omega
            simp only [List.modify_zero_cons, findE, hq, if_true]
          · rename_i hq
            obtain ⟨_, h1, _⟩ := posE_spec k r (s + 1) _ _ h
            obtain ⟨i', rfl⟩ : ∃ i', i = i' + 1 := ⟨i - 1, by omega⟩
            simp only [List.modify_succ_cons, findE, hq, Bool.false_eq_true, if_false]
            exact ih (s + 1) i' e0 (by rw [h]; congr 2; omega)
      exact key l 0 i e0 (by simpa using hq)
  rw [getN_findE, hf]
  simp only
  rw [trim_key hk]
  simp [Pl.gone]
end Go.Proofs.YthcdocedpcjbeaaGreatDoor

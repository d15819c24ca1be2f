/-
  Plain laws of the model: names are apart, the numbers that make entries apart are too.
-/
import Derived.Test.YthcdocedpcjbeaaGreatDoorPo
namespace Go.Proofs.YthcdocedpcjbeaaGreatDoor
open Go.RowKit

/-- no two entries have one f. -/
def Inj {β : Type} (f : ByteArray × Ent → β) (l : Ents) : Prop := ∀ (i j : Nat) p q, l[i]? = some p → l[j]? = some q → f p = f q → i = j
theorem inj_nil {β : Type} (f : ByteArray × Ent → β) : Inj f [] := fun i j p q h => by simp at h
theorem inj_modify {β : Type} {f : ByteArray × Ent → β} {l : Ents} (h : Inj f l) (i : Nat) (g : ByteArray × Ent → ByteArray × Ent)
    (hg : ∀ p j q, l[i]? = some p → l[j]? = some q → j ≠ i → f (g p) ≠ f q) : Inj f (l.modify i g) := by
  intro a b p q ha hb e
  rw [List.getElem?_modify] at ha hb
  cases hy : l[a]? with
  | none => rw [hy] at ha; simp at ha
  | some y =>
    cases hz : l[b]? with
    | none => rw [hz] at hb; simp at hb
    | some z =>
      rw [hy] at ha; rw [hz] at hb
      by_cases h1 : i = a
      · by_cases h2 : i = b
        · omega
        · subst h1
          simp at ha
          simp [h2] at hb
          subst ha hb
          exact absurd e (hg y b z hy hz (fun h => h2 h.symm))
      · by_cases h2 : i = b
        · subst h2
          simp [h1] at ha
          simp at hb
          subst ha hb
          exact absurd e.symm (hg z a y hz hy (fun h => h1 h.symm))
        · simp [h1] at ha
          simp [h2] at hb
          subst ha hb
          exact h a b y z hy hz e
theorem inj_snoc {β : Type} {f : ByteArray × Ent → β} {l : Ents} (h : Inj f l) (x : ByteArray × Ent) (hx : ∀ p ∈ l, f x ≠ f p) : Inj f (l ++ [x]) := by
  intro a b p q ha hb e
  by_cases h1 : a < l.length
  · rw [List.getElem?_append_left h1] at ha
    by_cases h2 : b < l.length
    · rw [List.getElem?_append_left h2] at hb
      exact h a b p q ha hb e
    · rw [List.getElem?_append_right (by omega)] at hb
      have hb0 : b - l.length = 0 := by rcases hq : b - l.length with _ | n; rfl; rw [hq] at hb; simp at hb
      rw [hb0] at hb
      simp at hb
      subst hb
      exact absurd e.symm (hx p (List.mem_of_getElem? ha))
  · rw [List.getElem?_append_right (by omega)] at ha
    have ha0 : a - l.length = 0 := by rcases hq : a - l.length with _ | n; rfl; rw [hq] at ha; simp at ha
    rw [ha0] at ha
    simp at ha
    subst ha
    by_cases h2 : b < l.length
    · rw [List.getElem?_append_left h2] at hb
      exact absurd e (hx q (List.mem_of_getElem? hb))
    · rw [List.getElem?_append_right (by omega)] at hb
      have hb0 : b - l.length = 0 := by rcases hq : b - l.length with _ | n; rfl; rw [hq] at hb; simp at hb
      omega
theorem inj_erase {β : Type} {f : ByteArray × Ent → β} {l : Ents} (h : Inj f l) (i : Nat) : Inj f (l.eraseIdx i) := by
  intro a b p q ha hb e
  rw [List.getElem?_eraseIdx] at ha hb
  split at ha <;> split at hb
  · exact h a b p q ha hb e
  · have := h a (b + 1) p q ha hb e; omega
  · have := h (a + 1) b p q ha hb e; omega
  · have := h (a + 1) (b + 1) p q ha hb e; omega

theorem findE_none {k : ByteArray} : ∀ {l : Ents}, findE k l = none → ∀ p ∈ l, nm k ≠ nm p.1
  | [], _, p, hp => by simp at hp
  | q :: r, h, p, hp => by
    simp only [findE] at h
    split at h
    · cases h
    · rename_i hq
      rcases List.mem_cons.1 hp with rfl | hp
      · simpa using hq
      · exact findE_none h p hp
theorem findE_mem {k : ByteArray} : ∀ {l : Ents} {e : Ent}, findE k l = some e → ∃ p ∈ l, nm k = nm p.1 ∧ p.2 = e
  | [], _, h => by simp [findE] at h
  | q :: r, e, h => by
    simp only [findE] at h
    split at h
    · rename_i hq
      injection h with h
      exact ⟨q, List.mem_cons_self .., by simpa using hq, h⟩
    · obtain ⟨p, hp, h1, h2⟩ := findE_mem h
      exact ⟨p, List.mem_cons_of_mem _ hp, h1, h2⟩

/-- what holds of a model's entries all along: the names are apart, the numbers too. -/
structure NumInv (l : Ents) (laid : Int) : Prop where
  ok : OkE l
  key : ∀ p ∈ l, Pl.isKey p.1 = true
  name : Inj (fun p => nm p.1) l
  cas : Inj (fun p => p.2.cas) l
  bd : ∀ p ∈ l, 1 ≤ p.2.cas ∧ p.2.cas ≤ laid
theorem NumInv.nil {laid : Int} : NumInv [] laid := ⟨⟨fun _ h => (by cases h), fun _ h => (by cases h)⟩, fun _ h => (by cases h), inj_nil _, inj_nil _, fun _ h => (by cases h)⟩

theorem mem_modify {l : Ents} {i : Nat} {g : ByteArray × Ent → ByteArray × Ent} {p : ByteArray × Ent} (hp : p ∈ l.modify i g) : p ∈ l ∨ ∃ q, l[i]? = some q ∧ p = g q := by
  rw [List.mem_iff_getElem?] at hp
  obtain ⟨j, hj⟩ := hp
  rw [List.getElem?_modify] at hj
  cases hy : l[j]? with
  | none => rw [hy] at hj; simp at hj
  | some y =>
    rw [hy] at hj
    by_cases hij : i = j
    · subst hij; simp at hj; exact .inr ⟨y, hy, hj.symm⟩
    · simp [hij] at hj; subst hj; exact .inl (List.mem_of_getElem? hy)
theorem NumInv.put {l : Ents} {laid laid' : Int} (h : NumInv l laid) {k : ByteArray} (hk : Pl.isKey k = true) {e : Ent} (he : BdE e) (hv : e.val.size ≤ 2000) (hle : laid ≤ laid') (hc : 1 ≤ e.cas ∧ e.cas ≤ laid')
    (hfresh : laid < e.cas ∨ ∃ e0, findE k l = some e0 ∧ e.cas = e0.cas) : NumInv (putN l k e) laid' := by
  have hok := okE_put h.ok k he hv
  unfold putN at hok ⊢
  cases hq : posE k l 0 with
  | none =>
    rw [hq] at hok
    have hnone : findE k l = none := by rw [← posE_findE k l 0, hq]; rfl
    have hfr : laid < e.cas := by
      rcases hfresh with h | ⟨e0, h, _⟩
      · exact h
      · rw [hnone] at h; cases h
    refine ⟨hok, ?_, inj_snoc h.name _ (fun p hp => findE_none hnone p hp), inj_snoc h.cas _ (fun p hp => by have := (h.bd p hp).2; simp only; omega), ?_⟩
    · intro p hp
      rcases List.mem_append.1 hp with hp | hp
      · exact h.key p hp
      · simp at hp; subst hp; exact hk
    · intro p hp
      rcases List.mem_append.1 hp with hp | hp
      · have := h.bd p hp; omega
      · simp at hp; subst hp; exact hc
  | some x =>
    obtain ⟨i, e0⟩ := x
    rw [hq] at hok
    obtain ⟨p0, _, hi, hn, rfl⟩ := posE_spec k l 0 i e0 hq
    simp only [Nat.sub_zero] at hi
    have hsome : findE k l = some p0.2 := by rw [← posE_findE k l 0, hq]; rfl
    refine ⟨hok, ?_, ?_, ?_, ?_⟩
    · intro p hp
      rcases mem_modify hp with hp | ⟨q, hq, rfl⟩
      · exact h.key p hp
      · exact h.key q (List.mem_of_getElem? hq)
    · exact inj_modify h.name i _ fun p j q hp hq hne e => hne (h.name j i q p hq hp e.symm)
    · refine inj_modify h.cas i _ fun p j q hp hq hne e1 => ?_
      simp only at e1
      rcases hfresh with hf | ⟨e2, h2, h3⟩
      · have := (h.bd q (List.mem_of_getElem? hq)).2; omega
      · rw [hsome] at h2
        injection h2 with h2
        rw [hi] at hp
        injection hp with hp
        subst hp
        refine hne (h.cas j i q p0 hq hi ?_)
        simp only
        rw [← e1, h3, h2]
    · intro p hp
      rcases mem_modify hp with hp | ⟨q, hq, rfl⟩
      · have := h.bd p hp; omega
      · exact hc
theorem NumInv.sub {l l' : Ents} {laid : Int} (h : NumInv l laid) (hs : l' = l ∨ ∃ i, l' = l.eraseIdx i) : NumInv l' laid := by
  rcases hs with rfl | ⟨i, rfl⟩
  · exact h
  · have hm : ∀ p ∈ l.eraseIdx i, p ∈ l := fun p hp => (List.eraseIdx_sublist _ _).subset hp
    exact ⟨okE_sub h.ok hm, fun p hp => h.key p (hm p hp), inj_erase h.name i, inj_erase h.cas i, fun p hp => h.bd p (hm p hp)⟩
theorem dropM_erase (l : Ents) (k : ByteArray) : dropM l k = l ∨ ∃ i, dropM l k = l.eraseIdx i := by
  unfold dropM
  split
  · unfold dropN
    split
    · exact .inr ⟨_, rfl⟩
    · exact .inl rfl
  · exact .inl rfl
theorem getN_some {l : Ents} {k : ByteArray} {now : Int} {e : Ent} (h : getN l k now = some e) : findE k l = some e ∧ trim (nm k) = k ∧ Pl.gone e.exp now = false := by
  rw [getN_findE] at h
  cases hf : findE k l with
  | none => rw [hf] at h; cases h
  | some e0 =>
    rw [hf] at h
    simp only at h
    split at h
    · rename_i h1
      injection h with h
      subst h
      simp at h1
      exact ⟨rfl, h1⟩
    · cases h
theorem NumInv.put_exp {l : Ents} {laid : Int} (h : NumInv l laid) {k : ByteArray} (hk : Pl.isKey k = true) {e : Ent} (hf : findE k l = some e) {x : Int} (hx : 0 ≤ x ∧ x < 4294967296) : NumInv (putN l k { e with exp := x }) laid := by
  obtain ⟨p, hp, _, rfl⟩ := findE_mem hf
  exact h.put hk (e := { p.2 with exp := x }) hx (h.ok.2 p hp) (Int.le_refl _) (h.bd p hp) (.inr ⟨p.2, hf, rfl⟩)
theorem NumInv.reads {l : Ents} {laid : Int} (h : NumInv l laid) {gat : Bool} {ends now : Int} (he : 0 ≤ ends ∧ ends < 4294967296) : ∀ (ks : List ByteArray) (s : Ents × List Hit), (∀ k ∈ ks, Pl.isKey k = true) → NumInv s.1 laid → NumInv (ks.foldl (readS gat ends now) s).1 laid
  | [], s, _, hs => hs
  | k :: r, s, hk, hs => by
    refine NumInv.reads h he r _ (fun k hk' => hk k (List.mem_cons_of_mem _ hk')) ?_
    unfold readS
    cases hq : getN s.1 k now with
    | none => exact hs
    | some x =>
      cases gat
      · exact hs
      · exact hs.put_exp (hk k (List.mem_cons_self ..)) (getN_some hq).1 he

theorem u64_of {n : Int} (h : 0 ≤ n) (h1 : n < 18446744073709551616) : u64 n = n := by unfold u64 IntKind.wrap; simp [IntKind.signed, IntKind.bits]; omega
/-- a command: the entries stay apart; the count rises by what was laid in. -/
theorem NumInv.do_ {l : Ents} {laid : Int} (h : NumInv l laid) (h0 : 0 ≤ laid) (h1 : laid < 18446744073709551615) (c : Cmd) (now : Int) (failed : Bool) (hd : 0 ≤ c.delta) :
    NumInv (doM c now failed l laid).l (doM c now failed l laid).laid ∧ (doM c now failed l laid).laid = if (doM c now failed l laid).code = 2 ∨ (doM c now failed l laid).code = 7 then laid + 1 else laid := by
  have hu : u64 (laid + 1) = laid + 1 := u64_of (by omega) (by omega)
  refine doM_cases (P := fun o => NumInv o.l o.laid ∧ o.laid = if o.code = 2 ∨ o.code = 7 then laid + 1 else laid) c now failed l laid (fun _ => ⟨h, rfl⟩) (fun _ _ => ⟨NumInv.nil, rfl⟩) ?_ ?_ (fun _ _ _ _ _ => ⟨h, rfl⟩)
    (fun k _ _ _ _ _ _ => ⟨h.sub (dropM_erase l k), rfl⟩) ?_ ?_
  · intro he _ _
    have hka := (check_ok (err_zero he).1).2.2.2.1
    rw [List.all_eq_true] at hka
    exact ⟨h.reads (bd_ends (err_zero he).2) c.keys (l, []) hka h, rfl⟩
  · intro k _ hkey he _
    have hends := bd_ends (exp := c.exp) (err_zero he).2
    have hbd := getN_bd h.ok k now
    generalize (getN l k now).getD zeroE = old at hbd ⊢
    have hl1 : NumInv (if c.kind = 5 ∧ failed = true then dropM l k else l) laid := by split; exact h.sub (dropM_erase l k); exact h
    have hx : BdE (laidE c (Pl.ends now c.exp) old) := by unfold laidE; split; exact hbd; split; exact hbd; exact hends
    unfold storeM
    by_cases hm : mayC c old (getN l k now).isSome ≠ 0
    · simp only [if_pos hm]
      refine ⟨h, ?_⟩
      have : mayC c old (getN l k now).isSome ≠ 2 ∧ mayC c old (getN l k now).isSome ≠ 7 := by
        unfold mayC
        repeat (first | split | decide)
      rw [if_neg (by omega)]
    · simp only [if_neg hm]
      by_cases hz : 2000 < (laidE c (Pl.ends now c.exp) old).val.size
      · simp only [if_pos hz]
        exact ⟨hl1, by simp⟩
      · simp only [if_neg hz]
        cases failed
        · simp only [Bool.false_eq_true, if_false]
          rw [hu]
          exact ⟨NumInv.put (by simpa using hl1) hkey (e := { laidE c (Pl.ends now c.exp) old with cas := laid + 1 }) hx (by simpa using hz) (by omega) (by simp only; omega) (.inl (by simp only; omega)), by simp⟩
        · simp only [if_true]
          exact ⟨by simpa using hl1, by simp⟩
  · intro k e _ hkey he _ hg
    exact ⟨h.put_exp hkey (getN_some hg).1 (bd_ends (err_zero he).2), by simp⟩
  · intro k e _ hkey he _ hg
    have hbd := getN_bd h.ok k now
    rw [hg] at hbd
    simp only [Option.getD_some] at hbd
    unfold countM
    by_cases hp : (parse e.val).2 ≠ 0
    · simp only [if_pos hp]; exact ⟨h, by simp⟩
    · simp only [if_neg hp]
      cases failed
      · simp only [Bool.false_eq_true, if_false]
        rw [hu]
        exact ⟨h.put hkey (e := { e with val := dec (countV c e).toNat, cas := laid + 1 }) hbd (dec_size (by have := countV_bd (c := c) (old := e) hd; omega)) (by omega) (by simp only; omega) (.inl (by simp only; omega)), by simp⟩
      · simp only [if_true]
        exact ⟨h, by simp⟩
end Go.Proofs.YthcdocedpcjbeaaGreatDoor

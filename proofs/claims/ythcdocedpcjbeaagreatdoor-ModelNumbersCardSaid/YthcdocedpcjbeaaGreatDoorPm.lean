/-
  Plain laws of the model: how many entries there are.
-/
import Derived.Test.YthcdocedpcjbeaaGreatDoorPo
namespace Go.Proofs.YthcdocedpcjbeaaGreatDoor
open Go.RowKit

theorem putN_len (l : Ents) (k : ByteArray) (e : Ent) : (putN l k e).length ≤ l.length + 1 := by
  unfold putN
  split
  · simp
  · simp
theorem putN_len_some {l : Ents} {k : ByteArray} {e0 : Ent} (h : findE k l = some e0) (e : Ent) : (putN l k e).length = l.length := by
  unfold putN
  cases hq : posE k l 0 with
  | none => have := posE_findE k l 0; rw [hq, h] at this; cases this
  | some x => obtain ⟨i, x⟩ := x; simp
theorem dropM_len (l : Ents) (k : ByteArray) : (dropM l k).length ≤ l.length := by
  unfold dropM
  split
  · unfold dropN
    split
    · exact (List.eraseIdx_sublist _ _).length_le
    · exact Nat.le_refl _
  · exact Nat.le_refl _
theorem getN_findE_some {l : Ents} {k : ByteArray} {now : Int} {e : Ent} (h : getN l k now = some e) : findE k l = some e := by
  rw [getN_findE] at h
  cases hf : findE k l with
  | none => rw [hf] at h; cases h
  | some e0 =>
    rw [hf] at h
    simp only at h
    split at h
    · exact h
    · cases h
theorem do_len (c : Cmd) (now : Int) (failed : Bool) (l : Ents) (laid : Int) : (doM c now failed l laid).l.length ≤ l.length + 1 := by
  refine doM_cases (P := fun o => o.l.length ≤ l.length + 1) c now failed l laid (fun _ => Nat.le_succ _) (fun _ _ => Nat.zero_le _) ?_ ?_ (fun _ _ _ _ _ => Nat.le_succ _) (fun k _ _ _ _ _ _ => Nat.le_succ_of_le (dropM_len l k)) (fun k e _ _ _ _ _ => putN_len _ _ _) ?_
  · intro _ _ _
    have : ∀ (ks : List ByteArray) (s : Ents × List Hit), (ks.foldl (readS (isGat c.kind) (Pl.ends now c.exp) now) s).1.length = s.1.length := by
      intro ks
      induction ks with
      | nil => intro s; rfl
      | cons k r ih =>
        intro s
        refine (ih _).trans ?_
        unfold readS
        cases hq : getN s.1 k now with
        | none => rfl
        | some x =>
          cases isGat c.kind
          · rfl
          · exact putN_len_some (getN_findE_some hq) _
    exact Nat.le_succ_of_le (Nat.le_of_eq (this c.keys (l, [])))
  · intro k _ _ _ _
    have hl1 : (if c.kind = 5 ∧ failed = true then dropM l k else l).length ≤ l.length := by split; exact dropM_len l k; exact Nat.le_refl _
    unfold storeM
    split
    · exact Nat.le_succ _
    · simp only
      split
      · exact Nat.le_succ_of_le hl1
      · split
        · exact Nat.le_succ_of_le hl1
        · exact Nat.le_trans (putN_len _ _ _) (Nat.succ_le_succ hl1)
  · intro k e _ _ _ _ _
    unfold countM
    split
    · exact Nat.le_succ _
    · split
      · exact Nat.le_succ _
      · exact putN_len _ _ _
end Go.Proofs.YthcdocedpcjbeaaGreatDoor

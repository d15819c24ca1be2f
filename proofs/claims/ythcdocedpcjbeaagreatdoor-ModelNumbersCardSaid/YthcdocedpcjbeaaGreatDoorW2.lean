/-
  The walks of fnv.Key and of the search for a key that is none.
-/
import Derived.Test.YthcdocedpcjbeaaGreatDoorW1
namespace Go.Proofs.YthcdocedpcjbeaaGreatDoor
open Go.RowKit

set_option maxHeartbeats 400000 in
theorem isKey_no0 (w : World) :
    Calls Tryz.prog 76 #[.string ⟨#[]⟩] w fun e w' => e = .returned (.bool false) ∧ w = w' := by
  go_enter Tryz.func76, Tryz.ntmps76
  go_wp2
  all_goals go_ret
  all_goals exact ⟨rfl, rfl⟩

theorem all_take_succ (s : ByteArray) (p : UInt8 → Bool) (k : Nat) (h : k < s.size) : (s.data.toList.take (k + 1)).all p = ((s.data.toList.take k).all p && p s[k]) := by
  rw [List.take_succ_eq_append_getElem (by simpa using h), List.all_append]
  simp; rfl
set_option maxHeartbeats 400000 in
theorem isKey_any (s : ByteArray) (w : World) (hs : s.size ≤ 9223372036854775807) :
    Calls Tryz.prog 76 #[.string s] w fun e w' => e = .returned (.bool (Pl.isKey s)) ∧ w = w' := by
  by_cases h0 : s.size = 0
  · obtain rfl := empty_of_size h0
    exact (isKey_no0 w).mono fun _ _ h => h
  · have he : s.toList.isEmpty = false := isEmpty_false h0
    by_cases h1 : s.size ≤ 32
    · have H0 := hide h0
      clear h0
      go_enter Tryz.func76, Tryz.ntmps76
      go_wp2
      go_loop [13] (fun i => ∃ k : Nat, k ≤ s.size ∧ i = .int .i64 k ∧ Hid ((s.data.toList.take k).all Pl.keyByte = true)) (fun i => s.size - (intOf i).toNat)
      case atStart => exact ⟨0, Nat.zero_le _, rfl, rfl⟩
      case round =>
        obtain ⟨k, hk, rfl, ha⟩ := hrel
        by_cases hlt : k < s.size
        · have hts := all_take_succ s Pl.keyByte k hlt
          rw [ha.out, Bool.true_and] at hts
          have HS := hide hts
          clear hts
          go_wp2
          all_goals first
            | (go_ret
               refine ⟨ret_bool ?_, rfl⟩
               have hn : Pl.keyByte s[k] = false := by simp only [Pl.keyByte]; simp; omega
               have hall : s.data.toList.all Pl.keyByte = false := by
                 rw [List.all_eq_false]
                 exact ⟨s[k], List.getElem_mem (l := s.data.toList) (n := k) (by simpa using hlt), by simp [hn]⟩
               simp [Pl.isKey, hall])
            | (go_round
               case rel =>
                 refine ⟨k + 1, by omega, by go_num, ?_⟩
                 have h := HS.out
                 refine hide (h.trans ?_)
                 simp only [Pl.keyByte]; simp; omega
               case measure => simp [intOf]; omega)
        · go_wp2
          go_ret
          refine ⟨ret_bool ?_, rfl⟩
          have := ha.out
          rw [List.take_of_length_le (by simp; omega)] at this
          have := H0.out
          simp [Pl.isKey, *]
          omega
    · go_enter Tryz.func76, Tryz.ntmps76
      go_wp2
      all_goals go_ret
      all_goals exact ⟨ret_bool (by simp [Pl.isKey, h1]), rfl⟩
/-- A row of strings in memory. -/
def Strs (w : World) (A : Option Addr) (ks : List ByteArray) : Prop :=
  ∀ (i : Nat) (s : ByteArray), ks[i]? = some s → ∃ ad, A = some ad ∧ w.cell? (ad.add i) = some (.string s)

theorem cell_lt {w : World} {a : Addr} {v : Value} (h : w.cell? a = some v) : a.block < w.heap.size := by
  rcases Nat.lt_or_ge a.block w.heap.size with hlt | hge
  · exact hlt
  · unfold World.cell? at h; rw [Array.getElem?_eq_none hge] at h; cases h
theorem add_block (a : Addr) (n : Nat) : (a.add n).block = a.block := by unfold Addr.add; split <;> rfl
theorem Strs.chg {S : Nat → Prop} {w w' : World} {A : Option Addr} {ks : List ByteArray} (h : Strs w A ks) (hc : Chg S w w')
    (hS : ∀ a s, w.cell? a = some (.string s) → ¬ S a.block) : Strs w' A ks := by
  intro i s hi
  obtain ⟨ad, rfl, hcell⟩ := h i s hi
  refine ⟨ad, rfl, ?_⟩
  rw [World.cell?_of_block (hc.block _ (cell_lt hcell) (hS _ _ hcell))]
  exact hcell
theorem Strs.below {w w' : World} {A : Option Addr} {ks : List ByteArray} (h : Strs w A ks) (hc : Below w.heap.size w w') : Strs w' A ks :=
  h.chg (S := fun _ => False) (Chg.of_below hc) (fun _ _ _ x => x)
theorem Strs.drew {w : World} {A : Option Addr} {ks : List ByteArray} (h : Strs w A ks) : Strs w.drew A ks := h
theorem Strs.drewN {w : World} {A : Option Addr} {ks : List ByteArray} (h : Strs w A ks) (n : Nat) : Strs (w.drewN n) A ks := h
theorem Strs.tail {w : World} {A : Option Addr} {k : ByteArray} {ks : List ByteArray} (h : Strs w A (k :: ks)) : ∃ ad, A = some ad ∧ w.cell? ad = some (.string k) := by
  obtain ⟨ad, e, hc⟩ := h 0 k rfl
  exact ⟨ad, e, by simpa [Addr.add] using hc⟩

set_option maxHeartbeats 400000 in
theorem noKey_any (s : ByteArray) (w : World) (hs : s.size ≤ 9223372036854775807) :
    Calls Tryz.prog 75 #[.string s] w fun e w' => e = .returned (.bool (!Pl.isKey s)) ∧ w = w' := by
  go_enter Tryz.func75, Tryz.ntmps75
  go_wp2_with (go_at_call 76; refine (isKey_any _ _ hs).mono ?_; rintro e w' ⟨rfl, rfl⟩)
  go_ret
  exact ⟨rfl, rfl⟩

theorem all_take_succ' (l : List ByteArray) (p : ByteArray → Bool) (k : Nat) (s : ByteArray) (h : l[k]? = some s) : (l.take (k + 1)).all p = ((l.take k).all p && p s) := by
  obtain ⟨hk, rfl⟩ := List.getElem?_eq_some_iff.1 h
  rw [List.take_succ_eq_append_getElem hk, List.all_append]
  simp

set_option maxHeartbeats 400000 in
/-- where the first text is that is no key; below nought: nowhere. -/
theorem findNoKey_any (A : Option Addr) (c : Nat) (ks : List ByteArray) (w : World) (hr : Strs w A ks) (hl : ks.length ≤ 9223372036854775807) (hsz : ∀ s ∈ ks, s.size ≤ 9223372036854775807) :
    Calls Tryz.prog 117 #[.slice A ks.length c, .func (.func 75) #[] #[]] w
      fun e w' => (∃ n : Int, e = .returned (.int .i64 n) ∧ decide (0 ≤ n) = !(ks.all Pl.isKey)) ∧ w = w' := by
  have HR := hide hr
  have HZ := hide hsz
  clear hr hsz
  go_enter Tryz.func117, Tryz.ntmps117
  go_wp2
  go_loop [8] (fun i => ∃ k : Nat, k ≤ ks.length ∧ i = .int .i64 k ∧ Hid ((ks.take k).all Pl.isKey = true)) (fun i => ks.length - (intOf i).toNat)
  case atStart => exact ⟨0, Nat.zero_le _, rfl, rfl⟩
  case round =>
    obtain ⟨k, hk, rfl, ha⟩ := hrel
    by_cases hlt : k < ks.length
    · obtain ⟨s, hs⟩ : ∃ s, ks[k]? = some s := ⟨_, List.getElem?_eq_getElem hlt⟩
      obtain ⟨ad, rfl, hc⟩ := HR.out k s hs
      have hts := all_take_succ' ks Pl.isKey k s hs
      rw [ha.out, Bool.true_and] at hts
      have HS := hide hts
      have hz := HZ.out s (List.mem_of_getElem? hs)
      have HK := hide hs
      clear hts hs
      cases hb : Pl.isKey s
      · go_wp2_with (refine (noKey_any _ _ hz).mono ?_; rintro e w' ⟨rfl, rfl⟩)
        go_ret
        refine ⟨⟨k, rfl, ?_⟩, rfl⟩
        have hall : ks.all Pl.isKey = false := by
          rw [List.all_eq_false]
          exact ⟨s, List.mem_of_getElem? HK.out, by simp [hb]⟩
        simp [hall]
      · go_wp2_with (refine (noKey_any _ _ hz).mono ?_; rintro e w' ⟨rfl, rfl⟩)
        go_round
        case rel => exact ⟨k + 1, by omega, by go_num, hide (HS.out.trans hb)⟩
        case measure => simp [intOf]; omega
    · go_wp2
      go_ret
      refine ⟨⟨_, rfl, ?_⟩, rfl⟩
      have := ha.out
      rw [List.take_of_length_le (by omega)] at this
      simp [this]
set_option maxHeartbeats 400000 in
theorem anyNoKey (A : Option Addr) (c : Nat) (ks : List ByteArray) (w : World) (hr : Strs w A ks) (hl : ks.length ≤ 9223372036854775807) (hsz : ∀ s ∈ ks, s.size ≤ 9223372036854775807) :
    Calls Tryz.prog 78 #[.slice A ks.length c, .func (.func 75) #[] #[]] w
      fun e w' => e = .returned (.bool (!(ks.all Pl.isKey))) ∧ w = w' := by
  have HC := hide (findNoKey_any A c ks w hr hl hsz)
  clear hr hsz
  go_enter Tryz.func78, Tryz.ntmps78
  go_wp2_with (refine HC.out.mono ?_; rintro e w' ⟨⟨n, rfl, hn⟩, rfl⟩; have HN := hide hn; clear hn)
  go_ret
  exact ⟨ret_bool HN.out, rfl⟩
end Go.Proofs.YthcdocedpcjbeaaGreatDoor

/-
  The walks of the leaf functions: clock, verb's small tests, fnv.Key.
-/
import Derived.Test.YthcdocedpcjbeaaGreatDoorBase
import Derived.Test.YthcdocedpcjbeaaGreatDoorPl
namespace Go.Proofs.YthcdocedpcjbeaaGreatDoor
open Go.RowKit

theorem ret_bool {a b : Bool} (h : a = b) : Ending.returned (.bool a) = .returned (.bool b) := by rw [h]
theorem ret_int2 {k j : IntKind} {a b c d : Int} (h : a = b) (g : c = d) : Ending.returned (.tuple #[.int k a, .int j c]) = .returned (.tuple #[.int k b, .int j d]) := by rw [h, g]
theorem ret_int {k : IntKind} {a b : Int} (h : a = b) : Ending.returned (.int k a) = .returned (.int k b) := by rw [h]

set_option maxHeartbeats 400000 in
theorem gone_any (a b : Int) (w : World) (ha : 0 ≤ a) (ha2 : a < 4294967296) :
    Calls Tryz.prog 47 #[.int .u32 a, .int .i64 b] w fun e w' => e = .returned (.bool (Pl.gone a b)) ∧ w = w' := by
  unfold Pl.gone
  go_enter Tryz.func47, Tryz.ntmps47
  go_wp2
  all_goals go_ret
  all_goals exact ⟨ret_bool (by simp <;> omega), rfl⟩

set_option maxHeartbeats 400000 in
theorem second_any (a : Int) (w : World) :
    Calls Tryz.prog 79 #[.int .i64 a] w fun e w' => e = .returned (.bool (Pl.second a)) ∧ w = w' := by
  unfold Pl.second
  go_enter Tryz.func79, Tryz.ntmps79
  go_wp2
  all_goals go_ret
  all_goals exact ⟨ret_bool (by simp <;> omega), rfl⟩

set_option maxHeartbeats 400000 in
theorem ends_yes (a b : Int) (w : World) (hs : Pl.second a = true) (hb : -9223372036854775808 ≤ b) (hb2 : b ≤ 9223372036854775807) :
    Calls Tryz.prog 40 #[.int .i64 a, .int .i64 b] w fun e w' => e = .returned (.tuple #[.int .u32 (Pl.ends a b), .int .i64 0]) ∧ w = w' := by
  have hs' := hs
  simp only [Pl.second, Bool.and_eq_true, decide_eq_true_eq] at hs'
  have h1 : 1 ≤ a := hs'.1
  have h2 : a ≤ 2147483647 := hs'.2
  clear hs'
  go_enter Tryz.func40, Tryz.ntmps40
  go_wp2_with (go_at_call 79; refine (second_any _ _).mono ?_; rintro e w' ⟨rfl, rfl⟩)
  all_goals go_ret2
  all_goals exact ⟨ret_int2 (by unfold Pl.ends; repeat' split <;> omega) rfl, rfl⟩

set_option maxHeartbeats 400000 in
theorem ends_no (a b : Int) (w : World) (hs : Pl.second a = false) :
    Calls Tryz.prog 40 #[.int .i64 a, .int .i64 b] w fun e w' => e = .returned (.tuple #[.int .u32 0, .int .i64 1]) ∧ w = w' := by
  go_enter Tryz.func40, Tryz.ntmps40
  go_wp2_with (go_at_call 79; refine (second_any _ _).mono ?_; rintro e w' ⟨rfl, rfl⟩)
  all_goals go_ret2
  all_goals exact ⟨rfl, rfl⟩

set_option maxHeartbeats 400000 in
theorem kind_any (a : Int) (w : World) :
    Calls Tryz.prog 72 #[.int .i64 a] w fun e w' => e = .returned (.bool (Pl.isKind a)) ∧ w = w' := by
  unfold Pl.isKind
  go_enter Tryz.func72, Tryz.ntmps72
  go_wp2
  all_goals go_ret
  all_goals exact ⟨ret_bool (by simp <;> omega), rfl⟩

set_option maxHeartbeats 400000 in
theorem isReads_any (a : Int) (w : World) :
    Calls Tryz.prog 74 #[.int .i64 a] w fun e w' => e = .returned (.bool (Pl.isReads a)) ∧ w = w' := by
  unfold Pl.isReads
  go_enter Tryz.func74, Tryz.ntmps74
  go_wp2
  all_goals go_ret
  all_goals exact ⟨ret_bool (by simp <;> omega), rfl⟩

set_option maxHeartbeats 400000 in
theorem stores_any (a : Int) (w : World) :
    Calls Tryz.prog 42 #[.int .i64 a] w fun e w' => e = .returned (.bool (Pl.stores a)) ∧ w = w' := by
  unfold Pl.stores
  go_enter Tryz.func42, Tryz.ntmps42
  go_wp2
  all_goals go_ret
  all_goals exact ⟨ret_bool (by simp <;> omega), rfl⟩

set_option maxHeartbeats 400000 in
theorem hasEnds_any (a : Int) (w : World) :
    Calls Tryz.prog 73 #[.int .i64 a] w fun e w' => e = .returned (.bool (Pl.hasEnds a)) ∧ w = w' := by
  unfold Pl.hasEnds
  go_enter Tryz.func73, Tryz.ntmps73
  go_wp2
  all_goals go_ret
  all_goals exact ⟨ret_bool (by simp_all), rfl⟩

set_option maxHeartbeats 400000 in
theorem keys_any (k n : Int) (w : World) :
    Calls Tryz.prog 77 #[.int .i64 k, .int .i64 n] w fun e w' => e = .returned (.bool (Pl.keysOk k n)) ∧ w = w' := by
  go_enter Tryz.func77, Tryz.ntmps77
  go_wp2_with (go_at_call 74; refine (isReads_any _ _).mono ?_; rintro e w' ⟨rfl, rfl⟩)
  all_goals go_ret
  all_goals unfold Pl.keysOk
  all_goals first
    | exact ⟨ret_bool (by rw [if_pos (by assumption)]; simp <;> omega), rfl⟩
    | (refine ⟨ret_bool (by rw [if_neg (by simp [*])]; split <;> simp_all), rfl⟩)
end Go.Proofs.YthcdocedpcjbeaaGreatDoor

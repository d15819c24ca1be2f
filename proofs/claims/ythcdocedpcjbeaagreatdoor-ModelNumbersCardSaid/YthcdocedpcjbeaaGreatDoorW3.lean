/-
  The walk of verb.Check.
-/
import Derived.Test.YthcdocedpcjbeaaGreatDoorW2
import Derived.Deep.DeepCutAuto
namespace Go.Proofs.YthcdocedpcjbeaaGreatDoor
open Go.RowKit

/-- A command as a value; its keys at A. -/
def cmdV (c : Cmd) (A : Option Addr) (cap : Nat) : Value :=
  .agg #[.int .i64 c.kind, .slice A c.keys.length cap, .int .u32 c.flags, .int .i64 c.exp, .string c.val, .int .u64 c.cas, .int .u64 c.delta, .bool c.quiet]

def KindIs (k : Int) (st he rd n10 n12 n13 : Bool) : Prop :=
  Pl.stores k = st ∧ Pl.hasEnds k = he ∧ Pl.isReads k = rd ∧ (k != 10) = n10 ∧ (k != 12) = n12 ∧ (k != 13) = n13
theorem kinds {k : Int} (h : Pl.isKind k = true) :
    KindIs k false false true true true true ∨ KindIs k false true true true true true ∨ KindIs k true true false true true true ∨
    KindIs k true false false true true true ∨ KindIs k true true false false true true ∨ KindIs k false false false true true true ∨
    KindIs k false false false true false true ∨ KindIs k false false false true true false ∨ KindIs k false true false true true true := by
  simp only [Pl.isKind, Bool.and_eq_true, decide_eq_true_eq] at h
  have : k = 1 ∨ k = 2 ∨ k = 3 ∨ k = 4 ∨ k = 5 ∨ k = 6 ∨ k = 7 ∨ k = 8 ∨ k = 9 ∨ k = 10 ∨ k = 11 ∨ k = 12 ∨ k = 13 ∨ k = 14 ∨ k = 15 := by omega
  rcases this with rfl | rfl | rfl | rfl | rfl | rfl | rfl | rfl | rfl | rfl | rfl | rfl | rfl | rfl | rfl <;> simp [KindIs, Pl.stores, Pl.hasEnds, Pl.isReads]

theorem check_no (k : Int) (keys : List ByteArray) (flags exp : Int) (val : ByteArray) (cas delta : Int) (quiet : Bool) (A : Option Addr) (cap : Nat) (w : World) (h1 : Pl.isKind k = false) :
    Calls Tryz.prog 35 #[cmdV ⟨k, keys, flags, exp, val, cas, delta, quiet⟩ A cap] w
      fun e w' => e = .returned (.int .i64 70) ∧ Below w.heap.size w w' := by
  unfold cmdV
  simp only
  go_enter Tryz.func35, Tryz.ntmps35
  go_wp2_with (go_at_call 72; refine (kind_any _ _).mono ?_; rintro e w' ⟨rfl, rfl⟩)
  go_ret
  exact ⟨rfl, (Below.refl _ _).alloc (Nat.le_refl _) _⟩

attribute [local simp] ba_self
@[local simp] theorem empty_beq (s : ByteArray) : (Pl.empty == s) = s.toList.isEmpty := by
  rw [ba_beq_decide]
  by_cases h : s.size = 0
  · rw [empty_of_size h, ByteArray.toList_eq]; simp [Pl.empty]
  · rw [isEmpty_false h]
    simp
    rintro rfl
    exact h rfl

theorem check_fin (k : Int) (keys : List ByteArray) (flags exp : Int) (val : ByteArray) (cas delta : Int) (quiet : Bool) (h1 : Pl.isKind k = true) :
    Hid (Pl.check ⟨k, keys, flags, exp, val, cas, delta, quiet⟩ =
      (if Pl.same ⟨k, keys, flags, exp, val, cas, delta, quiet⟩ && (Pl.keysOk k keys.length && keys.all Pl.isKey) then (if val.size ≤ 2000 then 0 else 7) else 6)) :=
  hide (by unfold Pl.check; rw [if_pos h1])

set_option maxRecDepth 100000 in
set_option maxHeartbeats 4000000 in
theorem check_r0_true (k : Int) (keys : List ByteArray) (flags exp : Int) (val : ByteArray) (cas delta : Int) (A : Option Addr) (cap : Nat) (w : World)
   (hr : Strs w A keys) (hl : keys.length ≤ 9223372036854775807) (hv : val.size ≤ 9223372036854775807) (hsz : ∀ s ∈ keys, s.size ≤ 9223372036854775807)
   (h1 : Pl.isKind k = true) (hk : KindIs k false false true true true true) :
    Calls Tryz.prog 35 #[cmdV ⟨k, keys, flags, exp, val, cas, delta, true⟩ A cap] w
      fun e w' => e = .returned (.int .i64 (Pl.check ⟨k, keys, flags, exp, val, cas, delta, true⟩)) ∧ Below w.heap.size w w' := by
  have HR := hide hr
  have HZ := hide hsz
  clear hr hsz
  unfold cmdV
  simp only
  obtain ⟨b1, hb1⟩ : ∃ b, ((0 : Int) == flags) = b := ⟨_, rfl⟩
  obtain ⟨b2, hb2⟩ : ∃ b, ((0 : Int) == exp) = b := ⟨_, rfl⟩
  obtain ⟨b3, hb3⟩ : ∃ b, ((0 : Int) == cas) = b := ⟨_, rfl⟩
  obtain ⟨b4, hb4⟩ : ∃ b, ((0 : Int) == delta) = b := ⟨_, rfl⟩
  obtain ⟨b5, hb5⟩ : ∃ b, val.toList.isEmpty = b := ⟨_, rfl⟩
  obtain ⟨h2, h3, h7, h4, h5, h6⟩ := hk
  go_enter Tryz.func35, Tryz.ntmps35
  go_upto_region 17 with (first
   | (go_at_call 72; refine (kind_any _ _).mono ?_; rintro e w' ⟨rfl, rfl⟩)
   | (go_at_call 42; refine (stores_any _ _).mono ?_; rintro e w' ⟨rfl, rfl⟩)
   | (go_at_call 73; refine (hasEnds_any _ _).mono ?_; rintro e w' ⟨rfl, rfl⟩)
   | (go_at_call 74; refine (isReads_any _ _).mono ?_; rintro e w' ⟨rfl, rfl⟩))
  go_cut [5] (fun s5 wx => s5 = .bool (Pl.same ⟨k, keys, flags, exp, val, cas, delta, true⟩) ∧ Below w.heap.size w wx ∧ Hid (Blk wx w.heap.size 31 #[Value.int IntKind.i64 k, Value.slice A keys.length cap, Value.int IntKind.u32 flags, Value.int IntKind.i64 exp, Value.string val, Value.int IntKind.u64 cas, Value.int IntKind.u64 delta, Value.bool true]))
  case first =>
    go_wp2
    all_goals
      go_meet
      refine ⟨congrArg Value.bool ?_, ((Below.refl _ _).alloc (Nat.le_refl _) _).alloc (by simp) _, hide ?_⟩
      · simp [Pl.same, *]
      · exact (Blk.new _ _ _).alloc _
  case rest =>
    obtain ⟨rfl, hbel, hblk⟩ := hcut
    have c1 : wc.cell? ⟨w.heap.size, 1, none⟩ = some (.slice A keys.length cap) := (hblk.out.cell 1).trans rfl
    have c4 : wc.cell? ⟨w.heap.size, 4, none⟩ = some (.string val) := (hblk.out.cell 4).trans rfl
    have HA := hide (anyNoKey A cap keys wc (HR.out.below hbel) hl HZ.out)
    have HB := hide hbel
    clear hbel hb1 hb2 hb3 hb4 hb5
    have HF := check_fin k keys flags exp val cas delta true h1
    generalize Pl.same ⟨k, keys, flags, exp, val, cas, delta, true⟩ = sm at *
    cases hko : Pl.keysOk k ↑keys.length <;> cases hal : keys.all Pl.isKey <;> rw [hko, hal] at HF
    all_goals
      cases sm <;> by_cases hz : val.size ≤ 2000
      all_goals
        go_wp2_with (first
         | (go_at_call 77; refine (keys_any _ _ _).mono ?_; rintro e w' ⟨rfl, rfl⟩)
         | (refine HA.out.mono ?_; rintro e w' ⟨rfl, rfl⟩))
        go_ret
        exact ⟨ret_int (by rw [HF.out]; first | rfl | exact (if_pos hz).symm | exact (if_neg hz).symm), HB.out⟩

set_option maxRecDepth 100000 in
set_option maxHeartbeats 4000000 in
theorem check_r0_false (k : Int) (keys : List ByteArray) (flags exp : Int) (val : ByteArray) (cas delta : Int) (A : Option Addr) (cap : Nat) (w : World)
   (hr : Strs w A keys) (hl : keys.length ≤ 9223372036854775807) (hv : val.size ≤ 9223372036854775807) (hsz : ∀ s ∈ keys, s.size ≤ 9223372036854775807)
   (h1 : Pl.isKind k = true) (hk : KindIs k false false true true true true) :
    Calls Tryz.prog 35 #[cmdV ⟨k, keys, flags, exp, val, cas, delta, false⟩ A cap] w
      fun e w' => e = .returned (.int .i64 (Pl.check ⟨k, keys, flags, exp, val, cas, delta, false⟩)) ∧ Below w.heap.size w w' := by
  have HR := hide hr
  have HZ := hide hsz
  clear hr hsz
  unfold cmdV
  simp only
  obtain ⟨b1, hb1⟩ : ∃ b, ((0 : Int) == flags) = b := ⟨_, rfl⟩
  obtain ⟨b2, hb2⟩ : ∃ b, ((0 : Int) == exp) = b := ⟨_, rfl⟩
  obtain ⟨b3, hb3⟩ : ∃ b, ((0 : Int) == cas) = b := ⟨_, rfl⟩
  obtain ⟨b4, hb4⟩ : ∃ b, ((0 : Int) == delta) = b := ⟨_, rfl⟩
  obtain ⟨b5, hb5⟩ : ∃ b, val.toList.isEmpty = b := ⟨_, rfl⟩
  obtain ⟨h2, h3, h7, h4, h5, h6⟩ := hk
  go_enter Tryz.func35, Tryz.ntmps35
  go_upto_region 17 with (first
   | (go_at_call 72; refine (kind_any _ _).mono ?_; rintro e w' ⟨rfl, rfl⟩)
   | (go_at_call 42; refine (stores_any _ _).mono ?_; rintro e w' ⟨rfl, rfl⟩)
   | (go_at_call 73; refine (hasEnds_any _ _).mono ?_; rintro e w' ⟨rfl, rfl⟩)
   | (go_at_call 74; refine (isReads_any _ _).mono ?_; rintro e w' ⟨rfl, rfl⟩))
  go_cut [5] (fun s5 wx => s5 = .bool (Pl.same ⟨k, keys, flags, exp, val, cas, delta, false⟩) ∧ Below w.heap.size w wx ∧ Hid (Blk wx w.heap.size 31 #[Value.int IntKind.i64 k, Value.slice A keys.length cap, Value.int IntKind.u32 flags, Value.int IntKind.i64 exp, Value.string val, Value.int IntKind.u64 cas, Value.int IntKind.u64 delta, Value.bool false]))
  case first =>
    go_wp2
    all_goals
      go_meet
      refine ⟨congrArg Value.bool ?_, ((Below.refl _ _).alloc (Nat.le_refl _) _).alloc (by simp) _, hide ?_⟩
      · simp [Pl.same, *]
      · exact (Blk.new _ _ _).alloc _
  case rest =>
    obtain ⟨rfl, hbel, hblk⟩ := hcut
    have c1 : wc.cell? ⟨w.heap.size, 1, none⟩ = some (.slice A keys.length cap) := (hblk.out.cell 1).trans rfl
    have c4 : wc.cell? ⟨w.heap.size, 4, none⟩ = some (.string val) := (hblk.out.cell 4).trans rfl
    have HA := hide (anyNoKey A cap keys wc (HR.out.below hbel) hl HZ.out)
    have HB := hide hbel
    clear hbel hb1 hb2 hb3 hb4 hb5
    have HF := check_fin k keys flags exp val cas delta false h1
    generalize Pl.same ⟨k, keys, flags, exp, val, cas, delta, false⟩ = sm at *
    cases hko : Pl.keysOk k ↑keys.length <;> cases hal : keys.all Pl.isKey <;> rw [hko, hal] at HF
    all_goals
      cases sm <;> by_cases hz : val.size ≤ 2000
      all_goals
        go_wp2_with (first
         | (go_at_call 77; refine (keys_any _ _ _).mono ?_; rintro e w' ⟨rfl, rfl⟩)
         | (refine HA.out.mono ?_; rintro e w' ⟨rfl, rfl⟩))
        go_ret
        exact ⟨ret_int (by rw [HF.out]; first | rfl | exact (if_pos hz).symm | exact (if_neg hz).symm), HB.out⟩

set_option maxRecDepth 100000 in
set_option maxHeartbeats 4000000 in
theorem check_r1_true (k : Int) (keys : List ByteArray) (flags exp : Int) (val : ByteArray) (cas delta : Int) (A : Option Addr) (cap : Nat) (w : World)
   (hr : Strs w A keys) (hl : keys.length ≤ 9223372036854775807) (hv : val.size ≤ 9223372036854775807) (hsz : ∀ s ∈ keys, s.size ≤ 9223372036854775807)
   (h1 : Pl.isKind k = true) (hk : KindIs k false true true true true true) :
    Calls Tryz.prog 35 #[cmdV ⟨k, keys, flags, exp, val, cas, delta, true⟩ A cap] w
      fun e w' => e = .returned (.int .i64 (Pl.check ⟨k, keys, flags, exp, val, cas, delta, true⟩)) ∧ Below w.heap.size w w' := by
  have HR := hide hr
  have HZ := hide hsz
  clear hr hsz
  unfold cmdV
  simp only
  obtain ⟨b1, hb1⟩ : ∃ b, ((0 : Int) == flags) = b := ⟨_, rfl⟩
  obtain ⟨b2, hb2⟩ : ∃ b, ((0 : Int) == exp) = b := ⟨_, rfl⟩
  obtain ⟨b3, hb3⟩ : ∃ b, ((0 : Int) == cas) = b := ⟨_, rfl⟩
  obtain ⟨b4, hb4⟩ : ∃ b, ((0 : Int) == delta) = b := ⟨_, rfl⟩
  obtain ⟨b5, hb5⟩ : ∃ b, val.toList.isEmpty = b := ⟨_, rfl⟩
  obtain ⟨h2, h3, h7, h4, h5, h6⟩ := hk
  go_enter Tryz.func35, Tryz.ntmps35
  go_upto_region 17 with (first
   | (go_at_call 72; refine (kind_any _ _).mono ?_; rintro e w' ⟨rfl, rfl⟩)
   | (go_at_call 42; refine (stores_any _ _).mono ?_; rintro e w' ⟨rfl, rfl⟩)
   | (go_at_call 73; refine (hasEnds_any _ _).mono ?_; rintro e w' ⟨rfl, rfl⟩)
   | (go_at_call 74; refine (isReads_any _ _).mono ?_; rintro e w' ⟨rfl, rfl⟩))
  go_cut [5] (fun s5 wx => s5 = .bool (Pl.same ⟨k, keys, flags, exp, val, cas, delta, true⟩) ∧ Below w.heap.size w wx ∧ Hid (Blk wx w.heap.size 31 #[Value.int IntKind.i64 k, Value.slice A keys.length cap, Value.int IntKind.u32 flags, Value.int IntKind.i64 exp, Value.string val, Value.int IntKind.u64 cas, Value.int IntKind.u64 delta, Value.bool true]))
  case first =>
    go_wp2
    all_goals
      go_meet
      refine ⟨congrArg Value.bool ?_, ((Below.refl _ _).alloc (Nat.le_refl _) _).alloc (by simp) _, hide ?_⟩
      · simp [Pl.same, *]
      · exact (Blk.new _ _ _).alloc _
  case rest =>
    obtain ⟨rfl, hbel, hblk⟩ := hcut
    have c1 : wc.cell? ⟨w.heap.size, 1, none⟩ = some (.slice A keys.length cap) := (hblk.out.cell 1).trans rfl
    have c4 : wc.cell? ⟨w.heap.size, 4, none⟩ = some (.string val) := (hblk.out.cell 4).trans rfl
    have HA := hide (anyNoKey A cap keys wc (HR.out.below hbel) hl HZ.out)
    have HB := hide hbel
    clear hbel hb1 hb2 hb3 hb4 hb5
    have HF := check_fin k keys flags exp val cas delta true h1
    generalize Pl.same ⟨k, keys, flags, exp, val, cas, delta, true⟩ = sm at *
    cases hko : Pl.keysOk k ↑keys.length <;> cases hal : keys.all Pl.isKey <;> rw [hko, hal] at HF
    all_goals
      cases sm <;> by_cases hz : val.size ≤ 2000
      all_goals
        go_wp2_with (first
         | (go_at_call 77; refine (keys_any _ _ _).mono ?_; rintro e w' ⟨rfl, rfl⟩)
         | (refine HA.out.mono ?_; rintro e w' ⟨rfl, rfl⟩))
        go_ret
        exact ⟨ret_int (by rw [HF.out]; first | rfl | exact (if_pos hz).symm | exact (if_neg hz).symm), HB.out⟩

set_option maxRecDepth 100000 in
set_option maxHeartbeats 4000000 in
theorem check_r1_false (k : Int) (keys : List ByteArray) (flags exp : Int) (val : ByteArray) (cas delta : Int) (A : Option Addr) (cap : Nat) (w : World)
   (hr : Strs w A keys) (hl : keys.length ≤ 9223372036854775807) (hv : val.size ≤ 9223372036854775807) (hsz : ∀ s ∈ keys, s.size ≤ 9223372036854775807)
   (h1 : Pl.isKind k = true) (hk : KindIs k false true true true true true) :
    Calls Tryz.prog 35 #[cmdV ⟨k, keys, flags, exp, val, cas, delta, false⟩ A cap] w
      fun e w' => e = .returned (.int .i64 (Pl.check ⟨k, keys, flags, exp, val, cas, delta, false⟩)) ∧ Below w.heap.size w w' := by
  have HR := hide hr
  have HZ := hide hsz
  clear hr hsz
  unfold cmdV
  simp only
  obtain ⟨b1, hb1⟩ : ∃ b, ((0 : Int) == flags) = b := ⟨_, rfl⟩
  obtain ⟨b2, hb2⟩ : ∃ b, ((0 : Int) == exp) = b := ⟨_, rfl⟩
  obtain ⟨b3, hb3⟩ : ∃ b, ((0 : Int) == cas) = b := ⟨_, rfl⟩
  obtain ⟨b4, hb4⟩ : ∃ b, ((0 : Int) == delta) = b := ⟨_, rfl⟩
  obtain ⟨b5, hb5⟩ : ∃ b, val.toList.isEmpty = b := ⟨_, rfl⟩
  obtain ⟨h2, h3, h7, h4, h5, h6⟩ := hk
  go_enter Tryz.func35, Tryz.ntmps35
  go_upto_region 17 with (first
   | (go_at_call 72; refine (kind_any _ _).mono ?_; rintro e w' ⟨rfl, rfl⟩)
   | (go_at_call 42; refine (stores_any _ _).mono ?_; rintro e w' ⟨rfl, rfl⟩)
   | (go_at_call 73; refine (hasEnds_any _ _).mono ?_; rintro e w' ⟨rfl, rfl⟩)
   | (go_at_call 74; refine (isReads_any _ _).mono ?_; rintro e w' ⟨rfl, rfl⟩))
  go_cut [5] (fun s5 wx => s5 = .bool (Pl.same ⟨k, keys, flags, exp, val, cas, delta, false⟩) ∧ Below w.heap.size w wx ∧ Hid (Blk wx w.heap.size 31 #[Value.int IntKind.i64 k, Value.slice A keys.length cap, Value.int IntKind.u32 flags, Value.int IntKind.i64 exp, Value.string val, Value.int IntKind.u64 cas, Value.int IntKind.u64 delta, Value.bool false]))
  case first =>
    go_wp2
    all_goals
      go_meet
      refine ⟨congrArg Value.bool ?_, ((Below.refl _ _).alloc (Nat.le_refl _) _).alloc (by simp) _, hide ?_⟩
      · simp [Pl.same, *]
      · exact (Blk.new _ _ _).alloc _
  case rest =>
    obtain ⟨rfl, hbel, hblk⟩ := hcut
    have c1 : wc.cell? ⟨w.heap.size, 1, none⟩ = some (.slice A keys.length cap) := (hblk.out.cell 1).trans rfl
    have c4 : wc.cell? ⟨w.heap.size, 4, none⟩ = some (.string val) := (hblk.out.cell 4).trans rfl
    have HA := hide (anyNoKey A cap keys wc (HR.out.below hbel) hl HZ.out)
    have HB := hide hbel
    clear hbel hb1 hb2 hb3 hb4 hb5
    have HF := check_fin k keys flags exp val cas delta false h1
    generalize Pl.same ⟨k, keys, flags, exp, val, cas, delta, false⟩ = sm at *
    cases hko : Pl.keysOk k ↑keys.length <;> cases hal : keys.all Pl.isKey <;> rw [hko, hal] at HF
    all_goals
      cases sm <;> by_cases hz : val.size ≤ 2000
      all_goals
        go_wp2_with (first
         | (go_at_call 77; refine (keys_any _ _ _).mono ?_; rintro e w' ⟨rfl, rfl⟩)
         | (refine HA.out.mono ?_; rintro e w' ⟨rfl, rfl⟩))
        go_ret
        exact ⟨ret_int (by rw [HF.out]; first | rfl | exact (if_pos hz).symm | exact (if_neg hz).symm), HB.out⟩

set_option maxRecDepth 100000 in
set_option maxHeartbeats 4000000 in
theorem check_s1 (k : Int) (keys : List ByteArray) (flags exp : Int) (val : ByteArray) (cas delta : Int) (quiet : Bool) (A : Option Addr) (cap : Nat) (w : World)
   (hr : Strs w A keys) (hl : keys.length ≤ 9223372036854775807) (hv : val.size ≤ 9223372036854775807) (hsz : ∀ s ∈ keys, s.size ≤ 9223372036854775807)
   (h1 : Pl.isKind k = true) (hk : KindIs k true true false true true true) :
    Calls Tryz.prog 35 #[cmdV ⟨k, keys, flags, exp, val, cas, delta, quiet⟩ A cap] w
      fun e w' => e = .returned (.int .i64 (Pl.check ⟨k, keys, flags, exp, val, cas, delta, quiet⟩)) ∧ Below w.heap.size w w' := by
  have HR := hide hr
  have HZ := hide hsz
  clear hr hsz
  unfold cmdV
  simp only
  obtain ⟨b1, hb1⟩ : ∃ b, ((0 : Int) == flags) = b := ⟨_, rfl⟩
  obtain ⟨b2, hb2⟩ : ∃ b, ((0 : Int) == exp) = b := ⟨_, rfl⟩
  obtain ⟨b3, hb3⟩ : ∃ b, ((0 : Int) == cas) = b := ⟨_, rfl⟩
  obtain ⟨b4, hb4⟩ : ∃ b, ((0 : Int) == delta) = b := ⟨_, rfl⟩
  obtain ⟨b5, hb5⟩ : ∃ b, val.toList.isEmpty = b := ⟨_, rfl⟩
  obtain ⟨h2, h3, h7, h4, h5, h6⟩ := hk
  go_enter Tryz.func35, Tryz.ntmps35
  go_upto_region 17 with (first
   | (go_at_call 72; refine (kind_any _ _).mono ?_; rintro e w' ⟨rfl, rfl⟩)
   | (go_at_call 42; refine (stores_any _ _).mono ?_; rintro e w' ⟨rfl, rfl⟩)
   | (go_at_call 73; refine (hasEnds_any _ _).mono ?_; rintro e w' ⟨rfl, rfl⟩)
   | (go_at_call 74; refine (isReads_any _ _).mono ?_; rintro e w' ⟨rfl, rfl⟩))
  go_cut [5] (fun s5 wx => s5 = .bool (Pl.same ⟨k, keys, flags, exp, val, cas, delta, quiet⟩) ∧ Below w.heap.size w wx ∧ Hid (Blk wx w.heap.size 31 #[Value.int IntKind.i64 k, Value.slice A keys.length cap, Value.int IntKind.u32 flags, Value.int IntKind.i64 exp, Value.string val, Value.int IntKind.u64 cas, Value.int IntKind.u64 delta, Value.bool quiet]))
  case first =>
    go_wp2
    all_goals
      go_meet
      refine ⟨congrArg Value.bool ?_, ((Below.refl _ _).alloc (Nat.le_refl _) _).alloc (by simp) _, hide ?_⟩
      · simp [Pl.same, *]
      · exact (Blk.new _ _ _).alloc _
  case rest =>
    obtain ⟨rfl, hbel, hblk⟩ := hcut
    have c1 : wc.cell? ⟨w.heap.size, 1, none⟩ = some (.slice A keys.length cap) := (hblk.out.cell 1).trans rfl
    have c4 : wc.cell? ⟨w.heap.size, 4, none⟩ = some (.string val) := (hblk.out.cell 4).trans rfl
    have HA := hide (anyNoKey A cap keys wc (HR.out.below hbel) hl HZ.out)
    have HB := hide hbel
    clear hbel hb1 hb2 hb3 hb4 hb5
    have HF := check_fin k keys flags exp val cas delta quiet h1
    generalize Pl.same ⟨k, keys, flags, exp, val, cas, delta, quiet⟩ = sm at *
    cases hko : Pl.keysOk k ↑keys.length <;> cases hal : keys.all Pl.isKey <;> rw [hko, hal] at HF
    all_goals
      cases sm <;> by_cases hz : val.size ≤ 2000
      all_goals
        go_wp2_with (first
         | (go_at_call 77; refine (keys_any _ _ _).mono ?_; rintro e w' ⟨rfl, rfl⟩)
         | (refine HA.out.mono ?_; rintro e w' ⟨rfl, rfl⟩))
        go_ret
        exact ⟨ret_int (by rw [HF.out]; first | rfl | exact (if_pos hz).symm | exact (if_neg hz).symm), HB.out⟩

set_option maxRecDepth 100000 in
set_option maxHeartbeats 4000000 in
theorem check_s0 (k : Int) (keys : List ByteArray) (flags exp : Int) (val : ByteArray) (cas delta : Int) (quiet : Bool) (A : Option Addr) (cap : Nat) (w : World)
   (hr : Strs w A keys) (hl : keys.length ≤ 9223372036854775807) (hv : val.size ≤ 9223372036854775807) (hsz : ∀ s ∈ keys, s.size ≤ 9223372036854775807)
   (h1 : Pl.isKind k = true) (hk : KindIs k true false false true true true) :
    Calls Tryz.prog 35 #[cmdV ⟨k, keys, flags, exp, val, cas, delta, quiet⟩ A cap] w
      fun e w' => e = .returned (.int .i64 (Pl.check ⟨k, keys, flags, exp, val, cas, delta, quiet⟩)) ∧ Below w.heap.size w w' := by
  have HR := hide hr
  have HZ := hide hsz
  clear hr hsz
  unfold cmdV
  simp only
  obtain ⟨b1, hb1⟩ : ∃ b, ((0 : Int) == flags) = b := ⟨_, rfl⟩
  obtain ⟨b2, hb2⟩ : ∃ b, ((0 : Int) == exp) = b := ⟨_, rfl⟩
  obtain ⟨b3, hb3⟩ : ∃ b, ((0 : Int) == cas) = b := ⟨_, rfl⟩
  obtain ⟨b4, hb4⟩ : ∃ b, ((0 : Int) == delta) = b := ⟨_, rfl⟩
  obtain ⟨b5, hb5⟩ : ∃ b, val.toList.isEmpty = b := ⟨_, rfl⟩
  obtain ⟨h2, h3, h7, h4, h5, h6⟩ := hk
  go_enter Tryz.func35, Tryz.ntmps35
  go_upto_region 17 with (first
   | (go_at_call 72; refine (kind_any _ _).mono ?_; rintro e w' ⟨rfl, rfl⟩)
   | (go_at_call 42; refine (stores_any _ _).mono ?_; rintro e w' ⟨rfl, rfl⟩)
   | (go_at_call 73; refine (hasEnds_any _ _).mono ?_; rintro e w' ⟨rfl, rfl⟩)
   | (go_at_call 74; refine (isReads_any _ _).mono ?_; rintro e w' ⟨rfl, rfl⟩))
  go_cut [5] (fun s5 wx => s5 = .bool (Pl.same ⟨k, keys, flags, exp, val, cas, delta, quiet⟩) ∧ Below w.heap.size w wx ∧ Hid (Blk wx w.heap.size 31 #[Value.int IntKind.i64 k, Value.slice A keys.length cap, Value.int IntKind.u32 flags, Value.int IntKind.i64 exp, Value.string val, Value.int IntKind.u64 cas, Value.int IntKind.u64 delta, Value.bool quiet]))
  case first =>
    go_wp2
    all_goals
      go_meet
      refine ⟨congrArg Value.bool ?_, ((Below.refl _ _).alloc (Nat.le_refl _) _).alloc (by simp) _, hide ?_⟩
      · simp [Pl.same, *]
      · exact (Blk.new _ _ _).alloc _
  case rest =>
    obtain ⟨rfl, hbel, hblk⟩ := hcut
    have c1 : wc.cell? ⟨w.heap.size, 1, none⟩ = some (.slice A keys.length cap) := (hblk.out.cell 1).trans rfl
    have c4 : wc.cell? ⟨w.heap.size, 4, none⟩ = some (.string val) := (hblk.out.cell 4).trans rfl
    have HA := hide (anyNoKey A cap keys wc (HR.out.below hbel) hl HZ.out)
    have HB := hide hbel
    clear hbel hb1 hb2 hb3 hb4 hb5
    have HF := check_fin k keys flags exp val cas delta quiet h1
    generalize Pl.same ⟨k, keys, flags, exp, val, cas, delta, quiet⟩ = sm at *
    cases hko : Pl.keysOk k ↑keys.length <;> cases hal : keys.all Pl.isKey <;> rw [hko, hal] at HF
    all_goals
      cases sm <;> by_cases hz : val.size ≤ 2000
      all_goals
        go_wp2_with (first
         | (go_at_call 77; refine (keys_any _ _ _).mono ?_; rintro e w' ⟨rfl, rfl⟩)
         | (refine HA.out.mono ?_; rintro e w' ⟨rfl, rfl⟩))
        go_ret
        exact ⟨ret_int (by rw [HF.out]; first | rfl | exact (if_pos hz).symm | exact (if_neg hz).symm), HB.out⟩

set_option maxRecDepth 100000 in
set_option maxHeartbeats 4000000 in
theorem check_ca (k : Int) (keys : List ByteArray) (flags exp : Int) (val : ByteArray) (cas delta : Int) (quiet : Bool) (A : Option Addr) (cap : Nat) (w : World)
   (hr : Strs w A keys) (hl : keys.length ≤ 9223372036854775807) (hv : val.size ≤ 9223372036854775807) (hsz : ∀ s ∈ keys, s.size ≤ 9223372036854775807)
   (h1 : Pl.isKind k = true) (hk : KindIs k true true false false true true) :
    Calls Tryz.prog 35 #[cmdV ⟨k, keys, flags, exp, val, cas, delta, quiet⟩ A cap] w
      fun e w' => e = .returned (.int .i64 (Pl.check ⟨k, keys, flags, exp, val, cas, delta, quiet⟩)) ∧ Below w.heap.size w w' := by
  have HR := hide hr
  have HZ := hide hsz
  clear hr hsz
  unfold cmdV
  simp only
  obtain ⟨b1, hb1⟩ : ∃ b, ((0 : Int) == flags) = b := ⟨_, rfl⟩
  obtain ⟨b2, hb2⟩ : ∃ b, ((0 : Int) == exp) = b := ⟨_, rfl⟩
  obtain ⟨b3, hb3⟩ : ∃ b, ((0 : Int) == cas) = b := ⟨_, rfl⟩
  obtain ⟨b4, hb4⟩ : ∃ b, ((0 : Int) == delta) = b := ⟨_, rfl⟩
  obtain ⟨b5, hb5⟩ : ∃ b, val.toList.isEmpty = b := ⟨_, rfl⟩
  obtain ⟨h2, h3, h7, h4, h5, h6⟩ := hk
  go_enter Tryz.func35, Tryz.ntmps35
  go_upto_region 17 with (first
   | (go_at_call 72; refine (kind_any _ _).mono ?_; rintro e w' ⟨rfl, rfl⟩)
   | (go_at_call 42; refine (stores_any _ _).mono ?_; rintro e w' ⟨rfl, rfl⟩)
   | (go_at_call 73; refine (hasEnds_any _ _).mono ?_; rintro e w' ⟨rfl, rfl⟩)
   | (go_at_call 74; refine (isReads_any _ _).mono ?_; rintro e w' ⟨rfl, rfl⟩))
  go_cut [5] (fun s5 wx => s5 = .bool (Pl.same ⟨k, keys, flags, exp, val, cas, delta, quiet⟩) ∧ Below w.heap.size w wx ∧ Hid (Blk wx w.heap.size 31 #[Value.int IntKind.i64 k, Value.slice A keys.length cap, Value.int IntKind.u32 flags, Value.int IntKind.i64 exp, Value.string val, Value.int IntKind.u64 cas, Value.int IntKind.u64 delta, Value.bool quiet]))
  case first =>
    go_wp2
    all_goals
      go_meet
      refine ⟨congrArg Value.bool ?_, ((Below.refl _ _).alloc (Nat.le_refl _) _).alloc (by simp) _, hide ?_⟩
      · simp [Pl.same, *]
      · exact (Blk.new _ _ _).alloc _
  case rest =>
    obtain ⟨rfl, hbel, hblk⟩ := hcut
    have c1 : wc.cell? ⟨w.heap.size, 1, none⟩ = some (.slice A keys.length cap) := (hblk.out.cell 1).trans rfl
    have c4 : wc.cell? ⟨w.heap.size, 4, none⟩ = some (.string val) := (hblk.out.cell 4).trans rfl
    have HA := hide (anyNoKey A cap keys wc (HR.out.below hbel) hl HZ.out)
    have HB := hide hbel
    clear hbel hb1 hb2 hb3 hb4 hb5
    have HF := check_fin k keys flags exp val cas delta quiet h1
    generalize Pl.same ⟨k, keys, flags, exp, val, cas, delta, quiet⟩ = sm at *
    cases hko : Pl.keysOk k ↑keys.length <;> cases hal : keys.all Pl.isKey <;> rw [hko, hal] at HF
    all_goals
      cases sm <;> by_cases hz : val.size ≤ 2000
      all_goals
        go_wp2_with (first
         | (go_at_call 77; refine (keys_any _ _ _).mono ?_; rintro e w' ⟨rfl, rfl⟩)
         | (refine HA.out.mono ?_; rintro e w' ⟨rfl, rfl⟩))
        go_ret
        exact ⟨ret_int (by rw [HF.out]; first | rfl | exact (if_pos hz).symm | exact (if_neg hz).symm), HB.out⟩

set_option maxRecDepth 100000 in
set_option maxHeartbeats 4000000 in
theorem check_de (k : Int) (keys : List ByteArray) (flags exp : Int) (val : ByteArray) (cas delta : Int) (quiet : Bool) (A : Option Addr) (cap : Nat) (w : World)
   (hr : Strs w A keys) (hl : keys.length ≤ 9223372036854775807) (hv : val.size ≤ 9223372036854775807) (hsz : ∀ s ∈ keys, s.size ≤ 9223372036854775807)
   (h1 : Pl.isKind k = true) (hk : KindIs k false false false true true true) :
    Calls Tryz.prog 35 #[cmdV ⟨k, keys, flags, exp, val, cas, delta, quiet⟩ A cap] w
      fun e w' => e = .returned (.int .i64 (Pl.check ⟨k, keys, flags, exp, val, cas, delta, quiet⟩)) ∧ Below w.heap.size w w' := by
  have HR := hide hr
  have HZ := hide hsz
  clear hr hsz
  unfold cmdV
  simp only
  obtain ⟨b1, hb1⟩ : ∃ b, ((0 : Int) == flags) = b := ⟨_, rfl⟩
  obtain ⟨b2, hb2⟩ : ∃ b, ((0 : Int) == exp) = b := ⟨_, rfl⟩
  obtain ⟨b3, hb3⟩ : ∃ b, ((0 : Int) == cas) = b := ⟨_, rfl⟩
  obtain ⟨b4, hb4⟩ : ∃ b, ((0 : Int) == delta) = b := ⟨_, rfl⟩
  obtain ⟨b5, hb5⟩ : ∃ b, val.toList.isEmpty = b := ⟨_, rfl⟩
  obtain ⟨h2, h3, h7, h4, h5, h6⟩ := hk
  go_enter Tryz.func35, Tryz.ntmps35
  go_upto_region 17 with (first
   | (go_at_call 72; refine (kind_any _ _).mono ?_; rintro e w' ⟨rfl, rfl⟩)
   | (go_at_call 42; refine (stores_any _ _).mono ?_; rintro e w' ⟨rfl, rfl⟩)
   | (go_at_call 73; refine (hasEnds_any _ _).mono ?_; rintro e w' ⟨rfl, rfl⟩)
   | (go_at_call 74; refine (isReads_any _ _).mono ?_; rintro e w' ⟨rfl, rfl⟩))
  go_cut [5] (fun s5 wx => s5 = .bool (Pl.same ⟨k, keys, flags, exp, val, cas, delta, quiet⟩) ∧ Below w.heap.size w wx ∧ Hid (Blk wx w.heap.size 31 #[Value.int IntKind.i64 k, Value.slice A keys.length cap, Value.int IntKind.u32 flags, Value.int IntKind.i64 exp, Value.string val, Value.int IntKind.u64 cas, Value.int IntKind.u64 delta, Value.bool quiet]))
  case first =>
    go_wp2
    all_goals
      go_meet
      refine ⟨congrArg Value.bool ?_, ((Below.refl _ _).alloc (Nat.le_refl _) _).alloc (by simp) _, hide ?_⟩
      · simp [Pl.same, *]
      · exact (Blk.new _ _ _).alloc _
  case rest =>
    obtain ⟨rfl, hbel, hblk⟩ := hcut
    have c1 : wc.cell? ⟨w.heap.size, 1, none⟩ = some (.slice A keys.length cap) := (hblk.out.cell 1).trans rfl
    have c4 : wc.cell? ⟨w.heap.size, 4, none⟩ = some (.string val) := (hblk.out.cell 4).trans rfl
    have HA := hide (anyNoKey A cap keys wc (HR.out.below hbel) hl HZ.out)
    have HB := hide hbel
    clear hbel hb1 hb2 hb3 hb4 hb5
    have HF := check_fin k keys flags exp val cas delta quiet h1
    generalize Pl.same ⟨k, keys, flags, exp, val, cas, delta, quiet⟩ = sm at *
    cases hko : Pl.keysOk k ↑keys.length <;> cases hal : keys.all Pl.isKey <;> rw [hko, hal] at HF
    all_goals
      cases sm <;> by_cases hz : val.size ≤ 2000
      all_goals
        go_wp2_with (first
         | (go_at_call 77; refine (keys_any _ _ _).mono ?_; rintro e w' ⟨rfl, rfl⟩)
         | (refine HA.out.mono ?_; rintro e w' ⟨rfl, rfl⟩))
        go_ret
        exact ⟨ret_int (by rw [HF.out]; first | rfl | exact (if_pos hz).symm | exact (if_neg hz).symm), HB.out⟩

set_option maxRecDepth 100000 in
set_option maxHeartbeats 4000000 in
theorem check_i (k : Int) (keys : List ByteArray) (flags exp : Int) (val : ByteArray) (cas delta : Int) (quiet : Bool) (A : Option Addr) (cap : Nat) (w : World)
   (hr : Strs w A keys) (hl : keys.length ≤ 9223372036854775807) (hv : val.size ≤ 9223372036854775807) (hsz : ∀ s ∈ keys, s.size ≤ 9223372036854775807)
   (h1 : Pl.isKind k = true) (hk : KindIs k false false false true false true) :
    Calls Tryz.prog 35 #[cmdV ⟨k, keys, flags, exp, val, cas, delta, quiet⟩ A cap] w
      fun e w' => e = .returned (.int .i64 (Pl.check ⟨k, keys, flags, exp, val, cas, delta, quiet⟩)) ∧ Below w.heap.size w w' := by
  have HR := hide hr
  have HZ := hide hsz
  clear hr hsz
  unfold cmdV
  simp only
  obtain ⟨b1, hb1⟩ : ∃ b, ((0 : Int) == flags) = b := ⟨_, rfl⟩
  obtain ⟨b2, hb2⟩ : ∃ b, ((0 : Int) == exp) = b := ⟨_, rfl⟩
  obtain ⟨b3, hb3⟩ : ∃ b, ((0 : Int) == cas) = b := ⟨_, rfl⟩
  obtain ⟨b4, hb4⟩ : ∃ b, ((0 : Int) == delta) = b := ⟨_, rfl⟩
  obtain ⟨b5, hb5⟩ : ∃ b, val.toList.isEmpty = b := ⟨_, rfl⟩
  obtain ⟨h2, h3, h7, h4, h5, h6⟩ := hk
  go_enter Tryz.func35, Tryz.ntmps35
  go_upto_region 17 with (first
   | (go_at_call 72; refine (kind_any _ _).mono ?_; rintro e w' ⟨rfl, rfl⟩)
   | (go_at_call 42; refine (stores_any _ _).mono ?_; rintro e w' ⟨rfl, rfl⟩)
   | (go_at_call 73; refine (hasEnds_any _ _).mono ?_; rintro e w' ⟨rfl, rfl⟩)
   | (go_at_call 74; refine (isReads_any _ _).mono ?_; rintro e w' ⟨rfl, rfl⟩))
  go_cut [5] (fun s5 wx => s5 = .bool (Pl.same ⟨k, keys, flags, exp, val, cas, delta, quiet⟩) ∧ Below w.heap.size w wx ∧ Hid (Blk wx w.heap.size 31 #[Value.int IntKind.i64 k, Value.slice A keys.length cap, Value.int IntKind.u32 flags, Value.int IntKind.i64 exp, Value.string val, Value.int IntKind.u64 cas, Value.int IntKind.u64 delta, Value.bool quiet]))
  case first =>
    go_wp2
    all_goals
      go_meet
      refine ⟨congrArg Value.bool ?_, ((Below.refl _ _).alloc (Nat.le_refl _) _).alloc (by simp) _, hide ?_⟩
      · simp [Pl.same, *]
      · exact (Blk.new _ _ _).alloc _
  case rest =>
    obtain ⟨rfl, hbel, hblk⟩ := hcut
    have c1 : wc.cell? ⟨w.heap.size, 1, none⟩ = some (.slice A keys.length cap) := (hblk.out.cell 1).trans rfl
    have c4 : wc.cell? ⟨w.heap.size, 4, none⟩ = some (.string val) := (hblk.out.cell 4).trans rfl
    have HA := hide (anyNoKey A cap keys wc (HR.out.below hbel) hl HZ.out)
    have HB := hide hbel
    clear hbel hb1 hb2 hb3 hb4 hb5
    have HF := check_fin k keys flags exp val cas delta quiet h1
    generalize Pl.same ⟨k, keys, flags, exp, val, cas, delta, quiet⟩ = sm at *
    cases hko : Pl.keysOk k ↑keys.length <;> cases hal : keys.all Pl.isKey <;> rw [hko, hal] at HF
    all_goals
      cases sm <;> by_cases hz : val.size ≤ 2000
      all_goals
        go_wp2_with (first
         | (go_at_call 77; refine (keys_any _ _ _).mono ?_; rintro e w' ⟨rfl, rfl⟩)
         | (refine HA.out.mono ?_; rintro e w' ⟨rfl, rfl⟩))
        go_ret
        exact ⟨ret_int (by rw [HF.out]; first | rfl | exact (if_pos hz).symm | exact (if_neg hz).symm), HB.out⟩

set_option maxRecDepth 100000 in
set_option maxHeartbeats 4000000 in
theorem check_j (k : Int) (keys : List ByteArray) (flags exp : Int) (val : ByteArray) (cas delta : Int) (quiet : Bool) (A : Option Addr) (cap : Nat) (w : World)
   (hr : Strs w A keys) (hl : keys.length ≤ 9223372036854775807) (hv : val.size ≤ 9223372036854775807) (hsz : ∀ s ∈ keys, s.size ≤ 9223372036854775807)
   (h1 : Pl.isKind k = true) (hk : KindIs k false false false true true false) :
    Calls Tryz.prog 35 #[cmdV ⟨k, keys, flags, exp, val, cas, delta, quiet⟩ A cap] w
      fun e w' => e = .returned (.int .i64 (Pl.check ⟨k, keys, flags, exp, val, cas, delta, quiet⟩)) ∧ Below w.heap.size w w' := by
  have HR := hide hr
  have HZ := hide hsz
  clear hr hsz
  unfold cmdV
  simp only
  obtain ⟨b1, hb1⟩ : ∃ b, ((0 : Int) == flags) = b := ⟨_, rfl⟩
  obtain ⟨b2, hb2⟩ : ∃ b, ((0 : Int) == exp) = b := ⟨_, rfl⟩
  obtain ⟨b3, hb3⟩ : ∃ b, ((0 : Int) == cas) = b := ⟨_, rfl⟩
  obtain ⟨b4, hb4⟩ : ∃ b, ((0 : Int) == delta) = b := ⟨_, rfl⟩
  obtain ⟨b5, hb5⟩ : ∃ b, val.toList.isEmpty = b := ⟨_, rfl⟩
  obtain ⟨h2, h3, h7, h4, h5, h6⟩ := hk
  go_enter Tryz.func35, Tryz.ntmps35
  go_upto_region 17 with (first
   | (go_at_call 72; refine (kind_any _ _).mono ?_; rintro e w' ⟨rfl, rfl⟩)
   | (go_at_call 42; refine (stores_any _ _).mono ?_; rintro e w' ⟨rfl, rfl⟩)
   | (go_at_call 73; refine (hasEnds_any _ _).mono ?_; rintro e w' ⟨rfl, rfl⟩)
   | (go_at_call 74; refine (isReads_any _ _).mono ?_; rintro e w' ⟨rfl, rfl⟩))
  go_cut [5] (fun s5 wx => s5 = .bool (Pl.same ⟨k, keys, flags, exp, val, cas, delta, quiet⟩) ∧ Below w.heap.size w wx ∧ Hid (Blk wx w.heap.size 31 #[Value.int IntKind.i64 k, Value.slice A keys.length cap, Value.int IntKind.u32 flags, Value.int IntKind.i64 exp, Value.string val, Value.int IntKind.u64 cas, Value.int IntKind.u64 delta, Value.bool quiet]))
  case first =>
    go_wp2
    all_goals
      go_meet
      refine ⟨congrArg Value.bool ?_, ((Below.refl _ _).alloc (Nat.le_refl _) _).alloc (by simp) _, hide ?_⟩
      · simp [Pl.same, *]
      · exact (Blk.new _ _ _).alloc _
  case rest =>
    obtain ⟨rfl, hbel, hblk⟩ := hcut
    have c1 : wc.cell? ⟨w.heap.size, 1, none⟩ = some (.slice A keys.length cap) := (hblk.out.cell 1).trans rfl
    have c4 : wc.cell? ⟨w.heap.size, 4, none⟩ = some (.string val) := (hblk.out.cell 4).trans rfl
    have HA := hide (anyNoKey A cap keys wc (HR.out.below hbel) hl HZ.out)
    have HB := hide hbel
    clear hbel hb1 hb2 hb3 hb4 hb5
    have HF := check_fin k keys flags exp val cas delta quiet h1
    generalize Pl.same ⟨k, keys, flags, exp, val, cas, delta, quiet⟩ = sm at *
    cases hko : Pl.keysOk k ↑keys.length <;> cases hal : keys.all Pl.isKey <;> rw [hko, hal] at HF
    all_goals
      cases sm <;> by_cases hz : val.size ≤ 2000
      all_goals
        go_wp2_with (first
         | (go_at_call 77; refine (keys_any _ _ _).mono ?_; rintro e w' ⟨rfl, rfl⟩)
         | (refine HA.out.mono ?_; rintro e w' ⟨rfl, rfl⟩))
        go_ret
        exact ⟨ret_int (by rw [HF.out]; first | rfl | exact (if_pos hz).symm | exact (if_neg hz).symm), HB.out⟩

set_option maxRecDepth 100000 in
set_option maxHeartbeats 4000000 in
theorem check_t (k : Int) (keys : List ByteArray) (flags exp : Int) (val : ByteArray) (cas delta : Int) (quiet : Bool) (A : Option Addr) (cap : Nat) (w : World)
   (hr : Strs w A keys) (hl : keys.length ≤ 9223372036854775807) (hv : val.size ≤ 9223372036854775807) (hsz : ∀ s ∈ keys, s.size ≤ 9223372036854775807)
   (h1 : Pl.isKind k = true) (hk : KindIs k false true false true true true) :
    Calls Tryz.prog 35 #[cmdV ⟨k, keys, flags, exp, val, cas, delta, quiet⟩ A cap] w
      fun e w' => e = .returned (.int .i64 (Pl.check ⟨k, keys, flags, exp, val, cas, delta, quiet⟩)) ∧ Below w.heap.size w w' := by
  have HR := hide hr
  have HZ := hide hsz
  clear hr hsz
  unfold cmdV
  simp only
  obtain ⟨b1, hb1⟩ : ∃ b, ((0 : Int) == flags) = b := ⟨_, rfl⟩
  obtain ⟨b2, hb2⟩ : ∃ b, ((0 : Int) == exp) = b := ⟨_, rfl⟩
  obtain ⟨b3, hb3⟩ : ∃ b, ((0 : Int) == cas) = b := ⟨_, rfl⟩
  obtain ⟨b4, hb4⟩ : ∃ b, ((0 : Int) == delta) = b := ⟨_, rfl⟩
  obtain ⟨b5, hb5⟩ : ∃ b, val.toList.isEmpty = b := ⟨_, rfl⟩
  obtain ⟨h2, h3, h7, h4, h5, h6⟩ := hk
  go_enter Tryz.func35, Tryz.ntmps35
  go_upto_region 17 with (first
   | (go_at_call 72; refine (kind_any _ _).mono ?_; rintro e w' ⟨rfl, rfl⟩)
   | (go_at_call 42; refine (stores_any _ _).mono ?_; rintro e w' ⟨rfl, rfl⟩)
   | (go_at_call 73; refine (hasEnds_any _ _).mono ?_; rintro e w' ⟨rfl, rfl⟩)
   | (go_at_call 74; refine (isReads_any _ _).mono ?_; rintro e w' ⟨rfl, rfl⟩))
  go_cut [5] (fun s5 wx => s5 = .bool (Pl.same ⟨k, keys, flags, exp, val, cas, delta, quiet⟩) ∧ Below w.heap.size w wx ∧ Hid (Blk wx w.heap.size 31 #[Value.int IntKind.i64 k, Value.slice A keys.length cap, Value.int IntKind.u32 flags, Value.int IntKind.i64 exp, Value.string val, Value.int IntKind.u64 cas, Value.int IntKind.u64 delta, Value.bool quiet]))
  case first =>
    go_wp2
    all_goals
      go_meet
      refine ⟨congrArg Value.bool ?_, ((Below.refl _ _).alloc (Nat.le_refl _) _).alloc (by simp) _, hide ?_⟩
      · simp [Pl.same, *]
      · exact (Blk.new _ _ _).alloc _
  case rest =>
    obtain ⟨rfl, hbel, hblk⟩ := hcut
    have c1 : wc.cell? ⟨w.heap.size, 1, none⟩ = some (.slice A keys.length cap) := (hblk.out.cell 1).trans rfl
    have c4 : wc.cell? ⟨w.heap.size, 4, none⟩ = some (.string val) := (hblk.out.cell 4).trans rfl
    have HA := hide (anyNoKey A cap keys wc (HR.out.below hbel) hl HZ.out)
    have HB := hide hbel
    clear hbel hb1 hb2 hb3 hb4 hb5
    have HF := check_fin k keys flags exp val cas delta quiet h1
    generalize Pl.same ⟨k, keys, flags, exp, val, cas, delta, quiet⟩ = sm at *
    cases hko : Pl.keysOk k ↑keys.length <;> cases hal : keys.all Pl.isKey <;> rw [hko, hal] at HF
    all_goals
      cases sm <;> by_cases hz : val.size ≤ 2000
      all_goals
        go_wp2_with (first
         | (go_at_call 77; refine (keys_any _ _ _).mono ?_; rintro e w' ⟨rfl, rfl⟩)
         | (refine HA.out.mono ?_; rintro e w' ⟨rfl, rfl⟩))
        go_ret
        exact ⟨ret_int (by rw [HF.out]; first | rfl | exact (if_pos hz).symm | exact (if_neg hz).symm), HB.out⟩

theorem check_any (c : Cmd) (A : Option Addr) (cap : Nat) (w : World)
   (hr : Strs w A c.keys) (hl : c.keys.length ≤ 9223372036854775807) (hv : c.val.size ≤ 9223372036854775807) (hsz : ∀ s ∈ c.keys, s.size ≤ 9223372036854775807) :
    Calls Tryz.prog 35 #[cmdV c A cap] w fun e w' => e = .returned (.int .i64 (Pl.check c)) ∧ Below w.heap.size w w' := by
  obtain ⟨k, keys, flags, exp, val, cas, delta, quiet⟩ := c
  cases h1 : Pl.isKind k
  · exact (check_no k keys flags exp val cas delta quiet A cap w h1).mono fun _ _ h => ⟨by rw [h.1]; simp [Pl.check, h1], h.2⟩
  · rcases kinds h1 with h | h | h | h | h | h | h | h | h
    · cases quiet
      · exact check_r0_false _ _ _ _ _ _ _ _ _ _ hr hl hv hsz h1 h
      · exact check_r0_true _ _ _ _ _ _ _ _ _ _ hr hl hv hsz h1 h
    · cases quiet
      · exact check_r1_false _ _ _ _ _ _ _ _ _ _ hr hl hv hsz h1 h
      · exact check_r1_true _ _ _ _ _ _ _ _ _ _ hr hl hv hsz h1 h
    · exact check_s1 _ _ _ _ _ _ _ _ _ _ _ hr hl hv hsz h1 h
    · exact check_s0 _ _ _ _ _ _ _ _ _ _ _ hr hl hv hsz h1 h
    · exact check_ca _ _ _ _ _ _ _ _ _ _ _ hr hl hv hsz h1 h
    · exact check_de _ _ _ _ _ _ _ _ _ _ _ hr hl hv hsz h1 h
    · exact check_i _ _ _ _ _ _ _ _ _ _ _ hr hl hv hsz h1 h
    · exact check_j _ _ _ _ _ _ _ _ _ _ _ hr hl hv hsz h1 h
    · exact check_t _ _ _ _ _ _ _ _ _ _ _ hr hl hv hsz h1 h
end Go.Proofs.YthcdocedpcjbeaaGreatDoor

/-
  The walk of the model's may.
-/
import Derived.Test.YthcdocedpcjbeaaGreatDoorW9
namespace Go.Proofs.YthcdocedpcjbeaaGreatDoor
open Go.RowKit

/-- nought, if a command that stores may go on; else what is told. -/
def mayC (c : Cmd) (old : Ent) (is : Bool) : Int :=
  if c.kind = 6 then (if is then 3 else 0)
  else if c.kind = 7 ∨ c.kind = 8 ∨ c.kind = 9 then (if is then 0 else 3)
  else if c.kind = 10 then (if is then (if old.cas = c.cas then 0 else 4) else 5)
  else 0

theorem keepCells {w w' : World} {r : Nat} {l : Ents} (h : Chg (fun b => b = r) w w') (hm : MapIs w r l) {p : Addr} {v : Value} (hp : w.cell? p = some v) : w'.cell? p = some v := by
  have hne : p.block ≠ r := by
    intro e
    obtain ⟨es, ck, hb, _⟩ := hm
    unfold World.cell? at hp
    rw [e, hb] at hp
    cases hp
  exact (World.cell?_of_block (h.block _ (cell_lt hp) hne)).trans hp
theorem below_drewN {B : Nat} {a w : World} (h : Below B a w) (n : Nat) : Below B a (w.drewN n) := ⟨h.os, h.tape, h.output, h.size, h.block⟩

section
variable (a m : Nat) (c : Cmd) (A : Option Addr) (cap : Nat) (now ends : Int) (failed : Bool) (old : Ent) (is : Bool) (w : World)

set_option maxRecDepth 100000 in
set_option maxHeartbeats 1000000 in
theorem may_add (hA : ActAt w a m c A cap now ends failed old is) (hk : c.kind = 6) :
    Calls Tryz.prog 80 #[.pointer (some ⟨a, 0, none⟩)] w fun e w' => e = .returned (.int .i64 (if is then 3 else 0)) ∧ Below w.heap.size w w' := by
  have h1 : w.cell? ⟨a, 1, none⟩ = some (.int .i64 6) := by have := hA.cell 1; rw [this]; simp [actCells, hk]
  have h16 : w.cell? ⟨a, 16, none⟩ = some (.bool is) := hA.cell 16
  clear hA hk
  cases is
  all_goals
    go_enter Tryz.func80, Tryz.ntmps80
    go_wp2
    go_ret
    exact ⟨rfl, Below.refl _ _⟩

set_option maxRecDepth 100000 in
set_option maxHeartbeats 1000000 in
theorem may_rep (hA : ActAt w a m c A cap now ends failed old is) (hk : c.kind = 7 ∨ c.kind = 8 ∨ c.kind = 9) :
    Calls Tryz.prog 80 #[.pointer (some ⟨a, 0, none⟩)] w fun e w' => e = .returned (.int .i64 (if is then 0 else 3)) ∧ Below w.heap.size w w' := by
  obtain ⟨q, hq⟩ : ∃ q, c.kind = q := ⟨_, rfl⟩
  have h1 : w.cell? ⟨a, 1, none⟩ = some (.int .i64 q) := by have := hA.cell 1; rw [this]; simp [actCells, hq]
  have h16 : w.cell? ⟨a, 16, none⟩ = some (.bool is) := hA.cell 16
  rw [hq] at hk
  clear hA hq
  rcases hk with rfl | rfl | rfl
  all_goals
    cases is
    all_goals
      go_enter Tryz.func80, Tryz.ntmps80
      go_wp2
      go_ret
      exact ⟨rfl, Below.refl _ _⟩

set_option maxRecDepth 100000 in
set_option maxHeartbeats 1000000 in
theorem may_cas (hA : ActAt w a m c A cap now ends failed old is) (hk : c.kind = 10) :
    Calls Tryz.prog 80 #[.pointer (some ⟨a, 0, none⟩)] w fun e w' => e = .returned (.int .i64 (if is then (if old.cas = c.cas then 0 else 4) else 5)) ∧ Below w.heap.size w w' := by
  have h1 : w.cell? ⟨a, 1, none⟩ = some (.int .i64 10) := by have := hA.cell 1; rw [this]; simp [actCells, hk]
  have h16 : w.cell? ⟨a, 16, none⟩ = some (.bool is) := hA.cell 16
  have h15 : w.cell? ⟨a, 15, none⟩ = some (.int .u64 old.cas) := hA.cell 15
  have h6 : w.cell? ⟨a, 6, none⟩ = some (.int .u64 c.cas) := hA.cell 6
  clear hA hk
  cases is
  · go_enter Tryz.func80, Tryz.ntmps80
    go_wp2
    go_ret
    exact ⟨rfl, Below.refl _ _⟩
  · by_cases he : old.cas = c.cas
    · have hb : (old.cas != c.cas) = false := by simp [he]
      rw [if_pos rfl, if_pos he]
      clear he
      go_enter Tryz.func80, Tryz.ntmps80
      go_wp2
      go_quiet (fail)
      go_wp2
      go_ret
      exact ⟨rfl, below_drewN (Below.refl _ _) _⟩
    · have hb : (old.cas != c.cas) = true := by simp [he]
      rw [if_pos rfl, if_neg he]
      clear he
      go_enter Tryz.func80, Tryz.ntmps80
      go_wp2
      go_quiet (fail)
      go_wp2
      go_ret
      exact ⟨rfl, below_drewN (Below.refl _ _) _⟩

set_option maxRecDepth 100000 in
set_option maxHeartbeats 1000000 in
theorem may_set (hA : ActAt w a m c A cap now ends false old is) (hk : c.kind = 5) :
    Calls Tryz.prog 80 #[.pointer (some ⟨a, 0, none⟩)] w fun e w' => e = .returned (.int .i64 0) ∧ Below w.heap.size w w' := by
  have h1 : w.cell? ⟨a, 1, none⟩ = some (.int .i64 5) := by have := hA.cell 1; rw [this]; simp [actCells, hk]
  have h11 : w.cell? ⟨a, 11, none⟩ = some (.bool false) := hA.cell 11
  clear hA hk
  go_enter Tryz.func80, Tryz.ntmps80
  go_wp2
  go_ret
  exact ⟨rfl, Below.refl _ _⟩

set_option maxRecDepth 100000 in
set_option maxHeartbeats 1000000 in
theorem may_setFailed (hA : ActAt w a m c A cap now ends true old is) (hk : c.kind = 5) {r : Nat} {l : Ents} {laid : Int} (hM : ModelAt w m r l laid)
    (k : ByteArray) (rest : List ByteArray) (hkk : c.keys = k :: rest) (hK : Strs w A c.keys) (hks : k.size ≤ 9223372036854775807) :
    Calls Tryz.prog 80 #[.pointer (some ⟨a, 0, none⟩)] w fun e w' => e = .returned (.int .i64 0) ∧ ModelAt w' m r (dropM l k) laid ∧ Chg (fun b => b = r) w w' := by
  have h0 : w.cell? ⟨a, 0, none⟩ = some (.pointer (some ⟨m, 0, none⟩)) := hA.cell 0
  have h1 : w.cell? ⟨a, 1, none⟩ = some (.int .i64 5) := by have := hA.cell 1; rw [this]; simp [actCells, hk]
  have h2 : w.cell? ⟨a, 2, none⟩ = some (.slice A c.keys.length cap) := hA.cell 2
  have h11 : w.cell? ⟨a, 11, none⟩ = some (.bool true) := hA.cell 11
  have hpos : 0 < c.keys.length := by rw [hkk]; simp
  rw [hkk] at hK
  obtain ⟨ad, hAd, hcell⟩ := hK.tail
  subst hAd
  have HM := hide hM
  clear hA hk hkk hK hM
  go_enter Tryz.func80, Tryz.ntmps80
  go_upto_region 17 with fail
  go_region_held3 (fun W' => W'.cell? ⟨a, 0, none⟩ = some (.pointer (some ⟨m, 0, none⟩)) ∧ W'.cell? ⟨a, 2, none⟩ = some (.slice (some ad) c.keys.length cap) ∧ W'.cell? ad = some (.string k))
    ((first | assumption | (simp only [World.cell?_drew]; exact ⟨h0, h2, hcell⟩)))
    (first
      | (go_at_call 44; refine (drop_walk m r l laid k _ HM.out.dr hks).mono ?_; rintro e w6 ⟨rfl, hm6, hc6⟩; have hS6 := And.intro (keepCells hc6 HM.out.dr.map (show w.drew.cell? ⟨a, 0, none⟩ = _ from h0)) (And.intro (keepCells hc6 HM.out.dr.map (show w.drew.cell? ⟨a, 2, none⟩ = _ from h2)) (keepCells hc6 HM.out.dr.map (show w.drew.cell? ad = _ from hcell))); have HM6 := hide hm6; have HC6 := hide hc6; clear hm6 hc6))
  go_wp2
  go_ret
  exact ⟨rfl, HM6.out, (Chg.drew (Chg.refl _ _)).trans HC6.out⟩

theorem may_any (hA : ActAt w a m c A cap now ends failed old is) (hk : Pl.stores c.kind = true) {r : Nat} {l : Ents} {laid : Int} (hM : ModelAt w m r l laid)
    (k : ByteArray) (rest : List ByteArray) (hkk : c.keys = k :: rest) (hK : Strs w A c.keys) (hks : k.size ≤ 9223372036854775807) :
    Calls Tryz.prog 80 #[.pointer (some ⟨a, 0, none⟩)] w fun e w' => e = .returned (.int .i64 (mayC c old is)) ∧
      ModelAt w' m r (if c.kind = 5 ∧ failed = true then dropM l k else l) laid ∧ Chg (fun b => b = r) w w' := by
  simp only [Pl.stores, Bool.and_eq_true, decide_eq_true_eq] at hk
  have hq : c.kind = 5 ∨ c.kind = 6 ∨ (c.kind = 7 ∨ c.kind = 8 ∨ c.kind = 9) ∨ c.kind = 10 := by omega
  rcases hq with h | h | h | h
  · have hmc : mayC c old is = 0 := by unfold mayC; rw [if_neg (by omega), if_neg (by omega), if_neg (by omega)]
    cases failed
    · exact (may_set a m c A cap now ends old is w hA h).mono fun e w' hh => ⟨by rw [hh.1, hmc], by rw [if_neg (by simp)]; exact hM.below hh.2, Chg.of_below hh.2⟩
    · exact (may_setFailed a m c A cap now ends old is w hA h hM k rest hkk hK hks).mono fun e w' hh => ⟨by rw [hh.1, hmc], by rw [if_pos ⟨h, rfl⟩]; exact hh.2.1, hh.2.2⟩
  · have hm : mayC c old is = (if is then 3 else 0) := by unfold mayC; rw [if_pos h]
    have h5 : ¬ (c.kind = 5 ∧ failed = true) := fun q => by have := q.1; omega
    rw [hm, if_neg h5]
    exact (may_add a m c A cap now ends failed old is w hA h).mono fun e w' hh => ⟨hh.1, hM.below hh.2, Chg.of_below hh.2⟩
  · have hm : mayC c old is = (if is then 0 else 3) := by unfold mayC; rw [if_neg (show ¬ c.kind = 6 by omega), if_pos h]
    have h5 : ¬ (c.kind = 5 ∧ failed = true) := fun q => by have := q.1; omega
    rw [hm, if_neg h5]
    exact (may_rep a m c A cap now ends failed old is w hA h).mono fun e w' hh => ⟨hh.1, hM.below hh.2, Chg.of_below hh.2⟩
  · have hm : mayC c old is = (if is then (if old.cas = c.cas then 0 else 4) else 5) := by
      unfold mayC; rw [if_neg (show ¬ c.kind = 6 by omega), if_neg (show ¬ (c.kind = 7 ∨ c.kind = 8 ∨ c.kind = 9) by omega), if_pos h]
    have h5 : ¬ (c.kind = 5 ∧ failed = true) := fun q => by have := q.1; omega
    rw [hm, if_neg h5]
    exact (may_cas a m c A cap now ends failed old is w hA h).mono fun e w' hh => ⟨hh.1, hM.below hh.2, Chg.of_below hh.2⟩
end
end Go.Proofs.YthcdocedpcjbeaaGreatDoor

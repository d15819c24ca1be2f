/-
  The walk of the model's store.
-/
import Derived.Test.YthcdocedpcjbeaaGreatDoorW10
import Derived.BigRegion
namespace Go.Proofs.YthcdocedpcjbeaaGreatDoor
open Go.RowKit

/-- the entry that a command that stores lays in. -/
def laidE (c : Cmd) (ends : Int) (old : Ent) : Ent :=
  if c.kind = 8 then { old with val := old.val ++ c.val } else if c.kind = 9 then { old with val := c.val ++ old.val } else ⟨c.val, c.flags, ends, 0⟩

theorem Blk.ne_map {w : World} {a r : Nat} {t : TypeId} {cs : Array Value} {l : Ents} (h : Blk w a t cs) (hm : MapIs w r l) : a ≠ r := by
  rintro rfl
  obtain ⟨es, ck, hb, _⟩ := hm
  unfold Blk at h
  rw [hb] at h
  cases h

theorem Strs.keep {w w' : World} {r : Nat} {l : Ents} {A : Option Addr} {ks : List ByteArray} (h : Strs w A ks) (hc : Chg (fun b => b = r) w w') (hm : MapIs w r l) : Strs w' A ks :=
  fun i s hi => let ⟨ad, e, hcell⟩ := h i s hi; ⟨ad, e, keepCells hc hm hcell⟩
theorem blk_res {w : World} {g : Nat} (h : Blk w g 36 #[.int .i64 0, .slice none 0 0, .int .u64 0]) :
    (∀ i, w.cell? ⟨g, i, none⟩ = (#[.int .i64 0, .slice none 0 0, .int .u64 0] : Array Value)[i]?) ∧ (∀ i, w.frozen? ⟨g, i, none⟩ = false) ∧ g < w.heap.size := h.rules

/-- behind store, where it comes to laying x in. -/
def StoreDone (m r : Nat) (k : ByteArray) (w : World) (l : Ents) (laid : Int) (failed : Bool) (x : Ent) (e : Ending) (w' : World) : Prop :=
  e = .returned (resV (if 2000 < x.val.size then 12 else if failed then 11 else 2) (.slice none 0 0) 0) ∧
  ModelAt w' m r (if 2000 < x.val.size then l else if failed then l else putN l k { x with cas := u64 (laid + 1) }) (if 2000 < x.val.size then laid else if failed then laid else u64 (laid + 1)) ∧
  Chg (fun b => b = m ∨ b = r) w w'

theorem StoreDone.long {m r : Nat} {k : ByteArray} {w : World} {l : Ents} {laid : Int} {failed : Bool} {x : Ent} {w' : World} (h : 2000 < x.val.size) (hM : ModelAt w' m r l laid) (hC : Chg (fun b => b = m ∨ b = r) w w') :
    StoreDone m r k w l laid failed x (.returned (resV 12 (.slice none 0 0) 0)) w' := by
  unfold StoreDone
  simp only [if_pos h]
  exact ⟨trivial, hM, hC⟩
theorem StoreDone.fail {m r : Nat} {k : ByteArray} {w : World} {l : Ents} {laid : Int} {x : Ent} {w' : World} (h : ¬ 2000 < x.val.size) (hM : ModelAt w' m r l laid) (hC : Chg (fun b => b = m ∨ b = r) w w') :
    StoreDone m r k w l laid true x (.returned (resV 11 (.slice none 0 0) 0)) w' := by
  unfold StoreDone
  simp only [if_neg h, if_true]
  exact ⟨trivial, hM, hC⟩
theorem StoreDone.done {m r : Nat} {k : ByteArray} {w : World} {l : Ents} {laid : Int} {x : Ent} {w' : World} (h : ¬ 2000 < x.val.size) (hM : ModelAt w' m r (putN l k { x with cas := u64 (laid + 1) }) (u64 (laid + 1))) (hC : Chg (fun b => b = m ∨ b = r) w w') :
    StoreDone m r k w l laid false x (.returned (resV 2 (.slice none 0 0) 0)) w' := by
  unfold StoreDone
  simp only [if_neg h, Bool.false_eq_true, if_false]
  exact ⟨trivial, hM, hC⟩

section
variable (a m : Nat) (c : Cmd) (A : Option Addr) (cap : Nat) (now ends : Int) (failed : Bool) (old : Ent) (is : Bool) (w : World)

set_option maxRecDepth 100000 in
set_option maxHeartbeats 1000000 in
theorem store_no (hA : ActAt w a m c A cap now ends failed old is) (hk : Pl.stores c.kind = true) {r : Nat} {l : Ents} {laid : Int} (hM : ModelAt w m r l laid)
    (k : ByteArray) (rest : List ByteArray) (hkk : c.keys = k :: rest) (hK : Strs w A c.keys) (hks : k.size ≤ 9223372036854775807) (hmay : mayC c old is ≠ 0) :
    Calls Tryz.prog 43 #[.pointer (some ⟨a, 0, none⟩)] w fun e w' => e = .returned (resV (mayC c old is) (.slice none 0 0) 0) ∧ ModelAt w' m r l laid ∧ Chg (fun b => b = m ∨ b = r) w w' := by
  have h5 : c.kind ≠ 5 := fun e => hmay (by unfold mayC; rw [if_neg (by omega), if_neg (by omega), if_neg (by omega)])
  have hM1 := hM.al (.cells #[.int .i64 0, .slice none 0 0, .int .u64 0] 36)
  have hA1 := Blk.alloc hA (.cells #[.int .i64 0, .slice none 0 0, .int .u64 0] 36)
  have hK1 := hK.below (Below.al (Below.refl _ _) (.cells #[.int .i64 0, .slice none 0 0, .int .u64 0] 36))
  have HC := hide (may_any a m c A cap now ends failed old is _ hA1 hk hM1 k rest hkk hK1 hks)
  have HR := hide (Blk.new w 36 #[.int .i64 0, .slice none 0 0, .int .u64 0])
  have hmn : m ≠ w.heap.size := Nat.ne_of_lt hM.blk.lt
  have hrn : r < w.heap.size := hM.map.lt
  generalize mayC c old is = code at *
  have hcode : (code != 0) = true := by simpa using hmay
  clear hA hM hK hkk hA1 hM1 hK1 hmay
  go_enter Tryz.func43, Tryz.ntmps43
  go_wp2_with (refine HC.out.mono ?_; rintro e w1 ⟨rfl, hm1, hc1⟩; rw [if_neg (fun h => h5 h.1)] at hm1; have hres : Blk w1 w.heap.size 36 #[.int .i64 0, .slice none 0 0, .int .u64 0] := HR.out.chg hc1 (fun e => by omega); obtain ⟨d1, d2, d3⟩ := hres.rules; have HM := hide hm1; have HCH := hide hc1; clear hm1 hc1 hres)
  (try simp only [Exit.inBlock, Exit.then])
  refine bodyPost_ret (v := resV code (.slice none 0 0) 0) (by simp [results, resV, Tryz.results43, go_sem, *]) rfl ⟨rfl, ?_, ?_⟩
  · repeat (first | exact HM.out | refine ModelAt.far ?_ hmn (Nat.ne_of_lt hrn) _)
  · repeat (first | exact ((Chg.alloc (Chg.refl _ _) _).trans (HCH.out.mono (fun _ _ h => .inr h))) | refine Chg.setCell ?_ (fun h => by simp only at h; omega) _)

set_option maxRecDepth 100000 in
set_option maxHeartbeats 1000000 in
theorem store_plain (hA : ActAt w a m c A cap now ends failed old is) (hk : Pl.stores c.kind = true) {r : Nat} {l : Ents} {laid : Int} (hM : ModelAt w m r l laid)
    (k : ByteArray) (rest : List ByteArray) (hkk : c.keys = k :: rest) (hK : Strs w A c.keys) (hks : k.size ≤ 9223372036854775807) (hmay : mayC c old is = 0)
    (h8 : (c.kind == 8) = false) (h9 : (c.kind == 9) = false) (hv : c.val.size ≤ 9223372036854775807) :
    Calls Tryz.prog 43 #[.pointer (some ⟨a, 0, none⟩)] w fun e w' => StoreDone m r k w (if c.kind = 5 ∧ failed = true then dropM l k else l) laid failed ⟨c.val, c.flags, ends, 0⟩ e w' := by
  have hM1 := hM.al (.cells #[.int .i64 0, .slice none 0 0, .int .u64 0] 36)
  have hA1 := Blk.alloc hA (.cells #[.int .i64 0, .slice none 0 0, .int .u64 0] 36)
  have hK1 := hK.below (Below.al (Below.refl _ _) (.cells #[.int .i64 0, .slice none 0 0, .int .u64 0] 36))
  have hC := may_any a m c A cap now ends failed old is _ hA1 hk hM1 k rest hkk hK1 hks
  obtain ⟨l1, hl1⟩ : ∃ l1, (if c.kind = 5 ∧ failed = true then dropM l k else l) = l1 := ⟨_, rfl⟩
  rw [hl1]
  rw [hmay, hl1] at hC
  have HC := hide hC
  have HL1 := hide hl1
  clear hC
  have HR := hide (Blk.new w 36 #[.int .i64 0, .slice none 0 0, .int .u64 0])
  have hmn : m ≠ w.heap.size := Nat.ne_of_lt hM.blk.lt
  have hrn : r < w.heap.size := hM.map.lt
  have har : a ≠ r := Blk.ne_map hA hM.map
  have HA1 := hide hA1
  have HKK := hide hkk
  have HK1 := hide hK1
  have HMAP1 := hide hM1.map
  clear hA hM hK hkk hA1 hM1 hK1 hmay hl1
  go_enter Tryz.func43, Tryz.ntmps43
  go_upto_region 4 with (go_at_call 80; refine HC.out.mono ?_; rintro e w1 ⟨rfl, hm1, hc1⟩; have hres : Blk w1 w.heap.size 36 #[.int .i64 0, .slice none 0 0, .int .u64 0] := HR.out.chg hc1 (fun e => by omega); have hact : ActAt w1 a m c A cap now ends failed old is := HA1.out.chg hc1 har; have HRES := hide hres; have HACT := hide hact; have HM := hide hm1; have HCH := hide hc1; clear hm1 hc1 hres hact)
  have f0 : w1.cell? ⟨a, 0, none⟩ = some (.pointer (some ⟨m, 0, none⟩)) := HACT.out.cell 0
  have f1 : w1.cell? ⟨a, 1, none⟩ = some (.int .i64 c.kind) := HACT.out.cell 1
  have f3 : w1.cell? ⟨a, 3, none⟩ = some (.int .u32 c.flags) := HACT.out.cell 3
  have f5 : w1.cell? ⟨a, 5, none⟩ = some (.string c.val) := HACT.out.cell 5
  have f10 : w1.cell? ⟨a, 10, none⟩ = some (.int .i64 ends) := HACT.out.cell 10
  have fl := HACT.out.lt
  go_region_held3 (fun W' => W'.cell? ⟨a, 3, none⟩ = some (.int .u32 c.flags) ∧ W'.cell? ⟨a, 5, none⟩ = some (.string c.val) ∧ W'.cell? ⟨a, 10, none⟩ = some (.int .i64 ends))
    ((refine ⟨?_, ?_, ?_⟩ <;> go_simp))
    (fail)
  go_upto_region 12 with fail
  obtain ⟨W, hW⟩ : ∃ W, W = (w1.alloc (.cells #[.string c.val, .int .u32 c.flags, .int .i64 ends, .int .u64 0] 44)).drew := ⟨_, rfl⟩
  have hbW : Below w1.heap.size w1 W := by rw [hW]; exact Below.drew (Below.al (Below.refl _ _) _)
  have hX : Blk W w1.heap.size 44 #[.string c.val, .int .u32 c.flags, .int .i64 ends, .int .u64 0] := by rw [hW]; exact (Blk.new _ _ _).drew
  rw [← hW]
  have hA4 : ActAt W a m c A cap now ends failed old is := Blk.below HACT.out hbW
  have hM4 := HM.out.below hbW
  have hR4 := HRES.out.below hbW
  have hK4 : Strs W A c.keys := (HK1.out.keep HCH.out HMAP1.out).below hbW
  have hC4 : Chg (fun b => b = m ∨ b = r) w W := ((Chg.alloc (Chg.refl _ _) _).trans (HCH.out.mono (fun _ _ h => .inr h))).then_below hbW
  obtain ⟨d1, d2, d3⟩ := blk_res hR4
  obtain ⟨e1, e2, e3⟩ := hX.rules
  have HA4 := hide hA4
  have HM4 := hide hM4
  have HR4 := hide hR4
  have HK4 := hide hK4
  have HC4 := hide hC4
  have HW := hide hW
  clear hbW hX hA4 hM4 hR4 hK4 hC4 hW f0 f1 f3 f5 f10 fl
  by_cases hlong : 2000 < c.val.size
  · have HMF := HM4
    have HCF := HC4
    go_wp2
    (try simp only [Exit.inBlock, Exit.then])
    exact bodyPost_ret (v := resV 12 (.slice none 0 0) 0) (by simp [results, resV, Tryz.results43, go_sem, *]) rfl (StoreDone.long (x := ⟨c.val, c.flags, ends, 0⟩) hlong (by repeat (first | exact HMF.out | refine ModelAt.far ?_ hmn (Nat.ne_of_lt hrn) _)) (by repeat (first | exact HCF.out | refine Chg.setCell ?_ (fun h => by simp only at h; omega) _)))
  · cases failed
    · have HL := hide (lay_do a m r l1 laid c A cap now ends old is ⟨c.val, c.flags, ends, 0⟩ 2 W HA4.out HM4.out k rest HKK.out HK4.out hks)
      go_wp2_with (go_at_call 81; refine HL.out.mono ?_; rintro e w9 ⟨rfl, hm9, hc9⟩; have hr9 := HR4.out.chg hc9 (fun h => by omega); obtain ⟨d4, d5, d6⟩ := blk_res hr9; simp only [resV]; have HMF := hide hm9; have HCF := hide (HC4.out.trans hc9); clear hm9 hc9 hr9)
      (try simp only [Exit.inBlock, Exit.then])
      exact bodyPost_ret (v := resV 2 (.slice none 0 0) 0) (by simp [results, resV, Tryz.results43, go_sem, *]) rfl (StoreDone.done (x := ⟨c.val, c.flags, ends, 0⟩) hlong (by repeat (first | exact HMF.out | refine ModelAt.far ?_ hmn (Nat.ne_of_lt hrn) _)) (by repeat (first | exact HCF.out | refine Chg.setCell ?_ (fun h => by simp only at h; omega) _)))
    · have HL := hide (lay_fail a m c A cap now ends old is ⟨c.val, c.flags, ends, 0⟩ 2 W HA4.out)
      go_wp2_with (go_at_call 81; refine HL.out.mono ?_; rintro e w9 ⟨rfl, hb9⟩; have hr9 := HR4.out.below hb9; obtain ⟨d4, d5, d6⟩ := blk_res hr9; simp only [resV]; have HMF := hide (HM4.out.below hb9); have HCF := hide (HC4.out.then_below hb9); clear hb9 hr9)
      (try simp only [Exit.inBlock, Exit.then])
      exact bodyPost_ret (v := resV 11 (.slice none 0 0) 0) (by simp [results, resV, Tryz.results43, go_sem, *]) rfl (StoreDone.fail (x := ⟨c.val, c.flags, ends, 0⟩) hlong (by repeat (first | exact HMF.out | refine ModelAt.far ?_ hmn (Nat.ne_of_lt hrn) _)) (by repeat (first | exact HCF.out | refine Chg.setCell ?_ (fun h => by simp only at h; omega) _)))
set_option maxRecDepth 100000 in
set_option maxHeartbeats 1000000 in
theorem store_append (hA : ActAt w a m c A cap now ends failed old is) (hk : Pl.stores c.kind = true) {r : Nat} {l : Ents} {laid : Int} (hM : ModelAt w m r l laid)
    (k : ByteArray) (rest : List ByteArray) (hkk : c.keys = k :: rest) (hK : Strs w A c.keys) (hks : k.size ≤ 9223372036854775807) (hmay : mayC c old is = 0)
    (h8 : c.kind = 8) (hv : old.val.size + c.val.size ≤ 9223372036854775807) :
    Calls Tryz.prog 43 #[.pointer (some ⟨a, 0, none⟩)] w fun e w' => StoreDone m r k w (if c.kind = 5 ∧ failed = true then dropM l k else l) laid failed ⟨old.val ++ c.val, old.flags, old.exp, old.cas⟩ e w' := by
  have hM1 := hM.al (.cells #[.int .i64 0, .slice none 0 0, .int .u64 0] 36)
  have hA1 := Blk.alloc hA (.cells #[.int .i64 0, .slice none 0 0, .int .u64 0] 36)
  have hK1 := hK.below (Below.al (Below.refl _ _) (.cells #[.int .i64 0, .slice none 0 0, .int .u64 0] 36))
  have hC := may_any a m c A cap now ends failed old is _ hA1 hk hM1 k rest hkk hK1 hks
  obtain ⟨l1, hl1⟩ : ∃ l1, (if c.kind = 5 ∧ failed = true then dropM l k else l) = l1 := ⟨_, rfl⟩
  rw [hl1]
  rw [hmay, hl1] at hC
  have HC := hide hC
  have HL1 := hide hl1
  clear hC
  have HR := hide (Blk.new w 36 #[.int .i64 0, .slice none 0 0, .int .u64 0])
  have hmn : m ≠ w.heap.size := Nat.ne_of_lt hM.blk.lt
  have hrn : r < w.heap.size := hM.map.lt
  have har : a ≠ r := Blk.ne_map hA hM.map
  have HA1 := hide hA1
  have HKK := hide hkk
  have HK1 := hide hK1
  have HMAP1 := hide hM1.map
  have H8 := hide h8
  clear hA hM hK hkk hA1 hM1 hK1 hmay hl1 h8
  go_enter Tryz.func43, Tryz.ntmps43
  go_upto_region 4 with (go_at_call 80; refine HC.out.mono ?_; rintro e w1 ⟨rfl, hm1, hc1⟩; have hres : Blk w1 w.heap.size 36 #[.int .i64 0, .slice none 0 0, .int .u64 0] := HR.out.chg hc1 (fun e => by omega); have hact : ActAt w1 a m c A cap now ends failed old is := HA1.out.chg hc1 har; have HRES := hide hres; have HACT := hide hact; have HM := hide hm1; have HCH := hide hc1; clear hm1 hc1 hres hact)
  have f0 : w1.cell? ⟨a, 0, none⟩ = some (.pointer (some ⟨m, 0, none⟩)) := HACT.out.cell 0
  have f1 : w1.cell? ⟨a, 1, none⟩ = some (.int .i64 8) := by have := HACT.out.cell 1; rw [this]; simp [actCells, H8.out]
  have f12 : w1.cell? ⟨a, 12, none⟩ = some (.string old.val) := HACT.out.cell 12
  have f13 : w1.cell? ⟨a, 13, none⟩ = some (.int .u32 old.flags) := HACT.out.cell 13
  have f14 : w1.cell? ⟨a, 14, none⟩ = some (.int .i64 old.exp) := HACT.out.cell 14
  have f15 : w1.cell? ⟨a, 15, none⟩ = some (.int .u64 old.cas) := HACT.out.cell 15
  have f3 : w1.cell? ⟨a, 3, none⟩ = some (.int .u32 c.flags) := HACT.out.cell 3
  have f5 : w1.cell? ⟨a, 5, none⟩ = some (.string c.val) := HACT.out.cell 5
  have f10 : w1.cell? ⟨a, 10, none⟩ = some (.int .i64 ends) := HACT.out.cell 10
  have fl := HACT.out.lt
  go_region_held3 (fun W' => W'.cell? ⟨a, 3, none⟩ = some (.int .u32 c.flags) ∧ W'.cell? ⟨a, 5, none⟩ = some (.string c.val) ∧ W'.cell? ⟨a, 10, none⟩ = some (.int .i64 ends))
    ((refine ⟨?_, ?_, ?_⟩ <;> go_simp))
    (fail)
  go_upto_region 8 with fail
  go_region
  go_upto_region 12 with fail
  obtain ⟨W, hW⟩ : ∃ W, W = (w1.alloc (.cells #[.string (old.val ++ c.val), .int .u32 old.flags, .int .i64 old.exp, .int .u64 old.cas] 44)).drew.drew := ⟨_, rfl⟩
  have hbW : Below w1.heap.size w1 W := by rw [hW]; exact Below.drew (Below.drew (Below.al (Below.refl _ _) _))
  have hX : Blk W w1.heap.size 44 #[.string (old.val ++ c.val), .int .u32 old.flags, .int .i64 old.exp, .int .u64 old.cas] := by rw [hW]; exact (Blk.new _ _ _).drew.drew
  rw [← hW]
  have hA4 : ActAt W a m c A cap now ends failed old is := Blk.below HACT.out hbW
  have hM4 := HM.out.below hbW
  have hR4 := HRES.out.below hbW
  have hK4 : Strs W A c.keys := (HK1.out.keep HCH.out HMAP1.out).below hbW
  have hC4 : Chg (fun b => b = m ∨ b = r) w W := ((Chg.alloc (Chg.refl _ _) _).trans (HCH.out.mono (fun _ _ h => .inr h))).then_below hbW
  obtain ⟨d1, d2, d3⟩ := blk_res hR4
  obtain ⟨e1, e2, e3⟩ := hX.rules
  have HA4 := hide hA4
  have HM4 := hide hM4
  have HR4 := hide hR4
  have HK4 := hide hK4
  have HC4 := hide hC4
  have HW := hide hW
  clear hbW hX hA4 hM4 hR4 hK4 hC4 hW f0 f1 f3 f5 f10 fl f12 f13 f14 f15
  have hss : (old.val ++ c.val).size = old.val.size + c.val.size := ByteArray.size_append
  by_cases hlong : 2000 < (old.val ++ c.val).size
  all_goals
    have hl2 := hlong
    rw [hss] at hl2
  all_goals have HSS := hide hss
  all_goals clear hss
  · have HMF := HM4
    have HCF := HC4
    go_wp2
    (try simp only [Exit.inBlock, Exit.then])
    exact bodyPost_ret (v := resV 12 (.slice none 0 0) 0) (by simp [results, resV, Tryz.results43, go_sem, *]) rfl (StoreDone.long (x := ⟨old.val ++ c.val, old.flags, old.exp, old.cas⟩) hlong (by repeat (first | exact HMF.out | refine ModelAt.far ?_ hmn (Nat.ne_of_lt hrn) _)) (by repeat (first | exact HCF.out | refine Chg.setCell ?_ (fun h => by simp only at h; omega) _)))
  · cases failed
    · have HL := hide (lay_do a m r l1 laid c A cap now ends old is ⟨old.val ++ c.val, old.flags, old.exp, old.cas⟩ 2 W HA4.out HM4.out k rest HKK.out HK4.out hks)
      go_wp2_with (go_at_call 81; refine HL.out.mono ?_; rintro e w9 ⟨rfl, hm9, hc9⟩; have hr9 := HR4.out.chg hc9 (fun h => by omega); obtain ⟨d4, d5, d6⟩ := blk_res hr9; simp only [resV]; have HMF := hide hm9; have HCF := hide (HC4.out.trans hc9); clear hm9 hc9 hr9)
      (try simp only [Exit.inBlock, Exit.then])
      exact bodyPost_ret (v := resV 2 (.slice none 0 0) 0) (by simp [results, resV, Tryz.results43, go_sem, *]) rfl (StoreDone.done (x := ⟨old.val ++ c.val, old.flags, old.exp, old.cas⟩) hlong (by repeat (first | exact HMF.out | refine ModelAt.far ?_ hmn (Nat.ne_of_lt hrn) _)) (by repeat (first | exact HCF.out | refine Chg.setCell ?_ (fun h => by simp only at h; omega) _)))
    · have HL := hide (lay_fail a m c A cap now ends old is ⟨old.val ++ c.val, old.flags, old.exp, old.cas⟩ 2 W HA4.out)
      go_wp2_with (go_at_call 81; refine HL.out.mono ?_; rintro e w9 ⟨rfl, hb9⟩; have hr9 := HR4.out.below hb9; obtain ⟨d4, d5, d6⟩ := blk_res hr9; simp only [resV]; have HMF := hide (HM4.out.below hb9); have HCF := hide (HC4.out.then_below hb9); clear hb9 hr9)
      (try simp only [Exit.inBlock, Exit.then])
      exact bodyPost_ret (v := resV 11 (.slice none 0 0) 0) (by simp [results, resV, Tryz.results43, go_sem, *]) rfl (StoreDone.fail (x := ⟨old.val ++ c.val, old.flags, old.exp, old.cas⟩) hlong (by repeat (first | exact HMF.out | refine ModelAt.far ?_ hmn (Nat.ne_of_lt hrn) _)) (by repeat (first | exact HCF.out | refine Chg.setCell ?_ (fun h => by simp only at h; omega) _)))
set_option maxRecDepth 100000 in
set_option maxHeartbeats 1000000 in
theorem store_prepend (hA : ActAt w a m c A cap now ends failed old is) (hk : Pl.stores c.kind = true) {r : Nat} {l : Ents} {laid : Int} (hM : ModelAt w m r l laid)
    (k : ByteArray) (rest : List ByteArray) (hkk : c.keys = k :: rest) (hK : Strs w A c.keys) (hks : k.size ≤ 9223372036854775807) (hmay : mayC c old is = 0)
    (h8 : c.kind = 9) (hv : c.val.size + old.val.size ≤ 9223372036854775807) :
    Calls Tryz.prog 43 #[.pointer (some ⟨a, 0, none⟩)] w fun e w' => StoreDone m r k w (if c.kind = 5 ∧ failed = true then dropM l k else l) laid failed ⟨c.val ++ old.val, old.flags, old.exp, old.cas⟩ e w' := by
  have hM1 := hM.al (.cells #[.int .i64 0, .slice none 0 0, .int .u64 0] 36)
  have hA1 := Blk.alloc hA (.cells #[.int .i64 0, .slice none 0 0, .int .u64 0] 36)
  have hK1 := hK.below (Below.al (Below.refl _ _) (.cells #[.int .i64 0, .slice none 0 0, .int .u64 0] 36))
  have hC := may_any a m c A cap now ends failed old is _ hA1 hk hM1 k rest hkk hK1 hks
  obtain ⟨l1, hl1⟩ : ∃ l1, (if c.kind = 5 ∧ failed = true then dropM l k else l) = l1 := ⟨_, rfl⟩
  rw [hl1]
  rw [hmay, hl1] at hC
  have HC := hide hC
  have HL1 := hide hl1
  clear hC
  have HR := hide (Blk.new w 36 #[.int .i64 0, .slice none 0 0, .int .u64 0])
  have hmn : m ≠ w.heap.size := Nat.ne_of_lt hM.blk.lt
  have hrn : r < w.heap.size := hM.map.lt
  have har : a ≠ r := Blk.ne_map hA hM.map
  have HA1 := hide hA1
  have HKK := hide hkk
  have HK1 := hide hK1
  have HMAP1 := hide hM1.map
  have H8 := hide h8
  clear hA hM hK hkk hA1 hM1 hK1 hmay hl1 h8
  go_enter Tryz.func43, Tryz.ntmps43
  go_upto_region 4 with (go_at_call 80; refine HC.out.mono ?_; rintro e w1 ⟨rfl, hm1, hc1⟩; have hres : Blk w1 w.heap.size 36 #[.int .i64 0, .slice none 0 0, .int .u64 0] := HR.out.chg hc1 (fun e => by omega); have hact : ActAt w1 a m c A cap now ends failed old is := HA1.out.chg hc1 har; have HRES := hide hres; have HACT := hide hact; have HM := hide hm1; have HCH := hide hc1; clear hm1 hc1 hres hact)
  have f0 : w1.cell? ⟨a, 0, none⟩ = some (.pointer (some ⟨m, 0, none⟩)) := HACT.out.cell 0
  have f1 : w1.cell? ⟨a, 1, none⟩ = some (.int .i64 9) := by have := HACT.out.cell 1; rw [this]; simp [actCells, H8.out]
  have f12 : w1.cell? ⟨a, 12, none⟩ = some (.string old.val) := HACT.out.cell 12
  have f13 : w1.cell? ⟨a, 13, none⟩ = some (.int .u32 old.flags) := HACT.out.cell 13
  have f14 : w1.cell? ⟨a, 14, none⟩ = some (.int .i64 old.exp) := HACT.out.cell 14
  have f15 : w1.cell? ⟨a, 15, none⟩ = some (.int .u64 old.cas) := HACT.out.cell 15
  have f3 : w1.cell? ⟨a, 3, none⟩ = some (.int .u32 c.flags) := HACT.out.cell 3
  have f5 : w1.cell? ⟨a, 5, none⟩ = some (.string c.val) := HACT.out.cell 5
  have f10 : w1.cell? ⟨a, 10, none⟩ = some (.int .i64 ends) := HACT.out.cell 10
  have fl := HACT.out.lt
  go_region_held3 (fun W' => W'.cell? ⟨a, 3, none⟩ = some (.int .u32 c.flags) ∧ W'.cell? ⟨a, 5, none⟩ = some (.string c.val) ∧ W'.cell? ⟨a, 10, none⟩ = some (.int .i64 ends))
    ((refine ⟨?_, ?_, ?_⟩ <;> go_simp))
    (fail)
  go_upto_region 11 with fail
  go_region
  go_upto_region 12 with fail
  obtain ⟨W, hW⟩ : ∃ W, W = (w1.alloc (.cells #[.string (c.val ++ old.val), .int .u32 old.flags, .int .i64 old.exp, .int .u64 old.cas] 44)).drew.drew := ⟨_, rfl⟩
  have hbW : Below w1.heap.size w1 W := by rw [hW]; exact Below.drew (Below.drew (Below.al (Below.refl _ _) _))
  have hX : Blk W w1.heap.size 44 #[.string (c.val ++ old.val), .int .u32 old.flags, .int .i64 old.exp, .int .u64 old.cas] := by rw [hW]; exact (Blk.new _ _ _).drew.drew
  rw [← hW]
  have hA4 : ActAt W a m c A cap now ends failed old is := Blk.below HACT.out hbW
  have hM4 := HM.out.below hbW
  have hR4 := HRES.out.below hbW
  have hK4 : Strs W A c.keys := (HK1.out.keep HCH.out HMAP1.out).below hbW
  have hC4 : Chg (fun b => b = m ∨ b = r) w W := ((Chg.alloc (Chg.refl _ _) _).trans (HCH.out.mono (fun _ _ h => .inr h))).then_below hbW
  obtain ⟨d1, d2, d3⟩ := blk_res hR4
  obtain ⟨e1, e2, e3⟩ := hX.rules
  have HA4 := hide hA4
  have HM4 := hide hM4
  have HR4 := hide hR4
  have HK4 := hide hK4
  have HC4 := hide hC4
  have HW := hide hW
  clear hbW hX hA4 hM4 hR4 hK4 hC4 hW f0 f1 f3 f5 f10 fl f12 f13 f14 f15
  have hss : (c.val ++ old.val).size = c.val.size + old.val.size := ByteArray.size_append
  by_cases hlong : 2000 < (c.val ++ old.val).size
  all_goals
    have hl2 := hlong
    rw [hss] at hl2
  all_goals have HSS := hide hss
  all_goals clear hss
  · have HMF := HM4
    have HCF := HC4
    go_wp2
    (try simp only [Exit.inBlock, Exit.then])
    exact bodyPost_ret (v := resV 12 (.slice none 0 0) 0) (by simp [results, resV, Tryz.results43, go_sem, *]) rfl (StoreDone.long (x := ⟨c.val ++ old.val, old.flags, old.exp, old.cas⟩) hlong (by repeat (first | exact HMF.out | refine ModelAt.far ?_ hmn (Nat.ne_of_lt hrn) _)) (by repeat (first | exact HCF.out | refine Chg.setCell ?_ (fun h => by simp only at h; omega) _)))
  · cases failed
    · have HL := hide (lay_do a m r l1 laid c A cap now ends old is ⟨c.val ++ old.val, old.flags, old.exp, old.cas⟩ 2 W HA4.out HM4.out k rest HKK.out HK4.out hks)
      go_wp2_with (go_at_call 81; refine HL.out.mono ?_; rintro e w9 ⟨rfl, hm9, hc9⟩; have hr9 := HR4.out.chg hc9 (fun h => by omega); obtain ⟨d4, d5, d6⟩ := blk_res hr9; simp only [resV]; have HMF := hide hm9; have HCF := hide (HC4.out.trans hc9); clear hm9 hc9 hr9)
      (try simp only [Exit.inBlock, Exit.then])
      exact bodyPost_ret (v := resV 2 (.slice none 0 0) 0) (by simp [results, resV, Tryz.results43, go_sem, *]) rfl (StoreDone.done (x := ⟨c.val ++ old.val, old.flags, old.exp, old.cas⟩) hlong (by repeat (first | exact HMF.out | refine ModelAt.far ?_ hmn (Nat.ne_of_lt hrn) _)) (by repeat (first | exact HCF.out | refine Chg.setCell ?_ (fun h => by simp only at h; omega) _)))
    · have HL := hide (lay_fail a m c A cap now ends old is ⟨c.val ++ old.val, old.flags, old.exp, old.cas⟩ 2 W HA4.out)
      go_wp2_with (go_at_call 81; refine HL.out.mono ?_; rintro e w9 ⟨rfl, hb9⟩; have hr9 := HR4.out.below hb9; obtain ⟨d4, d5, d6⟩ := blk_res hr9; simp only [resV]; have HMF := hide (HM4.out.below hb9); have HCF := hide (HC4.out.then_below hb9); clear hb9 hr9)
      (try simp only [Exit.inBlock, Exit.then])
      exact bodyPost_ret (v := resV 11 (.slice none 0 0) 0) (by simp [results, resV, Tryz.results43, go_sem, *]) rfl (StoreDone.fail (x := ⟨c.val ++ old.val, old.flags, old.exp, old.cas⟩) hlong (by repeat (first | exact HMF.out | refine ModelAt.far ?_ hmn (Nat.ne_of_lt hrn) _)) (by repeat (first | exact HCF.out | refine Chg.setCell ?_ (fun h => by simp only at h; omega) _)))

/-- store: what is told, the entries, the count. -/
def storeM (l : Ents) (laid : Int) (c : Cmd) (ends : Int) (failed : Bool) (old : Ent) (is : Bool) (k : ByteArray) : Int × Ents × Int :=
  if mayC c old is ≠ 0 then (mayC c old is, l, laid) else
  let l1 := if c.kind = 5 ∧ failed = true then dropM l k else l
  let x := laidE c ends old
  (if 2000 < x.val.size then 12 else if failed then 11 else 2,
   if 2000 < x.val.size then l1 else if failed then l1 else putN l1 k { x with cas := u64 (laid + 1) },
   if 2000 < x.val.size then laid else if failed then laid else u64 (laid + 1))

theorem store_any (hA : ActAt w a m c A cap now ends failed old is) (hk : Pl.stores c.kind = true) {r : Nat} {l : Ents} {laid : Int} (hM : ModelAt w m r l laid)
    (k : ByteArray) (rest : List ByteArray) (hkk : c.keys = k :: rest) (hK : Strs w A c.keys) (hks : k.size ≤ 9223372036854775807)
    (hv : c.val.size ≤ 2000) (ho : old.val.size ≤ 2000) :
    Calls Tryz.prog 43 #[.pointer (some ⟨a, 0, none⟩)] w fun e w' => e = .returned (resV (storeM l laid c ends failed old is k).1 (.slice none 0 0) 0) ∧
      ModelAt w' m r (storeM l laid c ends failed old is k).2.1 (storeM l laid c ends failed old is k).2.2 ∧ Chg (fun b => b = m ∨ b = r) w w' := by
  by_cases hm : mayC c old is = 0
  · by_cases h8 : c.kind = 8
    · refine (store_append a m c A cap now ends failed old is w hA hk hM k rest hkk hK hks hm h8 (by omega)).mono fun e w' hh => ?_
      unfold storeM laidE
      rw [if_neg (by simpa using hm), if_pos h8]
      exact hh
    · by_cases h9 : c.kind = 9
      · refine (store_prepend a m c A cap now ends failed old is w hA hk hM k rest hkk hK hks hm h9 (by omega)).mono fun e w' hh => ?_
        unfold storeM laidE
        rw [if_neg (by simpa using hm), if_neg h8, if_pos h9]
        exact hh
      · refine (store_plain a m c A cap now ends failed old is w hA hk hM k rest hkk hK hks hm (by simpa using h8) (by simpa using h9) (by omega)).mono fun e w' hh => ?_
        unfold storeM laidE
        rw [if_neg (by simpa using hm), if_neg h8, if_neg h9]
        exact hh
  · refine (store_no a m c A cap now ends failed old is w hA hk hM k rest hkk hK hks hm).mono fun e w' hh => ?_
    unfold storeM
    rw [if_pos hm]
    exact hh
end
end Go.Proofs.YthcdocedpcjbeaaGreatDoor

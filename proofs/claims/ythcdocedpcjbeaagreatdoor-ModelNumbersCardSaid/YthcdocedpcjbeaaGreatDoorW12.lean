/-
  The walk of the model's count.
-/
import Derived.Test.YthcdocedpcjbeaaGreatDoorW5
import Derived.Test.YthcdocedpcjbeaaGreatDoorW11
namespace Go.Proofs.YthcdocedpcjbeaaGreatDoor
open Go.RowKit

/-- The library's variables that are read. -/
structure Globs (w : World) : Prop where
  err : ErrV w
  tab : Tab w
theorem var_chg {S : Nat → Prop} {w w' : World} {name : String} {g : Nat} {cs : Array Value} (hg : Tryz.prog.globalNamed name = some g) (hS : ∀ b, S b → 8 ≤ b) (h8 : g < 8)
    (hc : Chg S w w') (h : w.var? Tryz.prog name = some cs) : w'.var? Tryz.prog name = some cs := by
  unfold World.var? at h ⊢
  simp only [hg, Option.bind_some] at h ⊢
  have hlt : g < w.heap.size := by
    rcases Nat.lt_or_ge g w.heap.size with h' | h'
    · exact h'
    · rw [Array.getElem?_eq_none h'] at h; simp at h
  rw [hc.block g hlt (fun hs => by have := hS g hs; omega)]
  exact h
theorem Globs.chg {S : Nat → Prop} {w w' : World} (h : Globs w) (hc : Chg S w w') (hS : ∀ b, S b → 8 ≤ b) : Globs w' := by
  obtain ⟨⟨tp, p, he⟩, ht⟩ := h
  exact ⟨⟨tp, p, var_chg (g := 3) (by kernel_rfl) hS (by decide) hc he⟩, var_chg (g := 1) (by kernel_rfl) hS (by decide) hc ht⟩
theorem Globs.below {w w' : World} (h : Globs w) (hb : Below w.heap.size w w') : Globs w' := h.chg (S := fun _ => False) (Chg.of_below hb) (fun _ h => h.elim)

theorem parseM_le : ∀ (l : List UInt8) (M acc u : Nat), Lib.parseUintM M acc l = .ok u → acc ≤ M → u ≤ M
  | [], M, acc, u, h, ha => by simp [Lib.parseUintM] at h; omega
  | c :: r, M, acc, u, h, ha => by
    simp only [Lib.parseUintM] at h
    split at h
    · split at h
      · cases h
      · split at h
        · cases h
        · exact parseM_le r _ _ _ h (by omega)
    · cases h
theorem parse_lt (s : ByteArray) : 0 ≤ (parse s).1 ∧ (parse s).1 < 18446744073709551616 := by
  unfold parse
  split
  · split
    · simp
    · split
      · simp
      · cases h : Lib.parseUintB 64 s.data.toList with
        | ok u =>
          unfold Lib.parseUintB at h
          split at h
          · cases h
          · have := parseM_le _ _ _ _ h (Nat.zero_le _)
            simp only
            omega
        | _ => simp
  · simp

theorem text_int (n : Int) (h0 : 0 ≤ n) (h1 : n < 18446744073709551616) (w : World) (htab : Tab w) :
    Calls Tryz.prog 70 #[.int .u64 n] w fun e w' => e = .returned (.string (dec n.toNat)) ∧ Below w.heap.size w w' := by
  obtain ⟨u, rfl⟩ := Int.eq_ofNat_of_zero_le h0
  exact text_any u (by omega) w htab

def countV (c : Cmd) (old : Ent) : Int :=
  if c.kind = 12 then u64 ((parse old.val).1 + c.delta) else (parse old.val).1 - min (parse old.val).1 c.delta

section
variable (a m : Nat) (c : Cmd) (A : Option Addr) (cap : Nat) (now ends : Int) (failed : Bool) (old : Ent) (is : Bool) (w : World)

set_option maxRecDepth 100000 in
set_option maxHeartbeats 1000000 in
theorem count_no (hA : ActAt w a m c A cap now ends failed old is) (hG : Globs w) (hp : (parse old.val).2 ≠ 0) (ho : old.val.size ≤ 2000) :
    Calls Tryz.prog 46 #[.pointer (some ⟨a, 0, none⟩)] w fun e w' => e = .returned (resV 8 (.slice none 0 0) 0) ∧ Below w.heap.size w w' := by
  have f12 : w.cell? ⟨a, 12, none⟩ = some (.string old.val) := hA.cell 12
  have fl := hA.lt
  have HP := hide (parse_any old.val _ (by omega) (hG.below (Below.al (Below.refl _ _) (.cells #[.int .i64 0, .slice none 0 0, .int .u64 0] 36))).err)
  have HR := hide (Blk.new w 36 #[.int .i64 0, .slice none 0 0, .int .u64 0])
  generalize parse old.val = q at *
  obtain ⟨n, e⟩ := q
  have he : (e != 0) = true := by simpa using hp
  clear hA hG hp ho
  go_enter Tryz.func46, Tryz.ntmps46
  go_wp2_with (go_at_call 82; refine HP.out.mono ?_; rintro e w1 ⟨rfl, hb1⟩; have hr := HR.out.below hb1; obtain ⟨d1, d2, d3⟩ := blk_res hr; have HB := hide (Below.step (Below.al (Below.refl _ _) _) hb1); clear hb1 hr)
  (try simp only [Exit.inBlock, Exit.then])
  refine bodyPost_ret (v := resV 8 (.slice none 0 0) 0) (by simp [results, resV, Tryz.results46, go_sem, *]) rfl ⟨rfl, ?_⟩
  repeat (first | exact HB.out | refine Below.setCell ?_ (by simp) _)

set_option maxRecDepth 100000 in
set_option maxHeartbeats 1000000 in
theorem count_incr (hA : ActAt w a m c A cap now ends false old is) (hG : Globs w) (hp : (parse old.val).2 = 0) (ho : old.val.size ≤ 2000) (hk : c.kind = 12)
    {r : Nat} {l : Ents} {laid : Int} (hM : ModelAt w m r l laid)
    (k : ByteArray) (rest : List ByteArray) (hkk : c.keys = k :: rest) (hK : Strs w A c.keys) (hks : k.size ≤ 9223372036854775807) :
    Calls Tryz.prog 46 #[.pointer (some ⟨a, 0, none⟩)] w fun e w' => e = .returned (resV 7 (.slice none 0 0) (countV c old)) ∧
      ModelAt w' m r (putN l k { old with val := dec (countV c old).toNat, cas := u64 (laid + 1) }) (u64 (laid + 1)) ∧ Chg (fun b => b = m ∨ b = r) w w' := by
  have f12 : w.cell? ⟨a, 12, none⟩ = some (.string old.val) := hA.cell 12
  have fl := hA.lt
  have HP := hide (parse_any old.val _ (by omega) (hG.below (Below.al (Below.refl _ _) (.cells #[.int .i64 0, .slice none 0 0, .int .u64 0] 36))).err)
  have HR := hide (Blk.new w 36 #[.int .i64 0, .slice none 0 0, .int .u64 0])
  have hmn := hM.blk.lt
  have hrn := hM.map.lt
  obtain ⟨hn0, hn1⟩ := parse_lt old.val
  have hcv : countV c old = IntKind.u64.wrap ((parse old.val).1 + c.delta) := by unfold countV; rw [if_pos hk]; rfl
  have hv0 : 0 ≤ countV c old ∧ countV c old < 18446744073709551616 := by rw [hcv, IntKind.wrap_u64]; omega
  rw [hp] at HP
  obtain ⟨v, hv⟩ : ∃ v, countV c old = v := ⟨_, rfl⟩
  rw [hv] at hcv hv0 ⊢
  obtain ⟨hv0, hv1⟩ := hv0
  generalize (parse old.val).1 = n at *
  have HV := hide hcv
  have HA := hide hA
  have HK := hide hK
  have HKK := hide hkk
  have HM := hide hM
  have HG := hide hG
  have H12 := hide hk
  clear hA hG hp hkk hK hM hk hv hcv
  go_enter Tryz.func46, Tryz.ntmps46
  go_upto_region 4 with (go_at_call 82; refine HP.out.mono ?_; rintro e w1 ⟨rfl, hb1⟩; have HB1 := hide (Below.step (Below.al (Below.refl _ _) _) hb1); have HR1 := hide (HR.out.below hb1); clear hb1)
  have hA1 := HA.out.below HB1.out
  have f1 : w1.cell? ⟨a, 1, none⟩ = some (.int .i64 12) := by have := hA1.cell 1; rw [this]; simp [actCells, H12.out]
  have f0 : w1.cell? ⟨a, 0, none⟩ = some (.pointer (some ⟨m, 0, none⟩)) := hA1.cell 0
  have f7 : w1.cell? ⟨a, 7, none⟩ = some (.int .u64 c.delta) := hA1.cell 7
  have g12 : w1.cell? ⟨a, 12, none⟩ = some (.string old.val) := hA1.cell 12
  have g13 : w1.cell? ⟨a, 13, none⟩ = some (.int .u32 old.flags) := hA1.cell 13
  have g14 : w1.cell? ⟨a, 14, none⟩ = some (.int .i64 old.exp) := hA1.cell 14
  have g15 : w1.cell? ⟨a, 15, none⟩ = some (.int .u64 old.cas) := hA1.cell 15
  have gl := hA1.lt
  clear hA1
  go_upto_region 8 with fail
  rw [← HV.out]
  obtain ⟨W, hW⟩ : ∃ W, W = w1.alloc (.cells #[.string old.val, .int .u32 old.flags, .int .i64 old.exp, .int .u64 old.cas] 44) := ⟨_, rfl⟩
  have hbW : Below w1.heap.size w1 W := by rw [hW]; exact Below.al (Below.refl _ _) _
  have hX : Blk W w1.heap.size 44 #[.string old.val, .int .u32 old.flags, .int .i64 old.exp, .int .u64 old.cas] := by rw [hW]; exact Blk.new _ _ _
  rw [← hW]
  have hbw : Below w.heap.size w W := Below.step HB1.out hbW
  have HBW := hide hbw
  have HX := hide hX
  have HRW := hide (HR1.out.below hbW)
  have HT := hide (text_int v hv0 hv1 W (HG.out.below hbw).tab)
  have HW := hide hW
  clear hbW hX hbw hW f0 f1 f7 g12 g13 g14 g15 gl
  go_upto_region 9 with (go_at_call 70; refine HT.out.mono ?_; rintro e w2 ⟨rfl, hb2⟩; have hx2 := HX.out.below hb2; obtain ⟨e1, e2, e3⟩ := hx2.rules; have HB2 := hide (Below.step HBW.out hb2); have HR2 := hide (HRW.out.below hb2); have HX2 := hide hx2; clear hb2 hx2)
  obtain ⟨W3, hW3⟩ : ∃ W3, W3 = w2.setCell ⟨w1.heap.size, 0, none⟩ (.string (dec v.toNat)) := ⟨_, rfl⟩
  rw [← hW3]
  have hx3 : Blk W3 w1.heap.size 44 #[.string (dec v.toNat), .int .u32 old.flags, .int .i64 old.exp, .int .u64 old.cas] := by rw [hW3]; exact HX2.out.set_ 0 _
  have hs1 : w.heap.size < w1.heap.size := HR1.out.lt
  have hb3 : Below w.heap.size w W3 := by rw [hW3]; exact HB2.out.setCell (by simp; omega) _
  have hr3 : Blk W3 w.heap.size 36 #[.int .i64 0, .slice none 0 0, .int .u64 0] := by rw [hW3]; exact HR2.out.far (by simp; omega) _
  have hA3 := HA.out.below hb3
  have hM3 := HM.out.below hb3
  have hK3 := HK.out.below hb3
  have HL := hide (lay_do a m r l laid c A cap now ends old is ⟨dec v.toNat, old.flags, old.exp, old.cas⟩ 7 _ hA3 hM3 k rest HKK.out hK3 hks)
  have HM3 := hide hM3
  have HR3 := hide hr3
  have HC3 := hide (Chg.of_below (S := fun b => b = m ∨ b = r) hb3)
  obtain ⟨e1, e2, e3⟩ := hx3.rules
  obtain ⟨d1, d2, d3⟩ := blk_res hr3
  have HW3 := hide hW3
  clear hx3 hb3 hr3 hA3 hM3 hK3 hW3
  go_wp2_with (go_at_call 81; refine HL.out.mono ?_; rintro e w9 ⟨rfl, hm9, hc9⟩; have hr9 := HR3.out.chg hc9 (fun h => by omega); obtain ⟨d4, d5, d6⟩ := blk_res hr9; simp only [resV]; have HMF := hide hm9; have HCF := hide (HC3.out.trans hc9); clear hm9 hc9 hr9)
  (try simp only [Exit.inBlock, Exit.then])
  refine bodyPost_ret (v := resV 7 (.slice none 0 0) v) (by simp [results, resV, Tryz.results46, go_sem, *]) rfl ⟨rfl, ?_, ?_⟩
  · have hm' : m ≠ w.heap.size := Nat.ne_of_lt hmn
    have hr' : r ≠ w.heap.size := Nat.ne_of_lt hrn
    repeat (first | exact HMF.out | refine ModelAt.far ?_ hm' hr' _ | refine ModelAt.al ?_ _)
  · repeat (first | exact HCF.out | refine Chg.setCell ?_ (fun h => by simp only at h; omega) _ | refine Chg.alloc ?_ _)

set_option maxRecDepth 100000 in
set_option maxHeartbeats 1000000 in
theorem count_incrF (hA : ActAt w a m c A cap now ends true old is) (hG : Globs w) (hp : (parse old.val).2 = 0) (ho : old.val.size ≤ 2000) (hk : c.kind = 12)
    {r : Nat} {l : Ents} {laid : Int} (hM : ModelAt w m r l laid)
    :
    Calls Tryz.prog 46 #[.pointer (some ⟨a, 0, none⟩)] w fun e w' => e = .returned (resV 11 (.slice none 0 0) 0) ∧ ModelAt w' m r l laid ∧ Chg (fun b => b = m ∨ b = r) w w' := by
  have f12 : w.cell? ⟨a, 12, none⟩ = some (.string old.val) := hA.cell 12
  have fl := hA.lt
  have HP := hide (parse_any old.val _ (by omega) (hG.below (Below.al (Below.refl _ _) (.cells #[.int .i64 0, .slice none 0 0, .int .u64 0] 36))).err)
  have HR := hide (Blk.new w 36 #[.int .i64 0, .slice none 0 0, .int .u64 0])
  have hmn := hM.blk.lt
  have hrn := hM.map.lt
  obtain ⟨hn0, hn1⟩ := parse_lt old.val
  have hcv : countV c old = IntKind.u64.wrap ((parse old.val).1 + c.delta) := by unfold countV; rw [if_pos hk]; rfl
  have hv0 : 0 ≤ countV c old ∧ countV c old < 18446744073709551616 := by rw [hcv, IntKind.wrap_u64]; omega
  rw [hp] at HP
  obtain ⟨v, hv⟩ : ∃ v, countV c old = v := ⟨_, rfl⟩
  rw [hv] at hcv hv0 
  obtain ⟨hv0, hv1⟩ := hv0
  generalize (parse old.val).1 = n at *
  have HV := hide hcv
  have HA := hide hA
  have HM := hide hM
  have HG := hide hG
  have H12 := hide hk
  clear hA hG hp hM hk hv hcv
  go_enter Tryz.func46, Tryz.ntmps46
  go_upto_region 4 with (go_at_call 82; refine HP.out.mono ?_; rintro e w1 ⟨rfl, hb1⟩; have HB1 := hide (Below.step (Below.al (Below.refl _ _) _) hb1); have HR1 := hide (HR.out.below hb1); clear hb1)
  have hA1 := HA.out.below HB1.out
  have f1 : w1.cell? ⟨a, 1, none⟩ = some (.int .i64 12) := by have := hA1.cell 1; rw [this]; simp [actCells, H12.out]
  have f0 : w1.cell? ⟨a, 0, none⟩ = some (.pointer (some ⟨m, 0, none⟩)) := hA1.cell 0
  have f7 : w1.cell? ⟨a, 7, none⟩ = some (.int .u64 c.delta) := hA1.cell 7
  have g12 : w1.cell? ⟨a, 12, none⟩ = some (.string old.val) := hA1.cell 12
  have g13 : w1.cell? ⟨a, 13, none⟩ = some (.int .u32 old.flags) := hA1.cell 13
  have g14 : w1.cell? ⟨a, 14, none⟩ = some (.int .i64 old.exp) := hA1.cell 14
  have g15 : w1.cell? ⟨a, 15, none⟩ = some (.int .u64 old.cas) := hA1.cell 15
  have gl := hA1.lt
  clear hA1
  go_upto_region 8 with fail
  rw [← HV.out]
  obtain ⟨W, hW⟩ : ∃ W, W = w1.alloc (.cells #[.string old.val, .int .u32 old.flags, .int .i64 old.exp, .int .u64 old.cas] 44) := ⟨_, rfl⟩
  have hbW : Below w1.heap.size w1 W := by rw [hW]; exact Below.al (Below.refl _ _) _
  have hX : Blk W w1.heap.size 44 #[.string old.val, .int .u32 old.flags, .int .i64 old.exp, .int .u64 old.cas] := by rw [hW]; exact Blk.new _ _ _
  rw [← hW]
  have hbw : Below w.heap.size w W := Below.step HB1.out hbW
  have HBW := hide hbw
  have HX := hide hX
  have HRW := hide (HR1.out.below hbW)
  have HT := hide (text_int v hv0 hv1 W (HG.out.below hbw).tab)
  have HW := hide hW
  clear hbW hX hbw hW f0 f1 f7 g12 g13 g14 g15 gl
  go_upto_region 9 with (go_at_call 70; refine HT.out.mono ?_; rintro e w2 ⟨rfl, hb2⟩; have hx2 := HX.out.below hb2; obtain ⟨e1, e2, e3⟩ := hx2.rules; have HB2 := hide (Below.step HBW.out hb2); have HR2 := hide (HRW.out.below hb2); have HX2 := hide hx2; clear hb2 hx2)
  obtain ⟨W3, hW3⟩ : ∃ W3, W3 = w2.setCell ⟨w1.heap.size, 0, none⟩ (.string (dec v.toNat)) := ⟨_, rfl⟩
  rw [← hW3]
  have hx3 : Blk W3 w1.heap.size 44 #[.string (dec v.toNat), .int .u32 old.flags, .int .i64 old.exp, .int .u64 old.cas] := by rw [hW3]; exact HX2.out.set_ 0 _
  have hs1 : w.heap.size < w1.heap.size := HR1.out.lt
  have hb3 : Below w.heap.size w W3 := by rw [hW3]; exact HB2.out.setCell (by simp; omega) _
  have hr3 : Blk W3 w.heap.size 36 #[.int .i64 0, .slice none 0 0, .int .u64 0] := by rw [hW3]; exact HR2.out.far (by simp; omega) _
  have hA3 := HA.out.below hb3
  have hM3 := HM.out.below hb3
  have HL := hide (lay_fail a m c A cap now ends old is ⟨dec v.toNat, old.flags, old.exp, old.cas⟩ 7 _ hA3)
  have HM3 := hide hM3
  have HR3 := hide hr3
  have HC3 := hide (Chg.of_below (S := fun b => b = m ∨ b = r) hb3)
  obtain ⟨e1, e2, e3⟩ := hx3.rules
  obtain ⟨d1, d2, d3⟩ := blk_res hr3
  have HW3 := hide hW3
  clear hx3 hb3 hr3 hA3 hM3 hW3
  go_wp2_with (go_at_call 81; refine HL.out.mono ?_; rintro e w9 ⟨rfl, hb9⟩; have hr9 := HR3.out.below hb9; obtain ⟨d4, d5, d6⟩ := blk_res hr9; simp only [resV]; have HMF := hide (HM3.out.below hb9); have HCF := hide (HC3.out.then_below hb9); clear hb9 hr9)
  (try simp only [Exit.inBlock, Exit.then])
  refine bodyPost_ret (v := resV 11 (.slice none 0 0) 0) (by simp [results, resV, Tryz.results46, go_sem, *]) rfl ⟨rfl, ?_, ?_⟩
  · have hm' : m ≠ w.heap.size := Nat.ne_of_lt hmn
    have hr' : r ≠ w.heap.size := Nat.ne_of_lt hrn
    repeat (first | exact HMF.out | refine ModelAt.far ?_ hm' hr' _ | refine ModelAt.al ?_ _)
  · repeat (first | exact HCF.out | refine Chg.setCell ?_ (fun h => by simp only at h; omega) _ | refine Chg.alloc ?_ _)

set_option maxRecDepth 100000 in
set_option maxHeartbeats 1000000 in
theorem count_decr (hA : ActAt w a m c A cap now ends false old is) (hG : Globs w) (hp : (parse old.val).2 = 0) (ho : old.val.size ≤ 2000) (hk : c.kind = 13)
    {r : Nat} {l : Ents} {laid : Int} (hM : ModelAt w m r l laid)
    (k : ByteArray) (rest : List ByteArray) (hkk : c.keys = k :: rest) (hK : Strs w A c.keys) (hks : k.size ≤ 9223372036854775807) (hd0 : 0 ≤ c.delta) :
    Calls Tryz.prog 46 #[.pointer (some ⟨a, 0, none⟩)] w fun e w' => e = .returned (resV 7 (.slice none 0 0) (countV c old)) ∧
      ModelAt w' m r (putN l k { old with val := dec (countV c old).toNat, cas := u64 (laid + 1) }) (u64 (laid + 1)) ∧ Chg (fun b => b = m ∨ b = r) w w' := by
  have f12 : w.cell? ⟨a, 12, none⟩ = some (.string old.val) := hA.cell 12
  have fl := hA.lt
  have HP := hide (parse_any old.val _ (by omega) (hG.below (Below.al (Below.refl _ _) (.cells #[.int .i64 0, .slice none 0 0, .int .u64 0] 36))).err)
  have HR := hide (Blk.new w 36 #[.int .i64 0, .slice none 0 0, .int .u64 0])
  have hmn := hM.blk.lt
  have hrn := hM.map.lt
  obtain ⟨hn0, hn1⟩ := parse_lt old.val
  have hcv : countV c old = (parse old.val).1 - min (parse old.val).1 c.delta := by unfold countV; rw [if_neg (by omega)]
  have hv0 : 0 ≤ countV c old ∧ countV c old < 18446744073709551616 := by rw [hcv]; omega
  rw [hp] at HP
  obtain ⟨v, hv⟩ : ∃ v, countV c old = v := ⟨_, rfl⟩
  rw [hv] at hcv hv0 ⊢
  obtain ⟨hv0, hv1⟩ := hv0
  generalize (parse old.val).1 = n at *
  have HV := hide hcv
  have HA := hide hA
  have HK := hide hK
  have HKK := hide hkk
  have HM := hide hM
  have HG := hide hG
  have H12 := hide hk
  clear hA hG hp hkk hK hM hk hv hcv
  go_enter Tryz.func46, Tryz.ntmps46
  go_upto_region 4 with (go_at_call 82; refine HP.out.mono ?_; rintro e w1 ⟨rfl, hb1⟩; have HB1 := hide (Below.step (Below.al (Below.refl _ _) _) hb1); have HR1 := hide (HR.out.below hb1); clear hb1)
  have hA1 := HA.out.below HB1.out
  have f1 : w1.cell? ⟨a, 1, none⟩ = some (.int .i64 13) := by have := hA1.cell 1; rw [this]; simp [actCells, H12.out]
  have f0 : w1.cell? ⟨a, 0, none⟩ = some (.pointer (some ⟨m, 0, none⟩)) := hA1.cell 0
  have f7 : w1.cell? ⟨a, 7, none⟩ = some (.int .u64 c.delta) := hA1.cell 7
  have g12 : w1.cell? ⟨a, 12, none⟩ = some (.string old.val) := hA1.cell 12
  have g13 : w1.cell? ⟨a, 13, none⟩ = some (.int .u32 old.flags) := hA1.cell 13
  have g14 : w1.cell? ⟨a, 14, none⟩ = some (.int .i64 old.exp) := hA1.cell 14
  have g15 : w1.cell? ⟨a, 15, none⟩ = some (.int .u64 old.cas) := hA1.cell 15
  have gl := hA1.lt
  clear hA1
  go_upto_region 8 with fail
  rw [← HV.out]
  obtain ⟨W, hW⟩ : ∃ W, W = w1.alloc (.cells #[.string old.val, .int .u32 old.flags, .int .i64 old.exp, .int .u64 old.cas] 44) := ⟨_, rfl⟩
  have hbW : Below w1.heap.size w1 W := by rw [hW]; exact Below.al (Below.refl _ _) _
  have hX : Blk W w1.heap.size 44 #[.string old.val, .int .u32 old.flags, .int .i64 old.exp, .int .u64 old.cas] := by rw [hW]; exact Blk.new _ _ _
  rw [← hW]
  have hbw : Below w.heap.size w W := Below.step HB1.out hbW
  have HBW := hide hbw
  have HX := hide hX
  have HRW := hide (HR1.out.below hbW)
  have HT := hide (text_int v hv0 hv1 W (HG.out.below hbw).tab)
  have HW := hide hW
  clear hbW hX hbw hW f0 f1 f7 g12 g13 g14 g15 gl
  go_upto_region 9 with (go_at_call 70; refine HT.out.mono ?_; rintro e w2 ⟨rfl, hb2⟩; have hx2 := HX.out.below hb2; obtain ⟨e1, e2, e3⟩ := hx2.rules; have HB2 := hide (Below.step HBW.out hb2); have HR2 := hide (HRW.out.below hb2); have HX2 := hide hx2; clear hb2 hx2)
  obtain ⟨W3, hW3⟩ : ∃ W3, W3 = w2.setCell ⟨w1.heap.size, 0, none⟩ (.string (dec v.toNat)) := ⟨_, rfl⟩
  rw [← hW3]
  have hx3 : Blk W3 w1.heap.size 44 #[.string (dec v.toNat), .int .u32 old.flags, .int .i64 old.exp, .int .u64 old.cas] := by rw [hW3]; exact HX2.out.set_ 0 _
  have hs1 : w.heap.size < w1.heap.size := HR1.out.lt
  have hb3 : Below w.heap.size w W3 := by rw [hW3]; exact HB2.out.setCell (by simp; omega) _
  have hr3 : Blk W3 w.heap.size 36 #[.int .i64 0, .slice none 0 0, .int .u64 0] := by rw [hW3]; exact HR2.out.far (by simp; omega) _
  have hA3 := HA.out.below hb3
  have hM3 := HM.out.below hb3
  have hK3 := HK.out.below hb3
  have HL := hide (lay_do a m r l laid c A cap now ends old is ⟨dec v.toNat, old.flags, old.exp, old.cas⟩ 7 _ hA3 hM3 k rest HKK.out hK3 hks)
  have HM3 := hide hM3
  have HR3 := hide hr3
  have HC3 := hide (Chg.of_below (S := fun b => b = m ∨ b = r) hb3)
  obtain ⟨e1, e2, e3⟩ := hx3.rules
  obtain ⟨d1, d2, d3⟩ := blk_res hr3
  have HW3 := hide hW3
  clear hx3 hb3 hr3 hA3 hM3 hK3 hW3
  go_wp2_with (go_at_call 81; refine HL.out.mono ?_; rintro e w9 ⟨rfl, hm9, hc9⟩; have hr9 := HR3.out.chg hc9 (fun h => by omega); obtain ⟨d4, d5, d6⟩ := blk_res hr9; simp only [resV]; have HMF := hide hm9; have HCF := hide (HC3.out.trans hc9); clear hm9 hc9 hr9)
  (try simp only [Exit.inBlock, Exit.then])
  refine bodyPost_ret (v := resV 7 (.slice none 0 0) v) (by simp [results, resV, Tryz.results46, go_sem, *]) rfl ⟨rfl, ?_, ?_⟩
  · have hm' : m ≠ w.heap.size := Nat.ne_of_lt hmn
    have hr' : r ≠ w.heap.size := Nat.ne_of_lt hrn
    repeat (first | exact HMF.out | refine ModelAt.far ?_ hm' hr' _ | refine ModelAt.al ?_ _)
  · repeat (first | exact HCF.out | refine Chg.setCell ?_ (fun h => by simp only at h; omega) _ | refine Chg.alloc ?_ _)

set_option maxRecDepth 100000 in
set_option maxHeartbeats 1000000 in
theorem count_decrF (hA : ActAt w a m c A cap now ends true old is) (hG : Globs w) (hp : (parse old.val).2 = 0) (ho : old.val.size ≤ 2000) (hk : c.kind = 13)
    {r : Nat} {l : Ents} {laid : Int} (hM : ModelAt w m r l laid)
    (hd0 : 0 ≤ c.delta) :
    Calls Tryz.prog 46 #[.pointer (some ⟨a, 0, none⟩)] w fun e w' => e = .returned (resV 11 (.slice none 0 0) 0) ∧ ModelAt w' m r l laid ∧ Chg (fun b => b = m ∨ b = r) w w' := by
  have f12 : w.cell? ⟨a, 12, none⟩ = some (.string old.val) := hA.cell 12
  have fl := hA.lt
  have HP := hide (parse_any old.val _ (by omega) (hG.below (Below.al (Below.refl _ _) (.cells #[.int .i64 0, .slice none 0 0, .int .u64 0] 36))).err)
  have HR := hide (Blk.new w 36 #[.int .i64 0, .slice none 0 0, .int .u64 0])
  have hmn := hM.blk.lt
  have hrn := hM.map.lt
  obtain ⟨hn0, hn1⟩ := parse_lt old.val
  have hcv : countV c old = (parse old.val).1 - min (parse old.val).1 c.delta := by unfold countV; rw [if_neg (by omega)]
  have hv0 : 0 ≤ countV c old ∧ countV c old < 18446744073709551616 := by rw [hcv]; omega
  rw [hp] at HP
  obtain ⟨v, hv⟩ : ∃ v, countV c old = v := ⟨_, rfl⟩
  rw [hv] at hcv hv0 
  obtain ⟨hv0, hv1⟩ := hv0
  generalize (parse old.val).1 = n at *
  have HV := hide hcv
  have HA := hide hA
  have HM := hide hM
  have HG := hide hG
  have H12 := hide hk
  clear hA hG hp hM hk hv hcv
  go_enter Tryz.func46, Tryz.ntmps46
  go_upto_region 4 with (go_at_call 82; refine HP.out.mono ?_; rintro e w1 ⟨rfl, hb1⟩; have HB1 := hide (Below.step (Below.al (Below.refl _ _) _) hb1); have HR1 := hide (HR.out.below hb1); clear hb1)
  have hA1 := HA.out.below HB1.out
  have f1 : w1.cell? ⟨a, 1, none⟩ = some (.int .i64 13) := by have := hA1.cell 1; rw [this]; simp [actCells, H12.out]
  have f0 : w1.cell? ⟨a, 0, none⟩ = some (.pointer (some ⟨m, 0, none⟩)) := hA1.cell 0
  have f7 : w1.cell? ⟨a, 7, none⟩ = some (.int .u64 c.delta) := hA1.cell 7
  have g12 : w1.cell? ⟨a, 12, none⟩ = some (.string old.val) := hA1.cell 12
  have g13 : w1.cell? ⟨a, 13, none⟩ = some (.int .u32 old.flags) := hA1.cell 13
  have g14 : w1.cell? ⟨a, 14, none⟩ = some (.int .i64 old.exp) := hA1.cell 14
  have g15 : w1.cell? ⟨a, 15, none⟩ = some (.int .u64 old.cas) := hA1.cell 15
  have gl := hA1.lt
  clear hA1
  go_upto_region 8 with fail
  rw [← HV.out]
  obtain ⟨W, hW⟩ : ∃ W, W = w1.alloc (.cells #[.string old.val, .int .u32 old.flags, .int .i64 old.exp, .int .u64 old.cas] 44) := ⟨_, rfl⟩
  have hbW : Below w1.heap.size w1 W := by rw [hW]; exact Below.al (Below.refl _ _) _
  have hX : Blk W w1.heap.size 44 #[.string old.val, .int .u32 old.flags, .int .i64 old.exp, .int .u64 old.cas] := by rw [hW]; exact Blk.new _ _ _
  rw [← hW]
  have hbw : Below w.heap.size w W := Below.step HB1.out hbW
  have HBW := hide hbw
  have HX := hide hX
  have HRW := hide (HR1.out.below hbW)
  have HT := hide (text_int v hv0 hv1 W (HG.out.below hbw).tab)
  have HW := hide hW
  clear hbW hX hbw hW f0 f1 f7 g12 g13 g14 g15 gl
  go_upto_region 9 with (go_at_call 70; refine HT.out.mono ?_; rintro e w2 ⟨rfl, hb2⟩; have hx2 := HX.out.below hb2; obtain ⟨e1, e2, e3⟩ := hx2.rules; have HB2 := hide (Below.step HBW.out hb2); have HR2 := hide (HRW.out.below hb2); have HX2 := hide hx2; clear hb2 hx2)
  obtain ⟨W3, hW3⟩ : ∃ W3, W3 = w2.setCell ⟨w1.heap.size, 0, none⟩ (.string (dec v.toNat)) := ⟨_, rfl⟩
  rw [← hW3]
  have hx3 : Blk W3 w1.heap.size 44 #[.string (dec v.toNat), .int .u32 old.flags, .int .i64 old.exp, .int .u64 old.cas] := by rw [hW3]; exact HX2.out.set_ 0 _
  have hs1 : w.heap.size < w1.heap.size := HR1.out.lt
  have hb3 : Below w.heap.size w W3 := by rw [hW3]; exact HB2.out.setCell (by simp; omega) _
  have hr3 : Blk W3 w.heap.size 36 #[.int .i64 0, .slice none 0 0, .int .u64 0] := by rw [hW3]; exact HR2.out.far (by simp; omega) _
  have hA3 := HA.out.below hb3
  have hM3 := HM.out.below hb3
  have HL := hide (lay_fail a m c A cap now ends old is ⟨dec v.toNat, old.flags, old.exp, old.cas⟩ 7 _ hA3)
  have HM3 := hide hM3
  have HR3 := hide hr3
  have HC3 := hide (Chg.of_below (S := fun b => b = m ∨ b = r) hb3)
  obtain ⟨e1, e2, e3⟩ := hx3.rules
  obtain ⟨d1, d2, d3⟩ := blk_res hr3
  have HW3 := hide hW3
  clear hx3 hb3 hr3 hA3 hM3 hW3
  go_wp2_with (go_at_call 81; refine HL.out.mono ?_; rintro e w9 ⟨rfl, hb9⟩; have hr9 := HR3.out.below hb9; obtain ⟨d4, d5, d6⟩ := blk_res hr9; simp only [resV]; have HMF := hide (HM3.out.below hb9); have HCF := hide (HC3.out.then_below hb9); clear hb9 hr9)
  (try simp only [Exit.inBlock, Exit.then])
  refine bodyPost_ret (v := resV 11 (.slice none 0 0) 0) (by simp [results, resV, Tryz.results46, go_sem, *]) rfl ⟨rfl, ?_, ?_⟩
  · have hm' : m ≠ w.heap.size := Nat.ne_of_lt hmn
    have hr' : r ≠ w.heap.size := Nat.ne_of_lt hrn
    repeat (first | exact HMF.out | refine ModelAt.far ?_ hm' hr' _ | refine ModelAt.al ?_ _)
  · repeat (first | exact HCF.out | refine Chg.setCell ?_ (fun h => by simp only at h; omega) _ | refine Chg.alloc ?_ _)

/-- count: what is told, the number, the entries, the count. -/
def countM (l : Ents) (laid : Int) (c : Cmd) (failed : Bool) (old : Ent) (k : ByteArray) : Int × Int × Ents × Int :=
  if (parse old.val).2 ≠ 0 then (8, 0, l, laid) else
  if failed then (11, 0, l, laid) else
  (7, countV c old, putN l k { old with val := dec (countV c old).toNat, cas := u64 (laid + 1) }, u64 (laid + 1))

theorem count_any (hA : ActAt w a m c A cap now ends failed old is) (hG : Globs w) (ho : old.val.size ≤ 2000) (hk : c.kind = 12 ∨ c.kind = 13)
    {r : Nat} {l : Ents} {laid : Int} (hM : ModelAt w m r l laid)
    (k : ByteArray) (rest : List ByteArray) (hkk : c.keys = k :: rest) (hK : Strs w A c.keys) (hks : k.size ≤ 9223372036854775807) (hd0 : 0 ≤ c.delta) :
    Calls Tryz.prog 46 #[.pointer (some ⟨a, 0, none⟩)] w fun e w' => e = .returned (resV (countM l laid c failed old k).1 (.slice none 0 0) (countM l laid c failed old k).2.1) ∧
      ModelAt w' m r (countM l laid c failed old k).2.2.1 (countM l laid c failed old k).2.2.2 ∧ Chg (fun b => b = m ∨ b = r) w w' := by
  by_cases hp : (parse old.val).2 = 0
  · cases failed
    · have e1 : countM l laid c false old k = (7, countV c old, putN l k { old with val := dec (countV c old).toNat, cas := u64 (laid + 1) }, u64 (laid + 1)) := by
        unfold countM; rw [if_neg (by simpa using hp)]; rfl
      rw [e1]
      rcases hk with hk | hk
      · exact count_incr a m c A cap now ends old is w hA hG hp ho hk hM k rest hkk hK hks
      · exact count_decr a m c A cap now ends old is w hA hG hp ho hk hM k rest hkk hK hks hd0
    · have e1 : countM l laid c true old k = (11, 0, l, laid) := by unfold countM; rw [if_neg (by simpa using hp)]; rfl
      rw [e1]
      rcases hk with hk | hk
      · exact count_incrF a m c A cap now ends old is w hA hG hp ho hk hM
      · exact count_decrF a m c A cap now ends old is w hA hG hp ho hk hM hd0
  · have e1 : countM l laid c failed old k = (8, 0, l, laid) := by unfold countM; rw [if_pos hp]
    rw [e1]
    exact (count_no a m c A cap now ends failed old is w hA hG hp ho).mono fun e w' h => ⟨h.1, hM.below h.2, Chg.of_below h.2⟩
end
end Go.Proofs.YthcdocedpcjbeaaGreatDoor

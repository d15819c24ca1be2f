/-
  ModelReads: the walk.
-/
import Derived.Test.YthcdocedpcjbeaaDoorW17
import Derived.Test.YthcdocedpcjbeaaDoorAct
import Derived.Test.YthcdocedpcjbeaaDoorPm
import Derived.Test.YthcdocedpcjbeaaDoorKeys
import Derived.Test.YthcdocedpcjbeaaDoorGreat
namespace Go.Proofs.YthcdocedpcjbeaaDoor
open Go.RowKit

theorem putN_one (k : ByteArray) (e : Ent) : findE k (putN [] k e) = some e := by simp [putN_nil, findE]
theorem set_bad {k v : ByteArray} {flags exp now : Int} (hk : Pl.isKey k = false) (l : Ents) (laid : Int) : errOf (setF k v flags exp) now = 6 ∧ doM (setF k v flags exp) now false l laid = ⟨0, [], 0, l, laid⟩ := by
  have hc : Pl.check (setF k v flags exp) = 6 := by
    unfold Pl.check
    rw [if_pos (show Pl.isKind (setF k v flags exp).kind = true from rfl), if_neg (by simp [setF, hk])]
  have h1 : errOf (setF k v flags exp) now = 6 := by unfold errOf; rw [hc]; rfl
  refine ⟨h1, ?_⟩
  unfold doM
  rw [if_neg (by rw [h1]; decide)]
theorem setF_small {k v : ByteArray} {flags exp : Int} (hk : k.size ≤ 100) (hv : v.size ≤ 2000) (he : -9223372036854775808 ≤ exp ∧ exp ≤ 9223372036854775807) : small (setF k v flags exp) :=
  ⟨by simp [setF], by simp [setF]; omega, fun s hs => by simp [setF] at hs; subst hs; omega, by simp [setF], by simpa [setF] using he⟩

set_option maxRecDepth 100000 in
set_option maxHeartbeats 4000000 in
theorem reads_law (key v : ByteArray) (x y : Int) (A : Option Addr) (cap : Nat) (l : List ActG) (w : World) (hG : Globs w) (h8 : 8 ≤ w.heap.size) (hA : ActsG w A l) :
    Calls Tryd.prog 6 #[.string key, .string v, .int .i64 x, .int .i64 y, .slice A l.length cap] w fun e w' => e = .returned (.bool true) ∧ Below w.heap.size w w' := by
  have HG := hide hG
  have HA := hide hA
  clear hG hA
  obtain ⟨E, hE, hE0, hE1⟩ := rem_in x (n := 100) (by decide) (by decide)
  obtain ⟨Y, hY, hY0, hY1⟩ := rem_in y (n := 200) (by decide) (by decide)
  by_cases hv : v.size ≤ 2000
  · by_cases hk : key.size ≤ 100
    · go_enter Tryd.func6, Tryd.ntmps6
      go_upto_region 8 with (first
        | (go_at_call 7; refine (works_any _ HG.out h8).mono ?_; rintro e w1 ⟨rfl, hb1⟩; have HB1 := hide hb1; clear hb1)
        | (go_at_call 8; refine (new_any _).mono ?_; rintro e w2 ⟨rfl, hm2, hb2⟩; have HM2 := hide (⟨Below.step HB1.out hb2, hm2, Nat.le_succ_of_le HB1.out.size, HB1.out.size⟩ : Mdl w w2 (w1.heap.size + 1) w1.heap.size [] 0); clear hm2 hb2)
        | (go_at_call 9; refine (set_any _ _ _).mono ?_; rintro e w3 ⟨rfl, hs3, hb3⟩; have HK3 := hide hs3; have HB3 := hide hb3; clear hs3 hb3; simp only [cmdV, setC]))
      obtain ⟨bk, hbk⟩ : ∃ bk, Pl.isKey key = bk := ⟨_, rfl⟩
      cases bk
      · obtain ⟨hs1, hs2⟩ := set_bad (v := v) (flags := 0) (exp := E) (now := 1000) hbk [] 0
        have HS1 := hide hs1
        have HS2 := hide hs2
        clear hs1 hs2
        go_wp2_with (go_at_call 10; refine (do_on (HM2.out.step (by repeat (first | exact HB3.out | refine Below.al ?_ _ | refine Below.setCell ?_ (by simp; omega) _))) HG.out h8 okE_nil (setF key v 0 E) _ _ 1000 false (Strs.below HK3.out (Below.al (Below.refl _ _) _)) (setF_small hk hv (by omega)) HS2.out HS1.out).mono ?_; rintro e w4 ⟨A4, c4, rfl, ho4, hm4, hc4⟩; have HM4 := hide hm4; clear ho4 hm4 hc4; simp only [resV])
        go_ret
        exact ⟨rfl, by repeat (first | exact HM4.out.below | refine Below.al ?_ _)⟩
      · obtain ⟨e0, he0⟩ : ∃ e0, Pl.ends 1000 E = e0 := ⟨_, rfl⟩
        have he1 : (E = 0 ∧ e0 = 0) ∨ (0 < E ∧ e0 = 1000 + E) := by rw [← he0]; unfold Pl.ends; split <;> (try split) <;> omega
        obtain ⟨hs1, hs2⟩ := set_do (v := v) (flags := 0) (exp := E) (now := 1000) hbk hv (by decide) [] 0
        rw [putN_nil, show u64 (0 + 1) = 1 by decide, he0] at hs2
        have HS1 := hide hs1
        have HS2 := hide hs2
        have HE1 := hide he1
        have HBK := hide hbk
        clear hs1 hs2 he0 he1 hbk
        go_upto_region 12 with (go_at_call 10; refine (do_on (HM2.out.step (by repeat (first | exact HB3.out | refine Below.al ?_ _ | refine Below.setCell ?_ (by simp; omega) _))) HG.out h8 okE_nil (setF key v 0 E) _ _ 1000 false (Strs.below HK3.out (Below.al (Below.refl _ _) _)) (setF_small hk hv (by omega)) HS2.out HS1.out).mono ?_; rintro e w4 ⟨A4, c4, rfl, ho4, hm4, hc4⟩; have HM4 : Hid (Mdl w w4 (w1.heap.size + 1) w1.heap.size [(key, ⟨v, 0, e0, 1⟩)] 1) := hide hm4; clear ho4 hm4 hc4; simp only [resV])
        obtain ⟨W5, hW5⟩ : ∃ W5, W5 = w4.alloc (.cells #[.int .i64 2, .slice A4 0 c4, .int .u64 0] 34) := ⟨_, rfl⟩
        have HM5 : Hid (Mdl w W5 (w1.heap.size + 1) w1.heap.size [(key, ⟨v, 0, e0, 1⟩)] 1) := by rw [hW5]; exact hide (HM4.out.step (Below.al (Below.refl _ _) _))
        have HV5 : Hid (Vars W5 34 [(w4.heap.size, #[.int .i64 2, .slice A4 0 c4, .int .u64 0])]) := by rw [hW5]; exact hide ((Vars.nil w4 34).new _)
        have hOK5 : OkE [(key, ⟨v, 0, e0, 1⟩)] := okE_one ⟨by have := HE1.out; simp only; omega, by have := HE1.out; simp only; omega⟩ hv
        have HOK5 := hide hOK5
        rw [← hW5]
        clear hW5 HM4 hOK5
        generalize w4.heap.size = g13 at *
        simp only [hE]
        go_upto_region 13 with fail
        go_loopg [15] l.length (fun n i wr => ∃ (j : Nat) (L : Ents) (laid : Int), n + j = l.length ∧ i = .int .i64 j ∧ Mdl w wr (w1.heap.size + 1) w1.heap.size L laid ∧ OkE L ∧ findE key L = some ⟨v, 0, e0, 1⟩ ∧
          Vars wr 34 [(g13, #[.int .i64 2, .slice A4 0 c4, .int .u64 0])] ∧ L.length ≤ j + 1)
        case atStart => exact ⟨0, _, _, rfl, rfl, HM5.out, HOK5.out, by simp [findE], HV5.out, Nat.le_refl _⟩
        case round =>
          obtain ⟨j, L, laid, hj, rfl, hM, hok, hfe, hV, hLL⟩ := hrel
          have HM := hide hM
          have HOK := hide hok
          have HFE := hide hfe
          have HV := hide hV
          have HLL := hide hLL
          clear hM hok hfe hV hLL
          by_cases hlt : j < l.length
          · by_cases h30 : j < 30
            · obtain ⟨a, ha⟩ : ∃ a, l[j]? = some a := ⟨_, List.getElem?_eq_getElem hlt⟩
              obtain ⟨ad, hAd, hact⟩ := (HA.out.below HM.out.below) j a ha
              subst hAd
              obtain ⟨X, hX⟩ : ∃ X, ad.add (j * 11) = X := ⟨_, rfl⟩
              rw [hX] at hact
              obtain ⟨A1, cap1, hcs, hstr, hsm, hXl⟩ := hact.out
              obtain ⟨q0, q1, q2, q3, q4, q5, q6, q7, q9⟩ := hcs
              have HSTR := hide hstr
              have HSM := hide hsm
              have HACT := hide hact
              have HLA := hide ha
              clear hact hstr hsm ha
              go_upto_region 16 with fail
              obtain ⟨W, hW⟩ : ∃ W, W = wr.alloc (.cells (cmdCells a.c A1 cap1) 30) := ⟨_, rfl⟩
              have hWc := hW
              unfold cmdCells at hWc
              rw [← hWc]
              clear hWc
              have hblk : Blk W wr.heap.size 30 (cmdCells a.c A1 cap1) := by rw [hW]; exact Blk.new _ _ _
              have hbW : Below wr.heap.size wr W := by rw [hW]; exact Below.al (Below.refl _ _) _
              have HMV := hide (HM.out.step hbW)
              have HVV := hide (HV.out.below hbW)
              have HSV := hide (HSTR.out.below hbW)
              have hr8 := hblk.cell
              simp only [cmdCells] at hr8
              have hl8 := hblk.lt
              have HBV := hide hblk
              clear hW q0 q1 q2 q3 q4 q5 q6 q7 q9 hXl HM HV HSTR HACT hbW hblk
              obtain rfl : gk = l.length - j := by omega
              generalize wr.heap.size = g8 at *
              clear wr
              obtain ⟨gr, hgr⟩ : ∃ gr, greatP a.c = gr := ⟨_, rfl⟩
              have HGR := hide hgr
              have HKL := hide (HSM.out.1)
              clear hgr
              cases gr
              · have hk100 := greatP_len HGR.out
                go_upto_region 18 with (go_at_call 12; refine (great_any a.c A1 cap1 _ HSV.out HKL.out).mono ?_; rintro e w6 ⟨rfl, hb6⟩; rw [HGR.out]; have HMW := hide (HMV.out.step hb6); have HVW := hide (HVV.out.below hb6); have HSW := hide (HSV.out.below hb6); have HBL := hide (HBV.out.below hb6); clear hb6)
                have hr9 := HBL.out.cell
                simp only [cmdCells] at hr9
                have hl9 := HBL.out.lt
                clear hr8 hl8 HMV HVV HSV HBV
                clear W
                by_cases hk12 : a.c.kind = 1 ∨ a.c.kind = 2
                · have HRS := hide (do_reads_same (l := L) a.c 1000 false laid hk12)
                  obtain ⟨G, hG1⟩ : ∃ G, getN L key 1000 = G := ⟨_, rfl⟩
                  have HG1 := hide hG1
                  obtain ⟨xe, hxe⟩ : ∃ xe, G.getD zeroE = xe := ⟨_, rfl⟩
                  obtain ⟨bi, hbi⟩ : ∃ bi, G.isSome = bi := ⟨_, rfl⟩
                  have HXE := hide hxe
                  have HBI := hide hbi
                  have HFD := hide (HOK.out.1.found key)
                  have hkm : L.length ≤ 1000000 := by have := HLL.out; omega
                  have hk3 : (a.c.kind == 1) = true ∨ ((a.c.kind == 1) = false ∧ (a.c.kind == 2) = true) := by rcases hk12 with h | h <;> rw [h] <;> decide
                  clear hG1 hxe hbi hk12
                  rcases hk3 with k1 | ⟨k1, k2⟩
                  all_goals
                    go_upto_region 20 with (go_at_call 11; refine (get_walk _ _ _ _ key _ _ HMW.out.mod (by omega) HFD.out.1 HFD.out.2).mono ?_; rw [HG1.out, HXE.out, HBI.out]; rintro e w7 ⟨rfl, hb⟩; have HB7 := hide hb; clear hb; simp only [encE])
                    obtain ⟨W8, hW8⟩ : ∃ W8, W8 = w7.alloc (.cells #[.string xe.val, .int .u32 xe.flags, .int .i64 xe.exp, .int .u64 xe.cas] 39) := ⟨_, rfl⟩
                    have hb68 : Below w6.heap.size w6 W8 := by rw [hW8]; exact Below.al HB7.out _
                    have HM8 := hide (HMW.out.step hb68)
                    have HE8 : Hid (Vars W8 39 [(w7.heap.size, #[.string xe.val, .int .u32 xe.flags, .int .i64 xe.exp, .int .u64 xe.cas])]) := by rw [hW8]; exact hide ((Vars.nil w7 39).new _)
                    have HV8 := hide (HVW.out.below hb68)
                    have HS8 := hide (HSW.out.below hb68)
                    have HB8 := hide (HBL.out.below hb68)
                    rw [← hW8]
                    clear hW8 hb68 hr9 hl9
                    generalize w7.heap.size = g17 at *
                    go_upto_region 21 with (go_at_call 13; refine (mkeys_any _ _ L laid 1000 _ HM8.out.mod HOK.out.1 hkm).mono ?_; rintro e w9 ⟨AK, cK, rfl, _, hb⟩; have HM9 := hide (HM8.out.step hb); have HE9 := hide (HE8.out.below hb); have HV9 := hide (HV8.out.below hb); have HS9 := hide (HS8.out.below hb); have HB9 := hide (HB8.out.below hb); clear hb)
                    have hr9 := HB9.out.cell
                    simp only [cmdCells] at hr9
                    have hl9 := HB9.out.lt
                    have HNE := hide (fun e => e.elim (fun e => HB9.out.ne_ HM9.out.mod.blk (by decide) e) (fun e => HB9.out.ne_map HM9.out.mod.map e) : ¬ (g8 = w1.heap.size + 1 ∨ g8 = w1.heap.size))
                    go_upto_region 22 with (go_at_call 10; refine (do_on HM9.out HG.out h8 HOK.out a.c _ _ 1000 false HS9.out HSM.out rfl rfl).mono ?_; rintro e w10 ⟨A6, c6, rfl, ho6, hm6, hc6⟩; rw [HRS.out.1, HRS.out.2] at hm6; have HM10 := hide hm6; have HE10 := hide (Vars.chg HE9.out HM9.out.mod (by decide) hc6); have HV10 := hide (Vars.chg HV9.out HM9.out.mod (by decide) hc6); clear ho6 hm6 hc6; simp only [resV])
                    clear hr9 hl9
                    go_upto_region 23 with (go_at_call 11; refine (get_walk _ _ _ _ key _ _ HM10.out.mod (by omega) HFD.out.1 HFD.out.2).mono ?_; rw [HG1.out, HXE.out, HBI.out]; rintro e w11 ⟨rfl, hb⟩; have HB11 := hide hb; clear hb; simp only [encE])
                    obtain ⟨W12, hW12⟩ : ∃ W12, W12 = w11.alloc (.cells #[.string xe.val, .int .u32 xe.flags, .int .i64 xe.exp, .int .u64 xe.cas] 39) := ⟨_, rfl⟩
                    have hb12 : Below w10.heap.size w10 W12 := by rw [hW12]; exact Below.al HB11.out _
                    have HM12 := hide (HM10.out.step hb12)
                    have HE12 : Hid (Vars W12 39 [(w11.heap.size, #[.string xe.val, .int .u32 xe.flags, .int .i64 xe.exp, .int .u64 xe.cas])]) := by rw [hW12]; exact hide ((Vars.nil w11 39).new _)
                    have HF12 := hide (HE10.out.below hb12)
                    have HV12 := hide (HV10.out.below hb12)
                    rw [← hW12]
                    clear hW12 hb12
                    generalize w11.heap.size = g20 at *
                    have c17 := (HF12.out _ (List.Mem.head _)).cell
                    simp only at c17
                    have c20 := (HE12.out _ (List.Mem.head _)).cell
                    simp only at c20
                    go_wp2_with (go_at_call 13; refine (mkeys_any _ _ L laid 1000 _ HM12.out.mod HOK.out.1 hkm).mono ?_; rintro e w13 ⟨AK2, cK2, rfl, _, hb⟩; have HM13 := hide (HM12.out.step hb); have HV13 := hide (HV12.out.below hb); clear hb)
                    go_roundg (l.length - (j + 1))
                    case measure => omega
                    case rel => exact ⟨j + 1, L, laid, by omega, by go_num, HM13.out, HOK.out, HFE.out, HV13.out, Nat.le_succ_of_le HLL.out⟩
                · have k1 : (a.c.kind == 1) = false := by simp; omega
                  have k2 : (a.c.kind == 2) = false := by simp; omega
                  by_cases h15 : a.c.kind = 15
                  · have k15 : (a.c.kind == 15) = true := by simpa using h15
                    go_wp2
                    go_roundg (l.length - (j + 1))
                    case measure => omega
                    case rel => exact ⟨j + 1, L, laid, by omega, by go_num, HMW.out, HOK.out, HFE.out, HVW.out, Nat.le_succ_of_le HLL.out⟩
                  · have k15 : (a.c.kind == 15) = false := by simpa using h15
                    by_cases hl1 : a.c.keys.length = 1
                    · obtain ⟨kk, hkk⟩ : ∃ kk, a.c.keys = [kk] := List.length_eq_one_iff.1 hl1
                      have hKt := HSW.out
                      rw [hkk] at hKt
                      obtain ⟨ad1, hAd1, hcell1⟩ := hKt.tail
                      subst hAd1
                      have HKK := hide hkk
                      clear hKt hkk
                      by_cases hke : kk = key
                      · have hbe : (kk.toList == key.toList) = true := by rw [toList_beq, decide_eq_true hke]
                        clear hke
                        go_wp2
                        go_roundg (l.length - (j + 1))
                        case measure => omega
                        case rel => exact ⟨j + 1, L, laid, by omega, by go_num, HMW.out, HOK.out, HFE.out, HVW.out, Nat.le_succ_of_le HLL.out⟩
                      · have hbe : (kk.toList == key.toList) = false := by rw [toList_beq, decide_eq_false hke]
                        have HNI : Hid (key ∉ a.c.keys) := hide (by rw [HKK.out]; simp; exact fun h => hke h.symm)
                        clear hke
                        go_upto_region 26 with fail
                        clear hl1
                        have hkeep : ∀ W' : World, Blk W' g8 30 (cmdCells a.c (some ad1) cap1) → Below w.heap.size w W' → W'.cell? ⟨g8, 0, none⟩ = some (.int .i64 a.c.kind) ∧ W'.cell? ⟨g8, 1, none⟩ = some (.slice (some ad1) a.c.keys.length cap1) ∧ W'.cell? ⟨g8, 2, none⟩ = some (.int .u32 a.c.flags) ∧
                            W'.cell? ⟨g8, 3, none⟩ = some (.int .i64 a.c.exp) ∧ W'.cell? ⟨g8, 4, none⟩ = some (.string a.c.val) ∧ W'.cell? ⟨g8, 5, none⟩ = some (.int .u64 a.c.cas) ∧ W'.cell? ⟨g8, 6, none⟩ = some (.int .u64 a.c.delta) ∧ W'.cell? ⟨g8, 7, none⟩ = some (.bool a.c.quiet) ∧
                            W'.cell? ⟨X.block, X.off + 9, none⟩ = some (.bool a.failed) := fun W' hb hw => by
                          obtain ⟨ad', hAd', hact'⟩ := (HA.out.below hw) j a HLA.out
                          obtain rfl : ad = ad' := by injection hAd'
                          rw [hX] at hact'
                          obtain ⟨_, _, hcs', _⟩ := hact'.out
                          exact ⟨hb.cell 0, hb.cell 1, hb.cell 2, hb.cell 3, hb.cell 4, hb.cell 5, hb.cell 6, hb.cell 7, hcs'.c9⟩
                        have hS0 := hkeep w6.drew HBL.out.drew HMW.out.below.drew
                        have HKE := hide hkeep
                        have hne1 : ¬ (g8 = w1.heap.size + 1 ∨ g8 = w1.heap.size) := fun e => e.elim (fun e => HBL.out.ne_ HMW.out.mod.blk (by decide) e) (fun e => HBL.out.ne_map HMW.out.mod.map e)
                        have HNE := hide hne1
                        clear hkeep hr9 hne1
                        go_region_held3 (fun W' => W'.cell? ⟨g8, 0, none⟩ = some (.int .i64 a.c.kind) ∧ W'.cell? ⟨g8, 1, none⟩ = some (.slice (some ad1) a.c.keys.length cap1) ∧ W'.cell? ⟨g8, 2, none⟩ = some (.int .u32 a.c.flags) ∧
                            W'.cell? ⟨g8, 3, none⟩ = some (.int .i64 a.c.exp) ∧ W'.cell? ⟨g8, 4, none⟩ = some (.string a.c.val) ∧ W'.cell? ⟨g8, 5, none⟩ = some (.int .u64 a.c.cas) ∧ W'.cell? ⟨g8, 6, none⟩ = some (.int .u64 a.c.delta) ∧ W'.cell? ⟨g8, 7, none⟩ = some (.bool a.c.quiet) ∧
                            W'.cell? ⟨X.block, X.off + 9, none⟩ = some (.bool a.failed))
                          ((first | assumption | (clear hS0; assumption)))
                          (first
                            | (go_at_call 10; refine (do_on (HMW.out.step (Below.drew (Below.refl _ _))) HG.out h8 HOK.out a.c _ _ 1000 a.failed (HSW.out.below (Below.drew (Below.refl _ _))) HSM.out rfl rfl).mono ?_; rintro e w6 ⟨A6, c6, rfl, ho6, hm6, hc6⟩; have hS6 := HKE.out w6 (HBL.out.drew.chg hc6 HNE.out) hm6.below; have HM6 := hide hm6; have HC6 := hide hc6; clear ho6 hm6 hc6; simp only [resV]))
                        go_wp2
                        go_roundg (l.length - (j + 1))
                        case measure => omega
                        case rel =>
                          exact ⟨j + 1, _, _, by omega, by go_num, HM6.out, okE_do HOK.out a.c 1000 a.failed laid HSM.out.2.2.2.1, (do_other a.c 1000 a.failed laid HBK.out h15 HNI.out).trans HFE.out,
                            Vars.chg (HVW.out.below (Below.drew (Below.refl _ _))) (HMW.out.step (Below.drew (Below.refl _ _))).mod (by decide) HC6.out, Nat.le_trans (do_len _ _ _ _ _) (Nat.succ_le_succ HLL.out)⟩
                    · have hl2 : ¬ ((a.c.keys.length : Int) = 1) := by omega
                      go_wp2
                      go_roundg (l.length - (j + 1))
                      case measure => omega
                      case rel => exact ⟨j + 1, L, laid, by omega, by go_num, HMW.out, HOK.out, HFE.out, HVW.out, Nat.le_succ_of_le HLL.out⟩
              · go_wp2_with (go_at_call 12; refine (great_any a.c A1 cap1 _ HSV.out HKL.out).mono ?_; rintro e w6 ⟨rfl, hb6⟩; rw [HGR.out]; have HMW := hide (HMV.out.step hb6); clear hb6)
                go_ret
                exact ⟨rfl, HMW.out.below⟩
            · have hY2 : wrap64 (1000 + Y) = 1000 + Y := w64 (by omega)
              have hE2 : wrap64 (1000 + E) = 1000 + E := w64 (by omega)
              have hv13 := HV.out _ (List.Mem.head _)
              have c13 := hv13.cell
              simp only at c13
              have l13 := hv13.lt
              simp only at l13
              have hfd := HOK.out.1.found key
              have hE1b := HE1.out
              clear hv13
              by_cases hE3 : 0 < E
              · have hee : e0 = 1000 + E := by omega
                by_cases hEY : E ≤ Y
                · have hgt : getN L key (1000 + Y) = none := by
                    rw [getN_findE, HFE.out]
                    have : Pl.gone e0 (1000 + Y) = true := by unfold Pl.gone; simp; omega
                    simp [this]
                  clear hee hE1b
                  have HGT := hide hgt
                  clear hgt
                  go_wp2_with (go_at_call 11; refine (get_walk _ _ _ _ key _ _ HM.out.mod (by omega) hfd.1 hfd.2).mono ?_; rw [HGT.out]; rintro e w7 ⟨rfl, hb7⟩; have c7 := fun i => ((bcell hb7).1 _ i l13).trans (c13 i); have l7 := Nat.lt_of_lt_of_le l13 hb7.size; have HB7 := hide hb7; clear hb7; simp only [Option.getD_none, Option.isSome_none, encE, zeroE])
                  go_ret
                  exact ⟨by first | rfl | exact ret_bool (by simp; omega), by repeat (first | exact Below.step HM.out.below HB7.out | refine Below.al ?_ _)⟩
                · have hgt : getN L key (1000 + Y) = some ⟨v, 0, e0, 1⟩ := by
                    rw [getN_findE, HFE.out]
                    have : Pl.gone e0 (1000 + Y) = false := by unfold Pl.gone; simp; omega
                    simp [this, trim_key HBK.out]
                  clear hee hE1b
                  have HGT := hide hgt
                  clear hgt
                  go_wp2_with (go_at_call 11; refine (get_walk _ _ _ _ key _ _ HM.out.mod (by omega) hfd.1 hfd.2).mono ?_; rw [HGT.out]; rintro e w7 ⟨rfl, hb7⟩; have c7 := fun i => ((bcell hb7).1 _ i l13).trans (c13 i); have l7 := Nat.lt_of_lt_of_le l13 hb7.size; have HB7 := hide hb7; clear hb7; simp only [Option.getD_some, Option.isSome_some, encE])
                  go_ret
                  exact ⟨by first | rfl | exact ret_bool (by simp; omega), by repeat (first | exact Below.step HM.out.below HB7.out | refine Below.al ?_ _)⟩
              · have hgt : getN L key (1000 + Y) = some ⟨v, 0, e0, 1⟩ := by
                  rw [getN_findE, HFE.out]
                  have : Pl.gone e0 (1000 + Y) = false := by unfold Pl.gone; simp; omega
                  simp [this, trim_key HBK.out]
                clear hE1b
                have HGT := hide hgt
                clear hgt
                go_wp2_with (go_at_call 11; refine (get_walk _ _ _ _ key _ _ HM.out.mod (by omega) hfd.1 hfd.2).mono ?_; rw [HGT.out]; rintro e w7 ⟨rfl, hb7⟩; have c7 := fun i => ((bcell hb7).1 _ i l13).trans (c13 i); have l7 := Nat.lt_of_lt_of_le l13 hb7.size; have HB7 := hide hb7; clear hb7; simp only [Option.getD_some, Option.isSome_some, encE])
                go_ret
                exact ⟨by first | rfl | exact ret_bool (by simp; omega), by repeat (first | exact Below.step HM.out.below HB7.out | refine Below.al ?_ _)⟩
          · have hY2 : wrap64 (1000 + Y) = 1000 + Y := w64 (by omega)
            have hE2 : wrap64 (1000 + E) = 1000 + E := w64 (by omega)
            have hv13 := HV.out _ (List.Mem.head _)
            have c13 := hv13.cell
            simp only at c13
            have l13 := hv13.lt
            simp only at l13
            have hfd := HOK.out.1.found key
            have hE1b := HE1.out
            clear hv13
            by_cases hE3 : 0 < E
            · have hee : e0 = 1000 + E := by omega
              by_cases hEY : E ≤ Y
              · have hgt : getN L key (1000 + Y) = none := by
                  rw [getN_findE, HFE.out]
                  have : Pl.gone e0 (1000 + Y) = true := by unfold Pl.gone; simp; omega
                  simp [this]
                clear hee hE1b
                have HGT := hide hgt
                clear hgt
                go_wp2_with (go_at_call 11; refine (get_walk _ _ _ _ key _ _ HM.out.mod (by omega) hfd.1 hfd.2).mono ?_; rw [HGT.out]; rintro e w7 ⟨rfl, hb7⟩; have c7 := fun i => ((bcell hb7).1 _ i l13).trans (c13 i); have l7 := Nat.lt_of_lt_of_le l13 hb7.size; have HB7 := hide hb7; clear hb7; simp only [Option.getD_none, Option.isSome_none, encE, zeroE])
                go_ret
                exact ⟨by first | rfl | exact ret_bool (by simp; omega), by repeat (first | exact Below.step HM.out.below HB7.out | refine Below.al ?_ _)⟩
              · have hgt : getN L key (1000 + Y) = some ⟨v, 0, e0, 1⟩ := by
                  rw [getN_findE, HFE.out]
                  have : Pl.gone e0 (1000 + Y) = false := by unfold Pl.gone; simp; omega
                  simp [this, trim_key HBK.out]
                clear hee hE1b
                have HGT := hide hgt
                clear hgt
                go_wp2_with (go_at_call 11; refine (get_walk _ _ _ _ key _ _ HM.out.mod (by omega) hfd.1 hfd.2).mono ?_; rw [HGT.out]; rintro e w7 ⟨rfl, hb7⟩; have c7 := fun i => ((bcell hb7).1 _ i l13).trans (c13 i); have l7 := Nat.lt_of_lt_of_le l13 hb7.size; have HB7 := hide hb7; clear hb7; simp only [Option.getD_some, Option.isSome_some, encE])
                go_ret
                exact ⟨by first | rfl | exact ret_bool (by simp; omega), by repeat (first | exact Below.step HM.out.below HB7.out | refine Below.al ?_ _)⟩
            · have hgt : getN L key (1000 + Y) = some ⟨v, 0, e0, 1⟩ := by
                rw [getN_findE, HFE.out]
                have : Pl.gone e0 (1000 + Y) = false := by unfold Pl.gone; simp; omega
                simp [this, trim_key HBK.out]
              clear hE1b
              have HGT := hide hgt
              clear hgt
              go_wp2_with (go_at_call 11; refine (get_walk _ _ _ _ key _ _ HM.out.mod (by omega) hfd.1 hfd.2).mono ?_; rw [HGT.out]; rintro e w7 ⟨rfl, hb7⟩; have c7 := fun i => ((bcell hb7).1 _ i l13).trans (c13 i); have l7 := Nat.lt_of_lt_of_le l13 hb7.size; have HB7 := hide hb7; clear hb7; simp only [Option.getD_some, Option.isSome_some, encE])
              go_ret
              exact ⟨by first | rfl | exact ret_bool (by simp; omega), by repeat (first | exact Below.step HM.out.below HB7.out | refine Below.al ?_ _)⟩
    · go_enter Tryd.func6, Tryd.ntmps6
      go_wp2_with (first
        | (go_at_call 7; refine (works_any _ HG.out h8).mono ?_; rintro e w1 ⟨rfl, hb1⟩; have HB1 := hide hb1; clear hb1)
        | (go_at_call 8; refine (new_any _).mono ?_; rintro e w2 ⟨rfl, hm2, hb2⟩; have HM2 := hide (Below.step HB1.out hb2); clear hm2 hb2))
      go_ret
      exact ⟨rfl, HM2.out⟩
  · go_enter Tryd.func6, Tryd.ntmps6
    go_wp2_with (first
      | (go_at_call 7; refine (works_any _ HG.out h8).mono ?_; rintro e w1 ⟨rfl, hb1⟩; have HB1 := hide hb1; clear hb1)
      | (go_at_call 8; refine (new_any _).mono ?_; rintro e w2 ⟨rfl, hm2, hb2⟩; have HM2 := hide (Below.step HB1.out hb2); clear hm2 hb2))
    go_ret
    exact ⟨rfl, HM2.out⟩
end Go.Proofs.YthcdocedpcjbeaaDoor

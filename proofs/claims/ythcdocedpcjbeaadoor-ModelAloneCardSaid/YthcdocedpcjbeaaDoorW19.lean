/-
  ModelAlone: the walk.
-/
import Derived.Test.YthcdocedpcjbeaaDoorW17
import Derived.Test.YthcdocedpcjbeaaDoorAct
namespace Go.Proofs.YthcdocedpcjbeaaDoor
open Go.RowKit

def bAl : ByteArray := ⟨#[97, 108, 111, 110, 101, 126]⟩
def bV : ByteArray := ⟨#[118]⟩
theorem trimAl : trim (nm bAl) = bAl := by kernel_rfl
theorem keyAl : Pl.isKey bAl = true := by decide
theorem findE_self (k : ByteArray) (e : Ent) : findE k [(k, e)] = some e := by simp [findE]
theorem mine_step {ks : List ByteArray} {k : Nat} {s : ByteArray} (h : Hid (True → ∀ s ∈ ks.take k, s ≠ bAl)) (hs : ks[k]? = some s) (q : Bool) : Hid ((s.toList == [97, 108, 111, 110, 101, 126] || q) = false → ∀ s ∈ ks.take (k + 1), s ≠ bAl) := by
  refine hide fun hq t ht => ?_
  rw [List.take_add_one, hs, List.mem_append] at ht
  rcases ht with ht | ht
  · exact h.out trivial t ht
  · simp at ht
    subst ht
    rintro rfl
    rw [show bAl.toList = [97, 108, 111, 110, 101, 126] by rw [ByteArray.toList_eq]; rfl] at hq
    simp at hq
def eAl : Ent := ⟨bV, 0, 0, 1⟩
def eAlC : Array Value := #[.string bV, .int .u32 0, .int .i64 0, .int .u64 1]

set_option maxRecDepth 100000 in
set_option maxHeartbeats 4000000 in
theorem alone_any (A : Option Addr) (cap : Nat) (l : List ActG) (w : World) (hG : Globs w) (h8 : 8 ≤ w.heap.size) (hA : ActsG w A l) :
    Calls Tryd.prog 5 #[.slice A l.length cap] w fun e w' => e = .returned (.bool true) ∧ Below w.heap.size w w' := by
  have HG := hide hG
  have HA := hide hA
  clear hG hA
  go_enter Tryd.func5, Tryd.ntmps5
  go_upto_region 4 with (first
    | (go_at_call 7; refine (works_any _ HG.out h8).mono ?_; rintro e w1 ⟨rfl, hb1⟩; have HB1 := hide hb1; clear hb1)
    | (go_at_call 8; refine (new_any _).mono ?_; rintro e w2 ⟨rfl, hm2, hb2⟩; have HM2 := hide (⟨Below.step HB1.out hb2, hm2, Nat.le_succ_of_le HB1.out.size, HB1.out.size⟩ : Mdl w w2 (w1.heap.size + 1) w1.heap.size [] 0); clear hm2 hb2))
  obtain ⟨hs1, hs2⟩ := set_do (k := bAl) (v := bV) (flags := 0) (exp := 0) (now := 1000) keyAl (by decide) (by decide) [] 0
  rw [putN_nil, show u64 (0 + 1) = 1 by decide, show Pl.ends 1000 0 = 0 by decide] at hs2
  have HS1 := hide hs1
  have HS2 := hide hs2
  have hgt : getN [(bAl, eAl)] bAl 1000 = some eAl := by rw [getN_self trimAl]; rfl
  have HGT := hide hgt
  have hfd : BdE (foundN [(bAl, eAl)] bAl) := by rw [foundN_self]; constructor <;> decide
  clear hs1 hs2 hgt
  go_upto_region 6 with (first
    | (go_at_call 9; refine (set_any _ _ _).mono ?_; rintro e w3 ⟨rfl, hs3, hb3⟩; have HK3 := hide hs3; have HB3 := hide hb3; clear hs3 hb3; simp only [cmdV, setC])
    | (go_at_call 10; refine (do_on (HM2.out.step (by repeat (first | exact HB3.out | refine Below.al ?_ _ | refine Below.setCell ?_ (by simp; omega) _))) HG.out h8 okE_nil (setF bAl bV 0 0) _ _ 1000 false (Strs.below HK3.out (Below.al (Below.refl _ _) _)) (small_of (by decide)) HS2.out HS1.out).mono ?_; rintro e w4 ⟨A4, c4, rfl, ho4, hm4, hc4⟩; have HM4 : Hid (Mdl w w4 (w1.heap.size + 1) w1.heap.size [(bAl, eAl)] 1) := hide hm4; clear ho4 hm4 hc4; simp only [resV]))
  go_upto_region 7 with (go_at_call 11; refine (get_walk _ _ _ _ bAl _ _ HM4.out.mod (by decide) hfd.1 hfd.2).mono ?_; rw [HGT.out]; rintro e w5 ⟨rfl, hb5⟩; have HB5 := hide hb5; clear hb5; simp only [Option.getD_some, Option.isSome_some, encE, eAl])
  obtain ⟨W5, hW5⟩ : ∃ W5, W5 = w5.alloc (.cells eAlC 39) := ⟨_, rfl⟩
  have HM5 : Hid (Mdl w W5 (w1.heap.size + 1) w1.heap.size [(bAl, eAl)] 1) := by rw [hW5]; exact hide ((HM4.out.step HB5.out).step (Below.al (Below.refl _ _) _))
  have HV5 : Hid (Vars W5 39 [(w5.heap.size, eAlC)]) := by rw [hW5]; exact hide ((Vars.nil w5 39).new _)
  have hW6 := hW5
  unfold eAlC at hW6
  rw [← hW6]
  clear hW5 hW6 HM4 HB5
  go_upto_region 8 with fail
  go_loopg [7] l.length (fun n i wr => ∃ (j : Nat) (L : Ents) (laid : Int), n + j = l.length ∧ i = .int .i64 j ∧ Mdl w wr (w1.heap.size + 1) w1.heap.size L laid ∧ OkE L ∧ findE bAl L = some eAl ∧
    Vars wr 39 [(w5.heap.size, eAlC)])
  case atStart => exact ⟨0, _, _, rfl, rfl, HM5.out, okE_one ⟨by decide, by decide⟩ (by decide), findE_self bAl eAl, HV5.out⟩
  case round =>
    obtain ⟨j, L, laid, hj, rfl, hM, hok, hfe, hV⟩ := hrel
    have HM := hide hM
    have HOK := hide hok
    have HFE := hide hfe
    have HV := hide hV
    clear hM hok hfe hV
    by_cases hlt : j < l.length
    · by_cases h40 : j < 40
      · obtain ⟨a, ha⟩ : ∃ a, l[j]? = some a := ⟨_, List.getElem?_eq_getElem hlt⟩
        obtain ⟨ad, hAd, hact⟩ := (HA.out.below HM.out.below) j a ha
        subst hAd
        obtain ⟨X, hX⟩ : ∃ X, ad.add (j * 11) = X := ⟨_, rfl⟩
        rw [hX] at hact
        obtain ⟨A1, cap1, hcs, hstr, hsm, hXl⟩ := hact.out
        obtain ⟨q0, q1, q2, q3, q4, q5, q6, q7, q9⟩ := hcs
        have HSTR := hide hstr
        have HSM := hide hsm
        have HACT := hide hact
        have HLA := hide ha
        clear hact hstr hsm ha
        go_upto_region 11 with fail
        obtain ⟨W, hW⟩ : ∃ W, W = wr.alloc (.cells (cmdCells a.c A1 cap1) 30) := ⟨_, rfl⟩
        have hWc := hW
        unfold cmdCells at hWc
        rw [← hWc]
        clear hWc
        have hblk : Blk W wr.heap.size 30 (cmdCells a.c A1 cap1) := by rw [hW]; exact Blk.new _ _ _
        have hbW : Below wr.heap.size wr W := by rw [hW]; exact Below.al (Below.refl _ _) _
        have HMW := hide (HM.out.step hbW)
        have HVW := hide (HV.out.below hbW)
        have HSW := hide (HSTR.out.below hbW)
        have HAW := hide (HACT.out.below hbW)
        have hr8 := hblk.cell
        simp only [cmdCells] at hr8
        have hl8 := hblk.lt
        have HBL := hide hblk
        clear hW q0 q1 q2 q3 q4 q5 q6 q7 q9 hXl HM HV HSTR HACT hbW hblk
        obtain rfl : gk = l.length - j := by omega
        generalize wr.heap.size = g8 at *
        clear wr
        by_cases h15 : a.c.kind = 15
        · have k15 : (a.c.kind == 15) = true := by simpa using h15
          go_wp2
          go_roundg (l.length - (j + 1))
          case measure => omega
          case rel => exact ⟨j + 1, L, laid, by omega, by go_num, HMW.out, HOK.out, HFE.out, HVW.out⟩
        · have k15 : (a.c.kind == 15) = false := by simpa using h15
          by_cases hkl : a.c.keys.length ≤ 100
          · by_cases hvl : a.c.val.size ≤ 10000
            · go_upto_region 14 with fail
              go_loopg [9, 10] a.c.keys.length (fun n mv kv wx => ∃ (k : Nat) (b : Bool), n + k = a.c.keys.length ∧ kv = .int .i64 k ∧ mv = .bool b ∧ wx = W ∧ Hid (b = false → ∀ s ∈ a.c.keys.take k, s ≠ bAl))
              case atStart => exact ⟨0, false, rfl, rfl, rfl, rfl, hide (by simp)⟩
              case round =>
                obtain ⟨k, b, hk, rfl, rfl, hwx, hmine⟩ := hrel
                subst hwx
                by_cases hkk : k < a.c.keys.length
                · obtain ⟨s, hs⟩ : ∃ s, a.c.keys[k]? = some s := ⟨_, List.getElem?_eq_getElem hkk⟩
                  obtain ⟨ad1, hAd1, hcell1⟩ := HSW.out k s hs
                  subst hAd1
                  have HS := hide hs
                  clear hs
                  go_upto_region 16 with fail
                  cases b
                  · go_wp2
                    all_goals
                      go_roundg (gk - 1)
                      case measure => omega
                      case rel => exact ⟨k + 1, _, by omega, by go_num, rfl, rfl, by first | exact mine_step hmine HS.out _ | exact hide (by simp)⟩
                  · go_wp2
                    go_roundg (gk - 1)
                    case measure => omega
                    case rel => exact ⟨k + 1, true, by omega, by go_num, rfl, rfl, hide (by simp)⟩
                · have hall : b = false → ∀ s ∈ a.c.keys, s ≠ bAl := fun hb => by have := hmine.out hb; rwa [List.take_of_length_le (by omega)] at this
                  have HALL := hide hall
                  clear hall hmine
                  cases b
                  · go_upto_region 18 with fail
                    have hkeep : ∀ W' : World, Blk W' g8 30 (cmdCells a.c A1 cap1) → Below w.heap.size w W' → W'.cell? ⟨g8, 0, none⟩ = some (.int .i64 a.c.kind) ∧ W'.cell? ⟨g8, 1, none⟩ = some (.slice A1 a.c.keys.length cap1) ∧ W'.cell? ⟨g8, 2, none⟩ = some (.int .u32 a.c.flags) ∧
                        W'.cell? ⟨g8, 3, none⟩ = some (.int .i64 a.c.exp) ∧ W'.cell? ⟨g8, 4, none⟩ = some (.string a.c.val) ∧ W'.cell? ⟨g8, 5, none⟩ = some (.int .u64 a.c.cas) ∧ W'.cell? ⟨g8, 6, none⟩ = some (.int .u64 a.c.delta) ∧ W'.cell? ⟨g8, 7, none⟩ = some (.bool a.c.quiet) ∧
                        W'.cell? ⟨X.block, X.off + 9, none⟩ = some (.bool a.failed) := fun W' hb hw => by
                      obtain ⟨ad', hAd', hact'⟩ := (HA.out.below hw) j a HLA.out
                      obtain rfl : ad = ad' := by injection hAd'
                      rw [hX] at hact'
                      obtain ⟨_, _, hcs', _⟩ := hact'.out
                      exact ⟨hb.cell 0, hb.cell 1, hb.cell 2, hb.cell 3, hb.cell 4, hb.cell 5, hb.cell 6, hb.cell 7, hcs'.c9⟩
                    have hS0 := hkeep wr.drew HBL.out.drew HMW.out.below.drew
                    have HKE := hide hkeep
                    have hne1 : ¬ (g8 = w1.heap.size + 1 ∨ g8 = w1.heap.size) := fun e => e.elim (fun e => HBL.out.ne_ HMW.out.mod.blk (by decide) e) (fun e => HBL.out.ne_map HMW.out.mod.map e)
                    have HNE := hide hne1
                    clear hkeep hr8 hne1
                    go_region_held3 (fun W' => W'.cell? ⟨g8, 0, none⟩ = some (.int .i64 a.c.kind) ∧ W'.cell? ⟨g8, 1, none⟩ = some (.slice A1 a.c.keys.length cap1) ∧ W'.cell? ⟨g8, 2, none⟩ = some (.int .u32 a.c.flags) ∧
                        W'.cell? ⟨g8, 3, none⟩ = some (.int .i64 a.c.exp) ∧ W'.cell? ⟨g8, 4, none⟩ = some (.string a.c.val) ∧ W'.cell? ⟨g8, 5, none⟩ = some (.int .u64 a.c.cas) ∧ W'.cell? ⟨g8, 6, none⟩ = some (.int .u64 a.c.delta) ∧ W'.cell? ⟨g8, 7, none⟩ = some (.bool a.c.quiet) ∧
                        W'.cell? ⟨X.block, X.off + 9, none⟩ = some (.bool a.failed))
                      ((first | assumption | (clear hS0; assumption)))
                      (first
                        | (go_at_call 10; refine (do_on (HMW.out.step (Below.drew (Below.refl _ _))) HG.out h8 HOK.out a.c _ _ 1000 a.failed (HSW.out.below (Below.drew (Below.refl _ _))) HSM.out rfl rfl).mono ?_; rintro e w6 ⟨A6, c6, rfl, ho6, hm6, hc6⟩; have hS6 := HKE.out w6 (HBL.out.drew.chg hc6 HNE.out) hm6.below; have HM6 := hide hm6; have HC6 := hide hc6; clear ho6 hm6 hc6; simp only [resV]))
                    go_wp2
                    go_roundg (l.length - (j + 1))
                    case measure => omega
                    case rel =>
                      exact ⟨j + 1, _, _, by omega, by go_num, HM6.out, okE_do HOK.out a.c 1000 a.failed laid HSM.out.2.2.2.1, (do_other a.c 1000 a.failed laid keyAl h15 (fun hm => HALL.out (by simp) _ hm rfl)).trans HFE.out,
                        Vars.chg (HVW.out.below (Below.drew (Below.refl _ _))) (HMW.out.step (Below.drew (Below.refl _ _))).mod (by decide) HC6.out⟩
                  · go_wp2
                    go_roundg (l.length - (j + 1))
                    case measure => omega
                    case rel => exact ⟨j + 1, L, laid, by omega, by go_num, HMW.out, HOK.out, HFE.out, HVW.out⟩
            · go_wp2
              go_roundg (l.length - (j + 1))
              case measure => omega
              case rel => exact ⟨j + 1, L, laid, by omega, by go_num, HMW.out, HOK.out, HFE.out, HVW.out⟩
          · go_wp2
            go_roundg (l.length - (j + 1))
            case measure => omega
            case rel => exact ⟨j + 1, L, laid, by omega, by go_num, HMW.out, HOK.out, HFE.out, HVW.out⟩
      · have hgt2 : getN L bAl 1000 = some eAl := by rw [getN_findE, HFE.out]; simp [trimAl, eAl, Pl.gone]
        have HGT2 := hide hgt2
        have hfd2 := HOK.out.1.found bAl
        have hv := HV.out _ (List.Mem.head _)
        have c5 := hv.cell
        simp only [eAlC] at c5
        have l5 := hv.lt
        simp only at l5
        clear hgt2 hv
        go_wp2_with (go_at_call 11; refine (get_walk _ _ _ _ bAl _ _ HM.out.mod (by decide) hfd2.1 hfd2.2).mono ?_; rw [HGT2.out]; rintro e w7 ⟨rfl, hb7⟩; have c7 := fun i => ((bcell hb7).1 _ i l5).trans (c5 i); have l7 := Nat.lt_of_lt_of_le l5 hb7.size; have HB7 := hide hb7; clear hb7; simp only [Option.getD_some, Option.isSome_some, encE, eAl])
        go_ret
        exact ⟨rfl, by repeat (first | exact Below.step HM.out.below HB7.out | refine Below.al ?_ _)⟩
    · have hgt2 : getN L bAl 1000 = some eAl := by rw [getN_findE, HFE.out]; simp [trimAl, eAl, Pl.gone]
      have HGT2 := hide hgt2
      have hfd2 := HOK.out.1.found bAl
      have hv := HV.out _ (List.Mem.head _)
      have c5 := hv.cell
      simp only [eAlC] at c5
      have l5 := hv.lt
      simp only at l5
      clear hgt2 hv
      go_wp2_with (go_at_call 11; refine (get_walk _ _ _ _ bAl _ _ HM.out.mod (by decide) hfd2.1 hfd2.2).mono ?_; rw [HGT2.out]; rintro e w7 ⟨rfl, hb7⟩; have c7 := fun i => ((bcell hb7).1 _ i l5).trans (c5 i); have l7 := Nat.lt_of_lt_of_le l5 hb7.size; have HB7 := hide hb7; clear hb7; simp only [Option.getD_some, Option.isSome_some, encE, eAl])
      go_ret
      exact ⟨rfl, by repeat (first | exact Below.step HM.out.below HB7.out | refine Below.al ?_ _)⟩
end Go.Proofs.YthcdocedpcjbeaaDoor

/-
  ModelTouches: the plain law, and the walk.
-/
import Derived.Test.YthcdocedpcjbeaaDoorW16
namespace Go.Proofs.YthcdocedpcjbeaaDoor
open Go.RowKit

def bK : ByteArray := ⟨#[107]⟩
theorem posE_self (k : ByteArray) (e : Ent) (i : Nat) : posE k [(k, e)] i = some (i, e) := by simp [posE]
theorem putN_self (k : ByteArray) (e e' : Ent) : putN [(k, e)] k e' = [(k, e')] := by unfold putN; rw [posE_self]; rfl
theorem putN_nil (k : ByteArray) (e' : Ent) : putN [] k e' = [(k, e')] := rfl
theorem foundN_self (k : ByteArray) (e : Ent) : foundN [(k, e)] k = e := by unfold foundN; rw [posE_self]; rfl
theorem getN_self {k : ByteArray} (ht : trim (nm k) = k) (e : Ent) (now : Int) : getN [(k, e)] k now = if Pl.gone e.exp now then none else some e := by
  unfold getN
  rw [posE_self, foundN_self, decide_eq_true ht]
  cases Pl.gone e.exp now <;> rfl
theorem getN_nil (k : ByteArray) (now : Int) : getN [] k now = none := rfl
theorem trimK : trim (nm bK) = bK := by kernel_rfl
theorem check_of {c : Cmd} (h1 : Pl.isKind c.kind = true) (h2 : Pl.same c = true) (h3 : Pl.keysOk c.kind c.keys.length = true) (h4 : c.keys.all Pl.isKey = true) (h5 : c.val.size ≤ 2000) : Pl.check c = 0 := by
  unfold Pl.check
  rw [if_pos h1, if_pos (by rw [h2, h3, h4]; rfl), if_pos h5]

/-- a set of a key, with flags and an end. -/
def setF (k v : ByteArray) (flags exp : Int) : Cmd := ⟨5, [k], flags, exp, v, 0, 0, false⟩
theorem set_check {k v : ByteArray} {flags exp : Int} (hk : Pl.isKey k = true) (hv : v.size ≤ 2000) : Pl.check (setF k v flags exp) = 0 := by
  exact check_of rfl (by simp [setF, Pl.same, Pl.stores, Pl.hasEnds, Pl.isReads, ba_self]) rfl (by simp [setF, hk]) hv
theorem set_do {k v : ByteArray} {flags exp now : Int} (hk : Pl.isKey k = true) (hv : v.size ≤ 2000) (hn : Pl.second now = true) (l : Ents) (laid : Int) :
    errOf (setF k v flags exp) now = 0 ∧ doM (setF k v flags exp) now false l laid = ⟨2, [], 0, putN l k ⟨v, flags, Pl.ends now exp, u64 (laid + 1)⟩, u64 (laid + 1)⟩ := by
  have h1 : errOf (setF k v flags exp) now = 0 := by unfold errOf; rw [set_check hk hv, hn]; rfl
  refine ⟨h1, ?_⟩
  unfold doM
  rw [if_pos h1]
  rw [doIn_store (k := k) (rest := []) (setF k v flags exp) now _ false l laid (by simp [setF]) (by simp [setF]) rfl rfl rfl rfl]
  have h2 : ¬ 2000 < v.size := by omega
  unfold storeM
  rw [if_neg (by simp [mayC, setF])]
  simp [setF, laidE, h2]
def oneC (kind : Int) (k : ByteArray) (exp : Int) : Cmd := ⟨kind, [k], 0, exp, ⟨#[]⟩, 0, 0, false⟩
theorem touch_do {k : ByteArray} {e : Ent} {T now laid : Int} (hk : Pl.isKey k = true) (ht : trim (nm k) = k) (hn : Pl.second now = true) (hg : Pl.gone e.exp now = false) :
    errOf (oneC 14 k T) now = 0 ∧ doM (oneC 14 k T) now false [(k, e)] laid = ⟨9, [], 0, [(k, { e with exp := Pl.ends now T })], laid⟩ := by
  have hc : Pl.check (oneC 14 k T) = 0 := by
    exact check_of rfl (by simp [oneC, Pl.same, Pl.stores, Pl.hasEnds, Pl.isReads, Pl.empty, ba_self]) rfl (by simp [oneC, hk]) (by simp [oneC, ByteArray.size])
  have h1 : errOf (oneC 14 k T) now = 0 := by unfold errOf; rw [hc, hn]; rfl
  have hgt : getN [(k, e)] k now = some e := by rw [getN_self ht, hg]; rfl
  refine ⟨h1, ?_⟩
  unfold doM
  rw [if_pos h1]
  rw [doIn_touch (k := k) (rest := []) (old := e) (is := true) (oneC 14 k T) now _ false [(k, e)] laid (by simp [oneC]) (by simp [oneC]) rfl (by rw [hgt]; rfl) (by rw [hgt]; rfl) rfl rfl rfl, putN_self]
  rfl
theorem gats_do {k : ByteArray} {e : Ent} {T now laid : Int} (hk : Pl.isKey k = true) (ht : trim (nm k) = k) (hn : Pl.second now = true) (hg : Pl.gone e.exp now = false) :
    errOf (oneC 4 k T) now = 0 ∧ doM (oneC 4 k T) now false [(k, e)] laid = ⟨1, [⟨k, e.flags, e.val, e.cas⟩], 0, [(k, { e with exp := Pl.ends now T })], laid⟩ := by
  have hc : Pl.check (oneC 4 k T) = 0 := by
    exact check_of rfl (by simp [oneC, Pl.same, Pl.stores, Pl.hasEnds, Pl.isReads, Pl.empty, ba_self]) rfl (by simp [oneC, hk]) (by simp [oneC, ByteArray.size])
  have h1 : errOf (oneC 4 k T) now = 0 := by unfold errOf; rw [hc, hn]; rfl
  have hgt : getN [(k, e)] k now = some e := by rw [getN_self ht, hg]; rfl
  refine ⟨h1, ?_⟩
  unfold doM
  rw [if_pos h1, doIn_reads (oneC 4 k T) now _ false [(k, e)] laid (by simp [oneC])]
  have hr : readTo (isGat (oneC 4 k T).kind) (Pl.ends now (oneC 4 k T).exp) now [(k, e)] (oneC 4 k T).keys = ([(k, { e with exp := Pl.ends now T })], [⟨k, e.flags, e.val, e.cas⟩]) := by
    show readS true (Pl.ends now T) now ([(k, e)], []) k = _
    simp only [readS, hgt, putN_self, if_true]
    rfl
  rw [hr]

theorem w64 {n : Int} (h : -9223372036854775808 ≤ n ∧ n ≤ 9223372036854775807) : wrap64 n = n := by unfold wrap64; omega
theorem rem_in (x : Int) {n : Int} (h1 : 0 < n) (h2 : n ≤ 1000) : ∃ E, wrap64 ((IntKind.u64.wrap x).tmod n) = E ∧ 0 ≤ E ∧ E < n := by
  have h0 := wrap_u64_nonneg x
  have h3 := Int.emod_nonneg (IntKind.u64.wrap x) (show n ≠ 0 by omega)
  have h4 := Int.emod_lt_of_pos (IntKind.u64.wrap x) h1
  refine ⟨_, rfl, ?_⟩
  rw [Int.tmod_eq_emod_of_nonneg h0, w64 (by omega)]
  exact ⟨h3, h4⟩

set_option maxRecDepth 100000 in
set_option maxHeartbeats 2000000 in
theorem touches_any (v : ByteArray) (x t y : Int) (gat : Bool) (w : World) (hG : Globs w) (h8 : 8 ≤ w.heap.size) :
    Calls Tryd.prog 4 #[.string v, .int .i64 x, .int .i64 t, .int .i64 y, .bool gat] w fun e w' => e = .returned (.bool true) ∧ Below w.heap.size w w' := by
  have HG := hide hG
  clear hG
  by_cases hv : v.size ≤ 2000
  · obtain ⟨E, hE, hE0, hE1⟩ := rem_in x (n := 100) (by decide) (by decide)
    obtain ⟨T, hT, hT0, hT1⟩ := rem_in t (n := 100) (by decide) (by decide)
    obtain ⟨Y, hY, hY0, hY1⟩ := rem_in y (n := 200) (by decide) (by decide)
    have hT2 : wrap64 (1 + T) = 1 + T := w64 (by omega)
    obtain ⟨T1, hT3⟩ : ∃ T1, 1 + T = T1 := ⟨_, rfl⟩
    rw [hT3] at hT2
    go_enter Tryd.func4, Tryd.ntmps4
    go_upto_region 7 with (first
      | (go_at_call 7; refine (works_any _ HG.out h8).mono ?_; rintro e w1 ⟨rfl, hb1⟩; have HB1 := hide hb1; clear hb1)
      | (go_at_call 8; refine (new_any _).mono ?_; rintro e w2 ⟨rfl, hm2, hb2⟩; have HM2 := hide (⟨Below.step HB1.out hb2, hm2, Nat.le_succ_of_le HB1.out.size, HB1.out.size⟩ : Mdl w w2 (w1.heap.size + 1) w1.heap.size [] 0); clear hm2 hb2))
    obtain ⟨hs1, hs2⟩ := set_do (k := bK) (v := v) (flags := 0) (exp := E) (now := 1000) (by decide) hv (by decide) [] 0
    rw [putN_nil] at hs2
    have hu : u64 (0 + 1) = 1 := by decide
    rw [hu] at hs2
    obtain ⟨e0, he0⟩ : ∃ e0, Pl.ends 1000 E = e0 := ⟨_, rfl⟩
    have he1 : e0 = 0 ∨ (1001 ≤ e0 ∧ e0 < 2000) := by rw [← he0]; unfold Pl.ends; split <;> (try split) <;> omega
    rw [he0] at hs2
    have HS1 := hide hs1
    have HS2 := hide hs2
    clear hs1 hs2 hu
    go_upto_region 10 with (first
      | (go_at_call 9; refine (set_any _ _ _).mono ?_; rintro e w3 ⟨rfl, hs3, hb3⟩; have HK3 := hide hs3; have HB3 := hide hb3; clear hs3 hb3; simp only [cmdV, setC])
      | (go_at_call 10; refine (do_on (HM2.out.step (by repeat (first | exact HB3.out | refine Below.al ?_ _ | refine Below.setCell ?_ (by simp; omega) _))) HG.out h8 okE_nil (setF bK v 0 E) _ _ 1000 false (Strs.below HK3.out (Below.al (Below.refl _ _) _)) ?hsm HS2.out HS1.out).mono ?_; rotate_left 1; rintro e w4 ⟨A4, c4, rfl, ho4, hm4, hc4⟩; have HM4 := hide hm4; have HC4 := hide hc4; clear ho4 hm4 hc4; simp only [resV]))
    case hsm => exact ⟨by simp [setF], by simp [setF]; omega, fun s hs => by simp [setF] at hs; subst hs; decide, by simp [setF], by simp [setF]; omega⟩
    have hg0 : Pl.gone e0 1000 = false := by unfold Pl.gone; simp; omega
    obtain ⟨ht1, ht2⟩ := touch_do (k := bK) (e := ⟨v, 0, e0, 1⟩) (T := T1) (now := 1000) (laid := 1) (by decide) trimK (by decide) hg0
    obtain ⟨hg1, hg2⟩ := gats_do (k := bK) (e := ⟨v, 0, e0, 1⟩) (T := T1) (now := 1000) (laid := 1) (by decide) trimK (by decide) hg0
    have he2 : Pl.ends 1000 T1 = 1000 + T1 := by unfold Pl.ends; split <;> (try split) <;> omega
    rw [he2] at ht2 hg2
    have HT1 := hide ht1
    have HT2 := hide ht2
    have HG1 := hide hg1
    have HG2 := hide hg2
    have hsm2 : ∀ kind, small (oneC kind bK T1) := fun kind => ⟨by simp [oneC], by simp [oneC, ByteArray.size], fun s hs => by simp [oneC] at hs; subst hs; decide, by simp [oneC], by simp [oneC]; omega⟩
    have hok2 : OkE [(bK, ⟨v, 0, e0, 1⟩)] := okE_one ⟨by simp only; omega, by simp only; omega⟩ hv
    clear ht1 ht2 hg1 hg2 hg0
    have hY2 : wrap64 (1000 + Y) = 1000 + Y := w64 (by omega)
    obtain ⟨Y1, hY3⟩ : ∃ Y1, 1000 + Y = Y1 := ⟨_, rfl⟩
    rw [hY3] at hY2
    have hT4 : wrap64 (1000 + T1) = 1000 + T1 := w64 (by omega)
    have hfd : BdE (foundN [(bK, ⟨v, 0, 1000 + T1, 1⟩)] bK) := by rw [foundN_self]; constructor <;> simp only <;> omega
    cases gat
    · go_upto_region 14 with (go_at_call 10; refine (do_on (HM4.out.step (by repeat (first | exact Below.refl _ _ | refine Below.al ?_ _ | refine Below.setCell ?_ (by simp) _))) HG.out h8 hok2 (oneC 14 bK T1) _ _ 1000 false (strs_one (by go_simp <;> rfl)) (hsm2 14) HT2.out HT1.out).mono ?_; rintro e w5 ⟨A5, c5, rfl, ho5, hm5, hc5⟩; have HM5 := hide hm5; clear ho5 hm5 hc5; simp only [resV])
      rcases Int.lt_or_le Y T1 with hYT | hYT
      · have hgt : getN [(bK, ⟨v, 0, 1000 + T1, 1⟩)] bK Y1 = some ⟨v, 0, 1000 + T1, 1⟩ := by
          rw [getN_self trimK, if_neg]
          unfold Pl.gone; simp; omega
        have HGT := hide hgt
        clear hgt
        go_wp2_with (go_at_call 11; refine (get_walk _ _ _ _ bK _ _ (HM5.out.mod.below (Below.al (Below.refl _ _) _)) (by decide) hfd.1 hfd.2).mono ?_; rw [HGT.out]; rintro e w6 ⟨rfl, hb6⟩; have HB6 := hide hb6; clear hb6; simp only [Option.getD_some, Option.isSome_some, encE])
        go_ret
        exact ⟨rfl, by repeat (first | exact Below.step (Below.al HM5.out.below _) HB6.out | refine Below.al ?_ _)⟩
      · have hgt : getN [(bK, ⟨v, 0, 1000 + T1, 1⟩)] bK Y1 = none := by
          rw [getN_self trimK, if_pos]
          unfold Pl.gone; simp; omega
        have HGT := hide hgt
        clear hgt
        go_wp2_with (go_at_call 11; refine (get_walk _ _ _ _ bK _ _ (HM5.out.mod.below (Below.al (Below.refl _ _) _)) (by decide) hfd.1 hfd.2).mono ?_; rw [HGT.out]; rintro e w6 ⟨rfl, hb6⟩; have HB6 := hide hb6; clear hb6; simp only [Option.getD_none, Option.isSome_none, encE, zeroE])
        go_ret
        exact ⟨ret_bool (by simp; omega), by repeat (first | exact Below.step (Below.al HM5.out.below _) HB6.out | refine Below.al ?_ _)⟩
    · go_upto_region 14 with (go_at_call 10; refine (do_on (HM4.out.step (by repeat (first | exact Below.refl _ _ | refine Below.al ?_ _ | refine Below.setCell ?_ (by simp) _))) HG.out h8 hok2 (oneC 4 bK T1) _ _ 1000 false (strs_one (by go_simp <;> rfl)) (hsm2 4) HG2.out HG1.out).mono ?_; rintro e w5 ⟨A5, c5, rfl, ho5, hm5, hc5⟩; obtain ⟨g, rfl, g0, g1, g2, g3⟩ := own_one ho5; simp only at g0 g1 g2 g3; have gl := cell_lt g0; have HM5 := hide hm5; clear ho5 hm5 hc5; simp only [resV])
      rcases Int.lt_or_le Y T1 with hYT | hYT
      · have hgt : getN [(bK, ⟨v, 0, 1000 + T1, 1⟩)] bK Y1 = some ⟨v, 0, 1000 + T1, 1⟩ := by
          rw [getN_self trimK, if_neg]
          unfold Pl.gone; simp; omega
        have HGT := hide hgt
        clear hgt
        go_wp2_with (go_at_call 11; refine (get_walk _ _ _ _ bK _ _ (HM5.out.mod.below (Below.al (Below.refl _ _) _)) (by decide) hfd.1 hfd.2).mono ?_; rw [HGT.out]; rintro e w6 ⟨rfl, hb6⟩; have HB6 := hide hb6; clear hb6; simp only [Option.getD_some, Option.isSome_some, encE])
        go_ret
        exact ⟨rfl, by repeat (first | exact Below.step (Below.al HM5.out.below _) HB6.out | refine Below.al ?_ _)⟩
      · have hgt : getN [(bK, ⟨v, 0, 1000 + T1, 1⟩)] bK Y1 = none := by
          rw [getN_self trimK, if_pos]
          unfold Pl.gone; simp; omega
        have HGT := hide hgt
        clear hgt
        go_wp2_with (go_at_call 11; refine (get_walk _ _ _ _ bK _ _ (HM5.out.mod.below (Below.al (Below.refl _ _) _)) (by decide) hfd.1 hfd.2).mono ?_; rw [HGT.out]; rintro e w6 ⟨rfl, hb6⟩; have HB6 := hide hb6; clear hb6; simp only [Option.getD_none, Option.isSome_none, encE, zeroE])
        go_ret
        exact ⟨ret_bool (by simp; omega), by repeat (first | exact Below.step (Below.al HM5.out.below _) HB6.out | refine Below.al ?_ _)⟩
  · go_enter Tryd.func4, Tryd.ntmps4
    go_wp2_with (go_at_call 7; refine (works_any _ HG.out h8).mono ?_; rintro e w1 ⟨rfl, hb1⟩; have HB1 := hide hb1; clear hb1)
    go_ret
    exact ⟨rfl, HB1.out⟩
end Go.Proofs.YthcdocedpcjbeaaDoor

/-
  ModelJoins: the plain law, and the walk.
-/
import Derived.Test.YthcdocedpcjbeaaDoorW17
import Derived.Test.YthcdocedpcjbeaaDoorArg
namespace Go.Proofs.YthcdocedpcjbeaaDoor
open Go.RowKit

/-- a value that is laid behind another one (8), or ahead (9). -/
def joinC (kind : Int) (k v : ByteArray) : Cmd := ⟨kind, [k], 0, 0, v, 0, 0, false⟩
def joined (kind : Int) (want part : ByteArray) : ByteArray := if kind = 8 then want ++ part else part ++ want
theorem join_do {kind : Int} (hkd : kind = 8 ∨ kind = 9) {k p : ByteArray} {e : Ent} {now laid : Int} (hk : Pl.isKey k = true) (ht : trim (nm k) = k) (hn : Pl.second now = true) (hg : Pl.gone e.exp now = false) (hp : p.size ≤ 2000) :
    errOf (joinC kind k p) now = 0 ∧ doM (joinC kind k p) now false [(k, e)] laid =
      ⟨if 2000 < (joined kind e.val p).size then 12 else 2, [], 0, [(k, if 2000 < (joined kind e.val p).size then e else { e with val := joined kind e.val p, cas := u64 (laid + 1) })], if 2000 < (joined kind e.val p).size then laid else u64 (laid + 1)⟩ := by
  have hgt : getN [(k, e)] k now = some e := by rw [getN_self ht, hg]; rfl
  have hc : Pl.check (joinC kind k p) = 0 := by
    rcases hkd with rfl | rfl
    · exact check_of rfl (by simp [joinC, Pl.same, Pl.stores, Pl.hasEnds, Pl.isReads, ba_self]) rfl (by simp [joinC, hk]) hp
    · exact check_of rfl (by simp [joinC, Pl.same, Pl.stores, Pl.hasEnds, Pl.isReads, ba_self]) rfl (by simp [joinC, hk]) hp
  have h1 : errOf (joinC kind k p) now = 0 := by unfold errOf; rw [hc, hn]; rfl
  refine ⟨h1, ?_⟩
  unfold doM
  rw [if_pos h1]
  rw [doIn_store (k := k) (rest := []) (old := e) (is := true) (joinC kind k p) now _ false [(k, e)] laid (by rcases hkd with rfl | rfl <;> simp [joinC]) (by rcases hkd with rfl | rfl <;> simp [joinC]) rfl (by rw [hgt]; rfl) (by rw [hgt]; rfl) (by rcases hkd with rfl | rfl <;> rfl)]
  unfold storeM
  have h5 : ¬ (joinC kind k p).kind = 5 := by rcases hkd with rfl | rfl <;> simp [joinC]
  rw [if_neg (by rcases hkd with rfl | rfl <;> simp [mayC, joinC])]
  have hl : laidE (joinC kind k p) (Pl.ends now (joinC kind k p).exp) e = { e with val := joined kind e.val p } := by
    rcases hkd with rfl | rfl <;> simp [laidE, joined, joinC]
  simp only [hl, h5, false_and, if_false, putN_self, Bool.false_eq_true]
  by_cases hh : 2000 < (joined kind e.val p).size
  · simp only [if_pos hh]
  · simp only [if_neg hh]

theorem join_big {kind : Int} (hkd : kind = 8 ∨ kind = 9) {k p nx : ByteArray} {e : Ent} {now laid : Int} (hk : Pl.isKey k = true) (ht : trim (nm k) = k) (hn : Pl.second now = true) (hg : Pl.gone e.exp now = false) (hp : p.size ≤ 2000)
    (hx : joined kind e.val p = nx) (hb : 2000 < nx.size) : errOf (joinC kind k p) now = 0 ∧ doM (joinC kind k p) now false [(k, e)] laid = ⟨12, [], 0, [(k, e)], laid⟩ := by
  have h := join_do (laid := laid) hkd hk ht hn hg hp
  rw [hx] at h
  simpa only [if_pos hb] using h
theorem join_fit {kind : Int} (hkd : kind = 8 ∨ kind = 9) {k p nx : ByteArray} {e : Ent} {now laid : Int} (hk : Pl.isKey k = true) (ht : trim (nm k) = k) (hn : Pl.second now = true) (hg : Pl.gone e.exp now = false) (hp : p.size ≤ 2000)
    (hx : joined kind e.val p = nx) (hb : ¬ 2000 < nx.size) : errOf (joinC kind k p) now = 0 ∧ doM (joinC kind k p) now false [(k, e)] laid = ⟨2, [], 0, [(k, { e with val := nx, cas := u64 (laid + 1) })], u64 (laid + 1)⟩ := by
  have h := join_do (laid := laid) hkd hk ht hn hg hp
  rw [hx] at h
  simpa only [if_neg hb] using h
theorem join_small {kind : Int} {p : ByteArray} (hp : p.size ≤ 2000) : small (joinC kind bK p) :=
  ⟨by simp [joinC], by simp [joinC]; omega, fun s hs => by simp [joinC] at hs; subst hs; decide, by simp [joinC], by simp [joinC]⟩
theorem ba_size_add (a b : ByteArray) : (a ++ b).size = a.size + b.size := by simp

set_option maxRecDepth 100000 in
set_option maxHeartbeats 4000000 in
theorem joins_any (first : ByteArray) (A1 : Option Addr) (c1 : Nat) (ks : List ByteArray) (A2 : Option Addr) (c2 : Nat) (bs : List Bool) (flags : Int) (w : World) (hG : Globs w) (h8 : 8 ≤ w.heap.size) (hS : Strs w A1 ks) (hB : Bools w A2 bs) :
    Calls Tryd.prog 3 #[.string first, .slice A1 ks.length c1, .slice A2 bs.length c2, .int .u32 flags] w fun e w' => e = .returned (.bool true) ∧ Below w.heap.size w w' := by
  have HG := hide hG
  have HS := hide hS
  have HB := hide hB
  clear hG hS hB
  by_cases hv : first.size ≤ 2000
  · go_enter Tryd.func3, Tryd.ntmps3
    go_upto_region 6 with (first
      | (go_at_call 7; refine (works_any _ HG.out h8).mono ?_; rintro e w1 ⟨rfl, hb1⟩; have HB1 := hide hb1; clear hb1)
      | (go_at_call 8; refine (new_any _).mono ?_; rintro e w2 ⟨rfl, hm2, hb2⟩; have HM2 := hide (⟨Below.step HB1.out hb2, hm2, Nat.le_succ_of_le HB1.out.size, HB1.out.size⟩ : Mdl w w2 (w1.heap.size + 1) w1.heap.size [] 0); clear hm2 hb2))
    obtain ⟨hs1, hs2⟩ := set_do (k := bK) (v := first) (flags := flags) (exp := 0) (now := 5) (by decide) hv (by decide) [] 0
    rw [putN_nil] at hs2
    have hu : u64 (0 + 1) = 1 := by decide
    have he0 : Pl.ends 5 0 = 0 := by decide
    rw [hu, he0] at hs2
    have HS1 := hide hs1
    have HS2 := hide hs2
    clear hs1 hs2 hu he0
    go_upto_region 9 with (first
      | (go_at_call 9; refine (set_any _ _ _).mono ?_; rintro e w3 ⟨rfl, hs3, hb3⟩; have HK3 := hide hs3; have HB3 := hide hb3; clear hs3 hb3; simp only [cmdV, setC])
      | (go_at_call 10; refine (do_on (HM2.out.step (by repeat (first | exact HB3.out | refine Below.al ?_ _ | refine Below.setCell ?_ (by simp; omega) _))) HG.out h8 okE_nil (setF bK first flags 0) _ _ 5 false (Strs.below HK3.out (Below.al (Below.refl _ _) _)) ?hsm HS2.out HS1.out).mono ?_; rotate_left 1; rintro e w4 ⟨A4, c4, rfl, ho4, hm4, hc4⟩; have HM4 := hide hm4; clear ho4 hm4 hc4; simp only [resV]))
    case hsm => exact ⟨by simp [setF], by simp [setF]; omega, fun s hs => by simp [setF] at hs; subst hs; decide, by simp [setF], by simp [setF]⟩
    have HM5 := hide (HM4.out : Mdl w w4 (w1.heap.size + 1) w1.heap.size [(bK, ⟨first, flags, 0, 1⟩)] 1)
    clear HM4
    go_upto_region 11 with fail
    go_loopg [11, 12] ks.length (fun n s i wr => ∃ (j : Nat) (want : ByteArray) (laid : Int), n + j = ks.length ∧ i = .int .i64 j ∧ s = .string want ∧ want.size ≤ 2000 ∧
      Mdl w wr (w1.heap.size + 1) w1.heap.size [(bK, ⟨want, flags, 0, laid⟩)] laid)
    case atStart => exact ⟨0, first, 1, rfl, rfl, rfl, hv, HM5.out⟩
    case round =>
      obtain ⟨j, want, laid, hj, rfl, rfl, hwant, hM⟩ := hrel
      have HM := hide hM
      clear hM
      by_cases hlt : j < ks.length
      · by_cases h20 : j < 20
        · obtain ⟨p, hp⟩ : ∃ p, ks[j]? = some p := ⟨_, List.getElem?_eq_getElem hlt⟩
          obtain ⟨ad, hAd, hcell⟩ := (HS.out.below HM.out.below) j p hp
          subst hAd
          have hcl := cell_lt hcell
          have hcl' : ad.block < wr.heap.size := by have h := hcl; unfold Addr.add at h; split at h <;> exact h
          have HP := hide hp
          clear hp
          by_cases hpz : p.size ≤ 2000
          · obtain ⟨nx8, hn8⟩ : ∃ nx, want ++ p = nx := ⟨_, rfl⟩
            obtain ⟨nx9, hn9⟩ : ∃ nx, p ++ want = nx := ⟨_, rfl⟩
            by_cases hb : j < bs.length
            · obtain ⟨b, hbj⟩ : ∃ b, bs[j]? = some b := ⟨_, List.getElem?_eq_getElem hb⟩
              obtain ⟨ad2, hAd2, hcell2⟩ := (HB.out.below HM.out.below) j b hbj
              subst hAd2
              have HBJ := hide hbj
              clear hbj
              cases b
              · clear hn9
                by_cases hz : 2000 < nx8.size
                · obtain ⟨hj1, hj2⟩ := join_big (kind := 8) (by decide) (k := bK) (p := p) (nx := nx8) (e := ⟨want, flags, 0, laid⟩) (now := 5) (laid := laid) (by decide) trimK (by decide) (by simp [Pl.gone]) hpz hn8 hz
                  have HJ1 := hide hj1
                  have HJ2 := hide hj2
                  clear hj1 hj2
                  go_upto_region 21 with (go_at_call 10; refine (do_on (HM.out.step (by repeat (first | exact Below.refl _ _ | refine Below.al ?_ _))) HG.out h8 (okE_one ⟨by simp, by simp⟩ hwant) (joinC 8 bK p) _ _ 5 false (strs_one (by go_simp <;> rfl)) (join_small hpz) HJ2.out HJ1.out).mono ?_; rintro e w5 ⟨A5, c5, rfl, ho5, hm5, hc5⟩; have HM5 := hide hm5; clear ho5 hm5 hc5; simp only [resV])
                  go_wp2
                  go_roundg (gk - 1)
                  case measure => omega
                  case rel => exact ⟨j + 1, want, laid, by omega, by go_num, rfl, hwant, HM5.out.step (Below.al (Below.refl _ _) _)⟩
                · obtain ⟨hj1, hj2⟩ := join_fit (kind := 8) (by decide) (k := bK) (p := p) (nx := nx8) (e := ⟨want, flags, 0, laid⟩) (now := 5) (laid := laid) (by decide) trimK (by decide) (by simp [Pl.gone]) hpz hn8 hz
                  have HJ1 := hide hj1
                  have HJ2 := hide hj2
                  clear hj1 hj2
                  go_upto_region 21 with (go_at_call 10; refine (do_on (HM.out.step (by repeat (first | exact Below.refl _ _ | refine Below.al ?_ _))) HG.out h8 (okE_one ⟨by simp, by simp⟩ hwant) (joinC 8 bK p) _ _ 5 false (strs_one (by go_simp <;> rfl)) (join_small hpz) HJ2.out HJ1.out).mono ?_; rintro e w5 ⟨A5, c5, rfl, ho5, hm5, hc5⟩; have HM5 := hide hm5; clear ho5 hm5 hc5; simp only [resV])
                  go_wp2
                  go_roundg (gk - 1)
                  case measure => omega
                  case rel => exact ⟨j + 1, nx8, _, by omega, by go_num, rfl, by omega, HM5.out.step (Below.al (Below.refl _ _) _)⟩
              · by_cases hz : 2000 < nx9.size
                · obtain ⟨hj1, hj2⟩ := join_big (kind := 9) (by decide) (k := bK) (p := p) (nx := nx9) (e := ⟨want, flags, 0, laid⟩) (now := 5) (laid := laid) (by decide) trimK (by decide) (by simp [Pl.gone]) hpz hn9 hz
                  have HJ1 := hide hj1
                  have HJ2 := hide hj2
                  clear hj1 hj2
                  go_upto_region 21 with (go_at_call 10; refine (do_on (HM.out.step (by repeat (first | exact Below.refl _ _ | refine Below.al ?_ _))) HG.out h8 (okE_one ⟨by simp, by simp⟩ hwant) (joinC 9 bK p) _ _ 5 false (strs_one (by go_simp <;> rfl)) (join_small hpz) HJ2.out HJ1.out).mono ?_; rintro e w5 ⟨A5, c5, rfl, ho5, hm5, hc5⟩; have HM5 := hide hm5; clear ho5 hm5 hc5; simp only [resV])
                  go_wp2
                  go_roundg (gk - 1)
                  case measure => omega
                  case rel => exact ⟨j + 1, want, laid, by omega, by go_num, rfl, hwant, HM5.out.step (Below.al (Below.refl _ _) _)⟩
                · obtain ⟨hj1, hj2⟩ := join_fit (kind := 9) (by decide) (k := bK) (p := p) (nx := nx9) (e := ⟨want, flags, 0, laid⟩) (now := 5) (laid := laid) (by decide) trimK (by decide) (by simp [Pl.gone]) hpz hn9 hz
                  have HJ1 := hide hj1
                  have HJ2 := hide hj2
                  clear hj1 hj2
                  go_upto_region 21 with (go_at_call 10; refine (do_on (HM.out.step (by repeat (first | exact Below.refl _ _ | refine Below.al ?_ _))) HG.out h8 (okE_one ⟨by simp, by simp⟩ hwant) (joinC 9 bK p) _ _ 5 false (strs_one (by go_simp <;> rfl)) (join_small hpz) HJ2.out HJ1.out).mono ?_; rintro e w5 ⟨A5, c5, rfl, ho5, hm5, hc5⟩; have HM5 := hide hm5; clear ho5 hm5 hc5; simp only [resV])
                  go_wp2
                  go_roundg (gk - 1)
                  case measure => omega
                  case rel => exact ⟨j + 1, nx9, _, by omega, by go_num, rfl, by omega, HM5.out.step (Below.al (Below.refl _ _) _)⟩
            · clear hn9
              by_cases hz : 2000 < nx8.size
              · obtain ⟨hj1, hj2⟩ := join_big (kind := 8) (by decide) (k := bK) (p := p) (nx := nx8) (e := ⟨want, flags, 0, laid⟩) (now := 5) (laid := laid) (by decide) trimK (by decide) (by simp [Pl.gone]) hpz hn8 hz
                have HJ1 := hide hj1
                have HJ2 := hide hj2
                clear hj1 hj2
                go_upto_region 21 with (go_at_call 10; refine (do_on (HM.out.step (by repeat (first | exact Below.refl _ _ | refine Below.al ?_ _))) HG.out h8 (okE_one ⟨by simp, by simp⟩ hwant) (joinC 8 bK p) _ _ 5 false (strs_one (by go_simp <;> rfl)) (join_small hpz) HJ2.out HJ1.out).mono ?_; rintro e w5 ⟨A5, c5, rfl, ho5, hm5, hc5⟩; have HM5 := hide hm5; clear ho5 hm5 hc5; simp only [resV])
                go_wp2
                go_roundg (gk - 1)
                case measure => omega
                case rel => exact ⟨j + 1, want, laid, by omega, by go_num, rfl, hwant, HM5.out.step (Below.al (Below.refl _ _) _)⟩
              · obtain ⟨hj1, hj2⟩ := join_fit (kind := 8) (by decide) (k := bK) (p := p) (nx := nx8) (e := ⟨want, flags, 0, laid⟩) (now := 5) (laid := laid) (by decide) trimK (by decide) (by simp [Pl.gone]) hpz hn8 hz
                have HJ1 := hide hj1
                have HJ2 := hide hj2
                clear hj1 hj2
                go_upto_region 21 with (go_at_call 10; refine (do_on (HM.out.step (by repeat (first | exact Below.refl _ _ | refine Below.al ?_ _))) HG.out h8 (okE_one ⟨by simp, by simp⟩ hwant) (joinC 8 bK p) _ _ 5 false (strs_one (by go_simp <;> rfl)) (join_small hpz) HJ2.out HJ1.out).mono ?_; rintro e w5 ⟨A5, c5, rfl, ho5, hm5, hc5⟩; have HM5 := hide hm5; clear ho5 hm5 hc5; simp only [resV])
                go_wp2
                go_roundg (gk - 1)
                case measure => omega
                case rel => exact ⟨j + 1, nx8, _, by omega, by go_num, rfl, by omega, HM5.out.step (Below.al (Below.refl _ _) _)⟩
          · go_wp2
            go_ret
            exact ⟨rfl, HM.out.below⟩
        · have hgt : getN [(bK, ⟨want, flags, 0, laid⟩)] bK 5 = some ⟨want, flags, 0, laid⟩ := by rw [getN_self trimK]; rfl
          have HGT := hide hgt
          have hfd : BdE (foundN [(bK, ⟨want, flags, 0, laid⟩)] bK) := by rw [foundN_self]; constructor <;> simp
          clear hgt
          go_wp2_with (go_at_call 11; refine (get_walk _ _ _ _ bK _ _ HM.out.mod (by decide) hfd.1 hfd.2).mono ?_; rw [HGT.out]; rintro e w6 ⟨rfl, hb6⟩; have HB6 := hide hb6; clear hb6; simp only [Option.getD_some, Option.isSome_some, encE])
          go_ret
          exact ⟨rfl, by repeat (first | exact Below.step HM.out.below HB6.out | refine Below.al ?_ _)⟩
      · have hgt : getN [(bK, ⟨want, flags, 0, laid⟩)] bK 5 = some ⟨want, flags, 0, laid⟩ := by rw [getN_self trimK]; rfl
        have HGT := hide hgt
        have hfd : BdE (foundN [(bK, ⟨want, flags, 0, laid⟩)] bK) := by rw [foundN_self]; constructor <;> simp
        clear hgt
        go_wp2_with (go_at_call 11; refine (get_walk _ _ _ _ bK _ _ HM.out.mod (by decide) hfd.1 hfd.2).mono ?_; rw [HGT.out]; rintro e w6 ⟨rfl, hb6⟩; have HB6 := hide hb6; clear hb6; simp only [Option.getD_some, Option.isSome_some, encE])
        go_ret
        exact ⟨rfl, by repeat (first | exact Below.step HM.out.below HB6.out | refine Below.al ?_ _)⟩
  · go_enter Tryd.func3, Tryd.ntmps3
    go_wp2_with (first
      | (go_at_call 7; refine (works_any _ HG.out h8).mono ?_; rintro e w1 ⟨rfl, hb1⟩; have HB1 := hide hb1; clear hb1)
      | (go_at_call 8; refine (new_any _).mono ?_; rintro e w2 ⟨rfl, hm2, hb2⟩; have HM2 := hide (Below.step HB1.out hb2); clear hm2 hb2))
    go_ret
    exact ⟨rfl, HM2.out⟩
end Go.Proofs.YthcdocedpcjbeaaDoor

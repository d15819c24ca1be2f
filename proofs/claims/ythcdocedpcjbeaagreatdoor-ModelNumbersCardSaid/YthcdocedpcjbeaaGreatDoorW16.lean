/-
  The walk of the statements' works.
-/
import Derived.Test.YthcdocedpcjbeaaGreatDoorW15
import Derived.Laws.OwnMore
namespace Go.Proofs.YthcdocedpcjbeaaGreatDoor
open Go.RowKit

def bA : ByteArray := ⟨#[97]⟩
def bB : ByteArray := ⟨#[98]⟩
def b10 : ByteArray := ⟨#[49, 48]⟩
def b15 : ByteArray := ⟨#[49, 53]⟩
def b0 : ByteArray := ⟨#[48]⟩
def bX : ByteArray := ⟨#[120]⟩
def cmdK (kind : Int) (ks : List ByteArray) (delta : Int) : Cmd := ⟨kind, ks, 0, 0, ⟨#[]⟩, 0, delta, false⟩
theorem works1 : doM (setC bA b10) 1000 false [] 0 = ⟨2, [], 0, [(bA, ⟨b10, 0, 0, 1⟩)], 1⟩ := by kernel_rfl
theorem works2 : doM (cmdK 12 [bA] 5) 1000 false [(bA, ⟨b10, 0, 0, 1⟩)] 1 = ⟨7, [], 15, [(bA, ⟨b15, 0, 0, 2⟩)], 2⟩ := by kernel_rfl
theorem works3 : doM (cmdK 2 [bA, bB] 0) 1000 false [(bA, ⟨b15, 0, 0, 2⟩)] 2 = ⟨1, [⟨bA, 0, b15, 2⟩], 0, [(bA, ⟨b15, 0, 0, 2⟩)], 2⟩ := by kernel_rfl
theorem works4 : doM (cmdK 13 [bA] 100) 1000 false [(bA, ⟨b15, 0, 0, 2⟩)] 2 = ⟨7, [], 0, [(bA, ⟨b0, 0, 0, 3⟩)], 3⟩ := by kernel_rfl
theorem works5 : doM (setC bA bX) 1000 true [(bA, ⟨b0, 0, 0, 3⟩)] 3 = ⟨11, [], 0, [], 3⟩ := by kernel_rfl
theorem works6 : doM (cmdK 0 [] 0) 1000 false [] 3 = ⟨0, [], 0, [], 3⟩ := by kernel_rfl
theorem works7 : doM (cmdK 11 [bA] 0) 1000 false [] 3 = ⟨5, [], 0, [], 3⟩ := by kernel_rfl
theorem works1e : errOf (setC bA b10) 1000 = 0 := by kernel_rfl
theorem works6e : errOf (cmdK 0 [] 0) 1000 = 70 := by kernel_rfl
theorem small_of {c : Cmd} (h : (decide (c.keys.length ≤ 100) && (decide (c.val.size ≤ 100000) && (c.keys.all (fun k => decide (k.size ≤ 100000)) && (decide (0 ≤ c.delta) && (decide (-9223372036854775808 ≤ c.exp) && decide (c.exp ≤ 9223372036854775807)))))) = true) : small c := by
  simp only [Bool.and_eq_true, decide_eq_true_eq, List.all_eq_true] at h
  obtain ⟨h1, h2, h3, h4, h5, h6⟩ := h
  exact ⟨by omega, by omega, fun s hs => by have := h3 s hs; omega, h4, h5, h6⟩
theorem okE_nil : OkE [] := ⟨fun _ h => (by cases h), fun _ h => (by cases h)⟩
theorem okE_one {k : ByteArray} {e : Ent} (h : BdE e) (hv : e.val.size ≤ 2000) : OkE [(k, e)] :=
  ⟨fun p hp => by simp at hp; subst hp; exact h, fun p hp => by simp at hp; subst hp; exact hv⟩
theorem strs_two {w : World} {ad : Addr} {k k' : ByteArray} (h : w.cell? ad = some (.string k)) (h' : w.cell? (ad.add 1) = some (.string k')) : Strs w (some ad) [k, k'] := by
  intro i s hi
  match i, hi with
  | 0, hi => simp at hi; subst hi; exact ⟨ad, rfl, by simpa [Addr.add] using h⟩
  | 1, hi => simp at hi; subst hi; exact ⟨ad, rfl, h'⟩
theorem strs_nil (w : World) (A : Option Addr) : Strs w A [] := by
  intro i s hi
  simp at hi

theorem own_one {W : World} {b : Nat} {A : Option Addr} {c : Nat} {q : Hit} (h : W.ownsRow b 99 4 (.slice A 1 c) 1 (hitsC [q])) :
    ∃ g, A = some ⟨g, 0, none⟩ ∧ W.cell? ⟨g, 0, none⟩ = some (.string q.key) ∧ W.cell? ⟨g, 1, none⟩ = some (.int .u32 q.flags) ∧ W.cell? ⟨g, 2, none⟩ = some (.string q.val) ∧ W.cell? ⟨g, 3, none⟩ = some (.int .u64 q.cas) := by
  have hh := h
  rcases h.2 with ⟨_, h2⟩ | ⟨g, cp, cur, hv, _⟩
  · cases h2
  · injection hv with hA _ hc
    subst hA hc
    exact ⟨g, rfl, hh.cellAt 0 (by decide), hh.cellAt 1 (by decide), hh.cellAt 2 (by decide), hh.cellAt 3 (by decide)⟩

set_option maxRecDepth 100000 in
set_option maxHeartbeats 2000000 in
theorem works_any (w : World) (hG : Globs w) (h8 : 8 ≤ w.heap.size) : Calls Tryz.prog 10 #[] w fun e w' => e = .returned (.bool true) ∧ Below w.heap.size w w' := by
  have HG := hide hG
  clear hG
  go_enter Tryz.func10, Tryz.ntmps10
  go_upto_region 4 with (go_at_call 11; refine (new_any _).mono ?_; rintro e w1 ⟨rfl, hm1, hb1⟩; have HM1 := hide (⟨hb1, hm1, Nat.le_succ _, Nat.le_refl _⟩ : Mdl w w1 (w.heap.size + 1) w.heap.size [] 0); clear hm1 hb1)
  have HV0 := hide (Vars.nil w1 36)
  obtain ⟨U0, hU0⟩ : ∃ U0, U0 = w1 := ⟨_, rfl⟩
  rw [← hU0] at HM1 HV0 ⊢
  clear hU0
  go_upto_region 5 with (first
    | (go_at_call 39; refine (set_any _ _ _).mono ?_; rintro e v1 ⟨rfl, hs1, hb1⟩; have HK1 := hide hs1; have HB1 := hide hb1; clear hs1 hb1)
    | (go_at_call 13; refine (do_on (HM1.out.step HB1.out) HG.out h8 okE_nil (setC bA b10) _ _ 1000 false HK1.out (small_of (by decide)) works1 (err := 0) (by kernel_rfl)).mono ?_; rintro e w2 ⟨A1, c1, rfl, ho1, hm1, hc1⟩; have HVV1 := hide (Vars.chg (HV0.out.below HB1.out) (HM1.out.step HB1.out).mod (by decide) hc1); have HO1 := hide ho1; have HX1 := hide hm1; clear ho1 hm1 hc1; simp only [resV]))
  obtain ⟨U1, hU1⟩ : ∃ U1, U1 = w2.alloc (.cells #[.int .i64 2, .slice A1 0 c1, .int .u64 0] 36) := ⟨_, rfl⟩
  have HV1 : Hid (Vars U1 36 ((w2.heap.size, #[.int .i64 2, .slice A1 0 c1, .int .u64 0]) :: [])) := by rw [hU1]; exact hide (HVV1.out.new #[.int .i64 2, .slice A1 0 c1, .int .u64 0])
  have HM2 : Hid (Mdl w U1 (w.heap.size + 1) w.heap.size [(bA, ⟨b10, 0, 0, 1⟩)] 1) := by rw [hU1]; exact hide (HX1.out.step (Below.al (Below.refl _ _) _))
  rw [← hU1]
  clear hU1 HX1 HVV1
  go_upto_region 6 with (go_at_call 13; refine (do_on (HM2.out.step (Below.al (Below.refl _ _) _)) HG.out h8 (okE_one ⟨by decide, by decide⟩ (by decide)) (cmdK 12 [bA] 5) _ _ 1000 false (strs_one (by go_simp <;> rfl)) (small_of (by decide)) works2 (err := 0) (by kernel_rfl)).mono ?_; rintro e w3 ⟨A2, c2, rfl, ho2, hm2, hc2⟩; have HVV2 := hide (Vars.chg (HV1.out.below (Below.al (Below.refl _ _) _)) (HM2.out.step (Below.al (Below.refl _ _) _)).mod (by decide) hc2); have HO2 := hide ho2; have HX2 := hide hm2; clear ho2 hm2 hc2; simp only [resV])
  obtain ⟨U2, hU2⟩ : ∃ U2, U2 = w3.alloc (.cells #[.int .i64 7, .slice A2 0 c2, .int .u64 15] 36) := ⟨_, rfl⟩
  have HV2 : Hid (Vars U2 36 ((w3.heap.size, #[.int .i64 7, .slice A2 0 c2, .int .u64 15]) :: (w2.heap.size, #[.int .i64 2, .slice A1 0 c1, .int .u64 0]) :: [])) := by rw [hU2]; exact hide (HVV2.out.new #[.int .i64 7, .slice A2 0 c2, .int .u64 15])
  have HM3 : Hid (Mdl w U2 (w.heap.size + 1) w.heap.size [(bA, ⟨b15, 0, 0, 2⟩)] 2) := by rw [hU2]; exact hide (HX2.out.step (Below.al (Below.refl _ _) _))
  rw [← hU2]
  clear hU2 HX2 HVV2
  go_upto_region 7 with (go_at_call 13; refine (do_on (HM3.out.step (Below.al (Below.refl _ _) _)) HG.out h8 (okE_one ⟨by decide, by decide⟩ (by decide)) (cmdK 2 [bA, bB] 0) _ _ 1000 false (strs_two (by go_simp <;> rfl) (by go_simp <;> rfl)) (small_of (by decide)) works3 (err := 0) (by kernel_rfl)).mono ?_; rintro e w4 ⟨A3, c3, rfl, ho3, hm3, hc3⟩; have HVV3 := hide (Vars.chg (HV2.out.below (Below.al (Below.refl _ _) _)) (HM3.out.step (Below.al (Below.refl _ _) _)).mod (by decide) hc3); have HO3 := hide ho3; have HX3 := hide hm3; clear ho3 hm3 hc3; simp only [resV])
  obtain ⟨U3, hU3⟩ : ∃ U3, U3 = w4.alloc (.cells #[.int .i64 1, .slice A3 1 c3, .int .u64 0] 36) := ⟨_, rfl⟩
  have HV3 : Hid (Vars U3 36 ((w4.heap.size, #[.int .i64 1, .slice A3 1 c3, .int .u64 0]) :: (w3.heap.size, #[.int .i64 7, .slice A2 0 c2, .int .u64 15]) :: (w2.heap.size, #[.int .i64 2, .slice A1 0 c1, .int .u64 0]) :: [])) := by rw [hU3]; exact hide (HVV3.out.new #[.int .i64 1, .slice A3 1 c3, .int .u64 0])
  have HM4 : Hid (Mdl w U3 (w.heap.size + 1) w.heap.size [(bA, ⟨b15, 0, 0, 2⟩)] 2) := by rw [hU3]; exact hide (HX3.out.step (Below.al (Below.refl _ _) _))
  have HOU3 : Hid (U3.ownsRow 0 99 4 (.slice A3 1 c3) 1 (hitsC [⟨bA, 0, b15, 2⟩])) := by rw [hU3]; exact hide (own_below (own_base HO3.out (Nat.zero_le _)) (Below.al (Below.refl _ _) _))
  rw [← hU3]
  clear hU3 HX3 HVV3
  go_upto_region 8 with (go_at_call 13; refine (do_on (HM4.out.step (Below.al (Below.refl _ _) _)) HG.out h8 (okE_one ⟨by decide, by decide⟩ (by decide)) (cmdK 13 [bA] 100) _ _ 1000 false (strs_one (by go_simp <;> rfl)) (small_of (by decide)) works4 (err := 0) (by kernel_rfl)).mono ?_; rintro e w5 ⟨A4, c4, rfl, ho4, hm4, hc4⟩; have HVV4 := hide (Vars.chg (HV3.out.below (Below.al (Below.refl _ _) _)) (HM4.out.step (Below.al (Below.refl _ _) _)).mod (by decide) hc4); have HOO4 := hide (own_mr (own_below HOU3.out (Below.al (Below.refl _ _) _)) (HM4.out.step (Below.al (Below.refl _ _) _)).mod hc4); have HO4 := hide ho4; have HX4 := hide hm4; clear ho4 hm4 hc4; simp only [resV])
  obtain ⟨U4, hU4⟩ : ∃ U4, U4 = w5.alloc (.cells #[.int .i64 7, .slice A4 0 c4, .int .u64 0] 36) := ⟨_, rfl⟩
  have HV4 : Hid (Vars U4 36 ((w5.heap.size, #[.int .i64 7, .slice A4 0 c4, .int .u64 0]) :: (w4.heap.size, #[.int .i64 1, .slice A3 1 c3, .int .u64 0]) :: (w3.heap.size, #[.int .i64 7, .slice A2 0 c2, .int .u64 15]) :: (w2.heap.size, #[.int .i64 2, .slice A1 0 c1, .int .u64 0]) :: [])) := by rw [hU4]; exact hide (HVV4.out.new #[.int .i64 7, .slice A4 0 c4, .int .u64 0])
  have HM5 : Hid (Mdl w U4 (w.heap.size + 1) w.heap.size [(bA, ⟨b0, 0, 0, 3⟩)] 3) := by rw [hU4]; exact hide (HX4.out.step (Below.al (Below.refl _ _) _))
  have HOU4 := hide (own_below HOO4.out (Below.al (Below.refl _ _) (.cells #[.int .i64 7, .slice A4 0 c4, .int .u64 0] 36)))
  rw [← hU4] at HOU4
  rw [← hU4]
  clear hU4 HX4 HVV4
  go_upto_region 9 with (first
    | (go_at_call 39; refine (set_any _ _ _).mono ?_; rintro e v5 ⟨rfl, hs5, hb5⟩; have HK5 := hide hs5; have HB5 := hide hb5; clear hs5 hb5)
    | (go_at_call 13; refine (do_on (HM5.out.step HB5.out) HG.out h8 (okE_one ⟨by decide, by decide⟩ (by decide)) (setC bA bX) _ _ 1000 true HK5.out (small_of (by decide)) works5 (err := 0) (by kernel_rfl)).mono ?_; rintro e w6 ⟨A5, c5, rfl, ho5, hm5, hc5⟩; have HVV5 := hide (Vars.chg (HV4.out.below HB5.out) (HM5.out.step HB5.out).mod (by decide) hc5); have HOO5 := hide (own_mr (own_below HOU4.out HB5.out) (HM5.out.step HB5.out).mod hc5); have HO5 := hide ho5; have HX5 := hide hm5; clear ho5 hm5 hc5; simp only [resV]))
  obtain ⟨U5, hU5⟩ : ∃ U5, U5 = w6.alloc (.cells #[.int .i64 11, .slice A5 0 c5, .int .u64 0] 36) := ⟨_, rfl⟩
  have HV5 : Hid (Vars U5 36 ((w6.heap.size, #[.int .i64 11, .slice A5 0 c5, .int .u64 0]) :: (w5.heap.size, #[.int .i64 7, .slice A4 0 c4, .int .u64 0]) :: (w4.heap.size, #[.int .i64 1, .slice A3 1 c3, .int .u64 0]) :: (w3.heap.size, #[.int .i64 7, .slice A2 0 c2, .int .u64 15]) :: (w2.heap.size, #[.int .i64 2, .slice A1 0 c1, .int .u64 0]) :: [])) := by rw [hU5]; exact hide (HVV5.out.new #[.int .i64 11, .slice A5 0 c5, .int .u64 0])
  have HM6 : Hid (Mdl w U5 (w.heap.size + 1) w.heap.size [] 3) := by rw [hU5]; exact hide (HX5.out.step (Below.al (Below.refl _ _) _))
  have HOU5 := hide (own_below HOO5.out (Below.al (Below.refl _ _) (.cells #[.int .i64 11, .slice A5 0 c5, .int .u64 0] 36)))
  rw [← hU5] at HOU5
  rw [← hU5]
  clear hU5 HX5 HVV5
  go_upto_region 10 with (go_at_call 13; refine (do_on (HM6.out.step (Below.refl _ _)) HG.out h8 okE_nil (cmdK 0 [] 0) _ _ 1000 false (strs_nil _ _) (small_of (by decide)) works6 (err := 70) works6e).mono ?_; rintro e w7 ⟨A6, c6, rfl, ho6, hm6, hc6⟩; have HVV6 := hide (Vars.chg (HV5.out.below (Below.refl _ _)) (HM6.out.step (Below.refl _ _)).mod (by decide) hc6); have HOO6 := hide (own_mr (own_below HOU5.out (Below.refl _ _)) (HM6.out.step (Below.refl _ _)).mod hc6); have HO6 := hide ho6; have HX6 := hide hm6; clear ho6 hm6 hc6; simp only [resV])
  obtain ⟨U6, hU6⟩ : ∃ U6, U6 = w7.alloc (.cells #[.int .i64 0, .slice A6 0 c6, .int .u64 0] 36) := ⟨_, rfl⟩
  have HV6 : Hid (Vars U6 36 ((w7.heap.size, #[.int .i64 0, .slice A6 0 c6, .int .u64 0]) :: (w6.heap.size, #[.int .i64 11, .slice A5 0 c5, .int .u64 0]) :: (w5.heap.size, #[.int .i64 7, .slice A4 0 c4, .int .u64 0]) :: (w4.heap.size, #[.int .i64 1, .slice A3 1 c3, .int .u64 0]) :: (w3.heap.size, #[.int .i64 7, .slice A2 0 c2, .int .u64 15]) :: (w2.heap.size, #[.int .i64 2, .slice A1 0 c1, .int .u64 0]) :: [])) := by rw [hU6]; exact hide (HVV6.out.new #[.int .i64 0, .slice A6 0 c6, .int .u64 0])
  have HM7 : Hid (Mdl w U6 (w.heap.size + 1) w.heap.size [] 3) := by rw [hU6]; exact hide (HX6.out.step (Below.al (Below.refl _ _) _))
  have HOU6 := hide (own_below HOO6.out (Below.al (Below.refl _ _) (.cells #[.int .i64 0, .slice A6 0 c6, .int .u64 0] 36)))
  rw [← hU6] at HOU6
  rw [← hU6]
  clear hU6 HX6 HVV6
  go_upto_region 11 with (go_at_call 13; refine (do_on (HM7.out.step (Below.al (Below.refl _ _) _)) HG.out h8 okE_nil (cmdK 11 [bA] 0) _ _ 1000 false (strs_one (by go_simp <;> rfl)) (small_of (by decide)) works7 (err := 0) (by kernel_rfl)).mono ?_; rintro e w8 ⟨A7, c7, rfl, ho7, hm7, hc7⟩; have HVV7 := hide (Vars.chg (HV6.out.below (Below.al (Below.refl _ _) _)) (HM7.out.step (Below.al (Below.refl _ _) _)).mod (by decide) hc7); have HOO7 := hide (own_mr (own_below HOU6.out (Below.al (Below.refl _ _) _)) (HM7.out.step (Below.al (Below.refl _ _) _)).mod hc7); have HO7 := hide ho7; have HX7 := hide hm7; clear ho7 hm7 hc7; simp only [resV])
  obtain ⟨U7, hU7⟩ : ∃ U7, U7 = w8.alloc (.cells #[.int .i64 5, .slice A7 0 c7, .int .u64 0] 36) := ⟨_, rfl⟩
  have HV7 : Hid (Vars U7 36 ((w8.heap.size, #[.int .i64 5, .slice A7 0 c7, .int .u64 0]) :: (w7.heap.size, #[.int .i64 0, .slice A6 0 c6, .int .u64 0]) :: (w6.heap.size, #[.int .i64 11, .slice A5 0 c5, .int .u64 0]) :: (w5.heap.size, #[.int .i64 7, .slice A4 0 c4, .int .u64 0]) :: (w4.heap.size, #[.int .i64 1, .slice A3 1 c3, .int .u64 0]) :: (w3.heap.size, #[.int .i64 7, .slice A2 0 c2, .int .u64 15]) :: (w2.heap.size, #[.int .i64 2, .slice A1 0 c1, .int .u64 0]) :: [])) := by rw [hU7]; exact hide (HVV7.out.new #[.int .i64 5, .slice A7 0 c7, .int .u64 0])
  have HM8 : Hid (Mdl w U7 (w.heap.size + 1) w.heap.size [] 3) := by rw [hU7]; exact hide (HX7.out.step (Below.al (Below.refl _ _) _))
  have HOU7 := hide (own_below HOO7.out (Below.al (Below.refl _ _) (.cells #[.int .i64 5, .slice A7 0 c7, .int .u64 0] 36)))
  rw [← hU7] at HOU7
  rw [← hU7]
  clear hU7 HX7 HVV7
  obtain ⟨g, rfl, g0, g1, g2, g3⟩ := own_one HOU7.out
  simp only [bA, b15] at g0 g1 g2 g3
  have x1 := Blk.cell (HV7.out _ (List.Mem.tail _ (List.Mem.tail _ (List.Mem.tail _ (List.Mem.tail _ (List.Mem.tail _ (List.Mem.tail _ (List.Mem.head _))))))))
  simp only at x1
  have x2 := Blk.cell (HV7.out _ (List.Mem.tail _ (List.Mem.tail _ (List.Mem.tail _ (List.Mem.tail _ (List.Mem.tail _ (List.Mem.head _)))))))
  simp only at x2
  have x3 := Blk.cell (HV7.out _ (List.Mem.tail _ (List.Mem.tail _ (List.Mem.tail _ (List.Mem.tail _ (List.Mem.head _))))))
  simp only at x3
  have x4 := Blk.cell (HV7.out _ (List.Mem.tail _ (List.Mem.tail _ (List.Mem.tail _ (List.Mem.head _)))))
  simp only at x4
  have x5 := Blk.cell (HV7.out _ (List.Mem.tail _ (List.Mem.tail _ (List.Mem.head _))))
  simp only at x5
  have x7 := Blk.cell (HV7.out _ (List.Mem.head _))
  simp only at x7
  have HB := hide HM8.out.below
  clear HV0 HV1 HV2 HV3 HV4 HV5 HV6 HV7 HOU3 HOU4 HOU5 HOU6 HOU7 HM1 HM2 HM3 HM4 HM5 HM6 HM7 HM8 HO1 HO2 HO3 HO4 HO5 HO6 HO7
  go_wp2
  go_ret
  exact ⟨rfl, HB.out⟩
end Go.Proofs.YthcdocedpcjbeaaGreatDoor

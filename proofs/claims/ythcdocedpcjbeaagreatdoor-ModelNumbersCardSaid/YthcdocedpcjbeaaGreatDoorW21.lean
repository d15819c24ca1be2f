/-
  ModelNumbers: the walk.
-/
import Derived.Test.YthcdocedpcjbeaaGreatDoorPk
import Derived.Test.YthcdocedpcjbeaaGreatDoorW16
import Derived.Test.YthcdocedpcjbeaaGreatDoorAct
import Derived.Test.YthcdocedpcjbeaaGreatDoorGreat
import Derived.Test.YthcdocedpcjbeaaGreatDoorOwn
import Derived.Deep.RegionHeld3
namespace Go.Proofs.YthcdocedpcjbeaaGreatDoor
open Go.RowKit

theorem Mdl.far {w W : World} {m r : Nat} {l : Ents} {laid : Int} (h : Mdl w W m r l laid) {g o : Nat} (hg : w.heap.size ≤ g) (h1 : m ≠ g) (h2 : r ≠ g) (u : Value) : Mdl w (W.setCell ⟨g, o, none⟩ u) m r l laid :=
  ⟨h.below.setCell hg u, h.mod.far h1 h2 u, h.gm, h.gr⟩
/-- cells behind a command: those that are no model's. -/
theorem chg_cells {W W' : World} {m r B : Nat} (hc : Chg (fun b => b = m ∨ b = r) W W') (hm : m < B) (hr : r < B) :
    (∀ b o, b < W.heap.size → B ≤ b → W'.cell? ⟨b, o, none⟩ = W.cell? ⟨b, o, none⟩) ∧ (∀ b o, b < W.heap.size → B ≤ b → W'.frozen? ⟨b, o, none⟩ = W.frozen? ⟨b, o, none⟩) :=
  ⟨fun b o hb hB => World.cell?_of_block (a := ⟨b, o, none⟩) (hc.block b hb (by omega)), fun b o hb hB => World.frozen?_of_block (a := ⟨b, o, none⟩) (hc.block b hb (by omega))⟩

abbrev SeenAt (w : World) (g : Nat) (sl : List (Int × Bool)) : Prop := MapG (fun n : Int => Value.int .u64 n) Value.bool w g sl
theorem keyU64 : KeyEnc Tryz.prog 26 (fun n : Int => Value.int .u64 n) := keyEnc_int Tryz.underlying26
theorem zeroBool : ∀ w, (zeroValue 4).run Tryz.prog w = .ok (.bool false) w := (zero_of_info (n := 1) (by kernel_rfl)).1
theorem cell_keepG {W W' : World} {g : Nat} {sl : List (Int × Bool)} (hm : SeenAt W g sl) (hc : Chg (fun b => b = g) W W') {p : Addr} {v : Value} (hp : W.cell? p = some v) : W'.cell? p = some v := by
  have hne : p.block ≠ g := by
    intro e
    obtain ⟨es, ck, hb, _⟩ := hm
    unfold World.cell? at hp
    rw [e, hb] at hp
    cases hp
  exact (World.cell?_of_block (hc.block _ (cell_lt hp) hne)).trans hp
/-- while the keys are looked at. -/
structure InInv (w W : World) (m r gs g8 : Nat) (L : Ents) (laid code : Int) (AK : Option Addr) (sl : List (Int × Bool)) : Prop where
  mod : Mdl w W m r L laid
  seen : SeenAt W gs sl
  keys : Strs W AK (keysM L 1000)
  res : W.cell? ⟨g8, 0, none⟩ = some (.int .i64 code)
  hr : m < gs ∧ r < gs
theorem InInv.below {w W W' : World} {m r gs g8 : Nat} {L : Ents} {laid code : Int} {AK : Option Addr} {sl : List (Int × Bool)} (h : InInv w W m r gs g8 L laid code AK sl) (hb : Below W.heap.size W W') : InInv w W' m r gs g8 L laid code AK sl :=
  ⟨h.mod.step hb, h.seen.below hb, h.keys.below hb, (hb.cell (cell_lt h.res)).trans h.res, h.hr⟩
theorem InInv.chg {w W W' : World} {m r gs g8 : Nat} {L : Ents} {laid code : Int} {AK : Option Addr} {sl sl' : List (Int × Bool)} (h : InInv w W m r gs g8 L laid code AK sl) (hc : Chg (fun b => b = gs) W W') (hs : SeenAt W' gs sl') : InInv w W' m r gs g8 L laid code AK sl' := by
  have h1 := h.hr
  have h2 := h.mod.gm
  refine ⟨⟨(Chg.then_ (S := fun _ => False) (Chg.of_below h.mod.below) hc (fun i hi e => by omega)).below, h.mod.mod.chg hc (by omega) (by omega), h.mod.gm, h.mod.gr⟩, hs, fun i s hi => ?_, cell_keepG h.seen hc h.res, h.hr⟩
  obtain ⟨ad, e, hcell⟩ := h.keys i s hi
  exact ⟨ad, e, cell_keepG h.seen hc hcell⟩

theorem ActCells.below {w W' : World} {X : Addr} {a : ActG} {A : Option Addr} {cap : Nat} (h : ActCells w X a A cap) (hb : Below w.heap.size w W') : ActCells W' X a A cap := by
  have k : ∀ {p : Addr} {v : Value}, w.cell? p = some v → W'.cell? p = some v := fun hp => (hb.cell (cell_lt hp)).trans hp
  exact ⟨k h.c0, k h.c1, k h.c2, k h.c3, k h.c4, k h.c5, k h.c6, k h.c7, k h.c9⟩

theorem cas_twice {L : Ents} {laid : Int} {key : ByteArray} {x : Ent} (hN : NumInv L laid) (h0 : 0 ≤ laid) (h1 : laid ≤ 1000) (hG : getN L key 1000 = some x) : ∃ L2 laid2, errOf (casC key x.cas) 1000 = 0 ∧ small (casC key x.cas) ∧ OkE L2 ∧
    doM (casC key x.cas) 1000 false L laid = ⟨2, [], 0, L2, laid2⟩ ∧ doM (casC key x.cas) 1000 false L2 laid2 = ⟨4, [], 0, L2, laid2⟩ := by
  obtain ⟨hkey, hmem⟩ := getN_key hN hG
  have hxb := hN.bd _ hmem
  simp only at hxb
  have hu : u64 (laid + 1) = laid + 1 := u64_of (by omega) (by omega)
  exact ⟨_, _, cas_check hkey, cas_small hkey, okE_put hN.ok key (e := ⟨bNew, 0, 0, u64 (laid + 1)⟩) ⟨by simp, by simp⟩ (show bNew.size ≤ 2000 by decide), cas_first hkey hG,
    cas_again hkey (cas_found hkey) (by simp only; omega)⟩

set_option maxRecDepth 100000 in
set_option maxHeartbeats 4000000 in
theorem numbers_any (A : Option Addr) (cap : Nat) (l : List ActG) (key : ByteArray) (w : World) (hG : Globs w) (h8 : 8 ≤ w.heap.size) (hks : key.size ≤ 9223372036854775807) (hA : ActsG w A l) :
    Calls Tryz.prog 3 #[.slice A l.length cap, .string key] w fun e w' => e = .returned (.bool true) ∧ Below w.heap.size w w' := by
  have HG := hide hG
  have HA := hide hA
  clear hG hA
  go_enter Tryz.func3, Tryz.ntmps3
  go_upto_region 6 with (first
    | (go_at_call 10; refine (works_any _ HG.out h8).mono ?_; rintro e w1 ⟨rfl, hb1⟩; have HB1 := hide hb1; clear hb1)
    | (go_at_call 11; refine (new_any _).mono ?_; rintro e w2 ⟨rfl, hm2, hb2⟩; have HM2 := hide (⟨Below.step HB1.out hb2, hm2, Nat.le_succ_of_le HB1.out.size, HB1.out.size⟩ : Mdl w w2 (w1.heap.size + 1) w1.heap.size [] 0); clear hm2 hb2))
  generalize w1.heap.size = r1 at *
  go_loopg [6, 7] l.length (fun n s i wr => ∃ (j : Nat) (L : Ents) (laid : Int), n + j = l.length ∧ i = .int .i64 j ∧ s = .int .u64 laid ∧ Mdl w wr (r1 + 1) r1 L laid ∧ NumInv L laid ∧ 0 ≤ laid ∧ laid ≤ j ∧ L.length ≤ j ∧ j ≤ 40)
  case atStart => exact ⟨0, [], 0, rfl, rfl, rfl, HM2.out, NumInv.nil, Int.le_refl _, Int.le_refl _, Nat.le_refl _, by omega⟩
  case round =>
    obtain ⟨j, L, laid, hj, rfl, rfl, hM, hN, hl0, hlj, hLL, hj40⟩ := hrel
    have HM := hide hM
    have HN := hide hN
    have HLL := hide hLL
    clear hM hN hLL
    by_cases hlt : j < l.length
    · by_cases h40 : j < 40
      · obtain ⟨a, ha⟩ : ∃ a, l[j]? = some a := ⟨_, List.getElem?_eq_getElem hlt⟩
        obtain ⟨ad, hAd, hact⟩ := HA.out j a ha
        subst hAd
        obtain ⟨X, hX⟩ : ∃ X, ad.add (j * 11) = X := ⟨_, rfl⟩
        rw [hX] at hact
        obtain ⟨A1, cap1, hcs, hstr, hsm, hXw⟩ := hact.out
        have HCS := hide hcs
        have hXl : X.block < wr.heap.size := Nat.lt_of_lt_of_le hXw HM.out.below.size
        obtain ⟨q0, q1, q2, q3, q4, q5, q6, q7, q9⟩ := hcs.below HM.out.below
        have HSTR0 := hide hstr
        have HSTR := hide (hstr.below HM.out.below)
        have HSM := hide hsm
        have HLA := hide ha
        have HKL := hide (HSM.out.1)
        clear hact hstr hsm ha hcs hXw
        obtain rfl : gk = l.length - j := by omega
        obtain ⟨gr, hgr⟩ : ∃ gr, greatP a.c = gr := ⟨_, rfl⟩
        have HGR := hide hgr
        clear hgr
        cases gr
        · have hk100 := greatP_len HGR.out
          go_upto_region 10 with (go_at_call 12; refine (great_any a.c A1 cap1 _ HSTR.out HKL.out).mono ?_; rintro e w6 ⟨rfl, hb6⟩; rw [HGR.out]; have HMW := hide (HM.out.step hb6); clear hb6)
          clear q0 q1 q2 q3 q4 q5 q6 q7 q9 hXl HM HSTR
          clear wr
          obtain ⟨o, ho⟩ : ∃ o, doM a.c 1000 a.failed L laid = o := ⟨_, rfl⟩
          obtain ⟨er, her⟩ : ∃ er, errOf a.c 1000 = er := ⟨_, rfl⟩
          have HO := hide ho
          have HER := hide her
          clear ho her
          have hmW := HMW.out.mod.blk.lt
          have hrW := HMW.out.mod.map.lt
          have hwW := HMW.out.below.size
          go_cut [8, 9] (fun s8 s9 wx => ∃ g, s8 = .pointer (some ⟨g, 0, none⟩) ∧ s9 = .int .i64 er ∧ Mdl w wx (r1 + 1) r1 o.l o.laid ∧ wx.cell? ⟨g, 0, none⟩ = some (.int .i64 o.code))
          case first =>
            have hkeep : ∀ W' : World, Below w.heap.size w W' → W'.cell? X = some (.int .i64 a.c.kind) ∧ W'.cell? ⟨X.block, X.off + 1, none⟩ = some (.slice A1 a.c.keys.length cap1) ∧ W'.cell? ⟨X.block, X.off + 2, none⟩ = some (.int .u32 a.c.flags) ∧ W'.cell? ⟨X.block, X.off + 3, none⟩ = some (.int .i64 a.c.exp) ∧
                W'.cell? ⟨X.block, X.off + 4, none⟩ = some (.string a.c.val) ∧ W'.cell? ⟨X.block, X.off + 5, none⟩ = some (.int .u64 a.c.cas) ∧ W'.cell? ⟨X.block, X.off + 6, none⟩ = some (.int .u64 a.c.delta) ∧ W'.cell? ⟨X.block, X.off + 7, none⟩ = some (.bool a.c.quiet) ∧ W'.cell? ⟨X.block, X.off + 9, none⟩ = some (.bool a.failed) ∧
                Below w.heap.size w W' := fun W' hw =>
              have hc := HCS.out.below hw
              ⟨hc.c0, hc.c1, hc.c2, hc.c3, hc.c4, hc.c5, hc.c6, hc.c7, hc.c9, hw⟩
            have HKE := hide hkeep
            have HBE := hide (HMW.out.below)
            clear hkeep
            go_region_held3 (fun W' => W'.cell? X = some (.int .i64 a.c.kind) ∧ W'.cell? ⟨X.block, X.off + 1, none⟩ = some (.slice A1 a.c.keys.length cap1) ∧ W'.cell? ⟨X.block, X.off + 2, none⟩ = some (.int .u32 a.c.flags) ∧ W'.cell? ⟨X.block, X.off + 3, none⟩ = some (.int .i64 a.c.exp) ∧
                W'.cell? ⟨X.block, X.off + 4, none⟩ = some (.string a.c.val) ∧ W'.cell? ⟨X.block, X.off + 5, none⟩ = some (.int .u64 a.c.cas) ∧ W'.cell? ⟨X.block, X.off + 6, none⟩ = some (.int .u64 a.c.delta) ∧ W'.cell? ⟨X.block, X.off + 7, none⟩ = some (.bool a.c.quiet) ∧ W'.cell? ⟨X.block, X.off + 9, none⟩ = some (.bool a.failed) ∧
                Below w.heap.size w W')
              ((refine HKE.out _ ?_; repeat (first | exact HBE.out | assumption | refine Below.drew ?_ | refine Below.al ?_ _ | refine Below.setCell ?_ (by simp; omega) _ | refine Below.step ?_ (by assumption))))
              (first
                | (go_at_call 14; refine (own_any a.c A1 cap1 _ (HSTR0.out.below (by repeat (first | exact HBE.out | refine Below.drew ?_ | refine Below.al ?_ _))) (by omega)).mono ?_; rintro e w7 ⟨A7, c7, rfl, hs7, hb7⟩; have HM7 := hide (HMW.out.step (Below.step (by repeat (first | exact Below.refl _ _ | refine Below.drew ?_ | refine Below.al ?_ _)) hb7)); have HS7 := hide hs7; obtain ⟨hcc7, hff7⟩ := bcell hb7; have le7 : w6.heap.size ≤ w7.heap.size := (by first | exact hb7.size | (have h := hb7.size; simp at h; omega)); (try have lt7 : w6.heap.size < w7.heap.size := (by first | exact hb7.size | (have h := hb7.size; simp at h; omega))))
                | (go_at_call 13; refine (do_on (HM7.out.step (by repeat (first | exact Below.refl _ _ | refine Below.drew ?_ | refine Below.al ?_ _))) HG.out h8 HN.out.ok a.c _ _ 1000 a.failed (HS7.out.below (by repeat (first | exact Below.refl _ _ | refine Below.drew ?_ | refine Below.al ?_ _))) HSM.out HO.out HER.out).mono ?_; rintro e w8 ⟨A8, c8, rfl, ho8, hm8, hc8⟩; have HM8 := hide hm8; have hb8 := hm8.below; obtain ⟨hcc8, hff8⟩ := chg_cells hc8 hmW hrW; have le8 : w6.heap.size ≤ w8.heap.size := (by first | exact Nat.le_trans le7 hc8.size | (have h := hc8.size; (try simp at h); omega)); (try have lt8 : w6.heap.size < w8.heap.size := (by first | exact Nat.le_trans le7 hc8.size | (have h := hc8.size; (try simp at h); omega))); (try have lt87 : w7.heap.size < w8.heap.size := (by first | exact Nat.le_trans le7 hc8.size | (have h := hc8.size; (try simp at h); omega))); clear ho8 hm8 hc8; simp only [resV]))
            all_goals (go_wp2_with fail; go_meet)
            all_goals
              refine ⟨_, rfl, rfl, ?_, ?_⟩
              · repeat (first | with_reducible exact HM8.out | with_reducible refine Mdl.far ?_ (by omega) (by omega) (by omega) _ | refine Mdl.step ?_ (Below.al (Below.refl _ _) _))
              · go_simp
          case rest =>
            obtain ⟨g8, rfl, rfl, hm9, hg8⟩ := hcut
            have hdo := HN.out.do_ hl0 (by omega) a.c 1000 a.failed HSM.out.2.2.2.1
            have hdl := do_len a.c 1000 a.failed L laid
            rw [HO.out] at hdo hdl
            have hstE : (o.code = 2 ∨ o.code = 7) → er = 0 := fun hc => by
              by_cases he : errOf a.c 1000 = 0
              · rw [← HER.out]; exact he
              · have : (doM a.c 1000 a.failed L laid).code = 0 := by unfold doM; rw [if_neg he]
                rw [HO.out] at this
                omega
            have HSTE := hide hstE
            have HN9 := hide hdo.1
            have HLD := hide hdo.2
            have HDL := hide (Nat.le_trans hdl (Nat.succ_le_succ HLL.out))
            have HM9 := hide hm9
            have hlb : laid ≤ o.laid ∧ o.laid ≤ laid + 1 := by rw [hdo.2]; split <;> omega
            have hl100 : o.l.length ≤ 1000000 := by have := HLL.out; omega
            have hmk := @run_makeMap Tryz.prog
            have hgl := cell_lt hg8
            clear hdo hdl hm9 hstE
            go_upto_region 12 with (go_at_call 15; refine (mkeys_any _ _ o.l o.laid 1000 _ HM9.out.mod HN9.out.ok.1 hl100).mono ?_; rintro e w10 ⟨AK, cK, rfl, hsK, hb10⟩; have HK10 := hide hsK; have HM10 := hide (HM9.out.step hb10); have HR10 := hide ((hb10.cell hgl).trans hg8); clear hsK hb10)
            go_upto_region 15 with fail
            have hI0 : InInv w (w10.alloc (.map #[] 0)) (r1 + 1) r1 w10.heap.size g8 o.l o.laid o.code AK [] :=
              ⟨HM10.out.step (Below.al (Below.refl _ _) _), MapG.made w10, HK10.out.below (Below.al (Below.refl _ _) _), ((Below.al (Below.refl w10.heap.size w10) (.map #[] 0)).cell (cell_lt HR10.out)).trans HR10.out, HM10.out.mod.blk.lt, HM10.out.mod.map.lt⟩
            have HI0 := hide hI0
            generalize w10.alloc (.map #[] 0) = W11 at *
            generalize w10.heap.size = gs at *
            clear hI0 hmk HM10 HK10 HR10 HM9 hg8 hgl
            obtain ⟨nk, hnk⟩ : ∃ nk, (keysM o.l 1000).length = nk := ⟨_, rfl⟩
            have HNK := hide hnk
            have hnkb : nk ≤ 1000000 := by
              have h1 := keysM_length o.l 1000
              have h2 : (keysL o.l 1000).length ≤ o.l.length := by unfold keysL; rw [List.length_map]; exact List.length_filter_le _ _
              omega
            rw [hnk]
            clear hnk
            obtain ⟨gk0, hgk0⟩ : ∃ gk0, gk0 = l.length - j := ⟨_, rfl⟩
            go_loopg [12, 13] nk (fun n s12 s13 wx => ∃ (k : Nat) (sl : List (Int × Bool)) (mo : Int), n + k = nk ∧ s13 = .int .i64 k ∧ s12 = .int .u64 mo ∧ InInv w wx (r1 + 1) r1 gs g8 o.l o.laid o.code AK sl ∧ Seen o.l 1000 k sl ∧ laid ≤ mo ∧ mo ≤ o.laid)
            case atStart => exact ⟨0, [], laid, rfl, rfl, rfl, HI0.out, Seen.start _ _, Int.le_refl _, hlb.1⟩
            case round =>
              obtain ⟨k, sl, mo, hk, rfl, rfl, hI, hSe, hmo1, hmo2⟩ := hrel
              have HI := hide hI
              have HSE := hide hSe
              clear hI hSe
              by_cases hkn : k < nk
              · obtain ⟨kk, hkk⟩ : ∃ kk, (keysM o.l 1000)[k]? = some kk := ⟨_, List.getElem?_eq_getElem (by rw [HNK.out]; exact hkn)⟩
                obtain ⟨x, hx, hxm⟩ := keysM_get HN9.out hkk
                obtain ⟨adk, hAdk, hcellk⟩ := HI.out.keys k kk hkk
                subst hAdk
                have hxb := HN9.out.bd _ hxm
                have hxk := (key_size (HN9.out.key _ hxm)).2
                simp only at hxb hxk
                have hfd := HN9.out.ok.1.found kk
                have HKK := hide hkk
                have HX := hide hx
                clear hkk hx hxm
                go_upto_region 18 with (go_at_call 16; refine (get_walk _ _ _ _ kk _ _ HI.out.mod.mod (by omega) hfd.1 hfd.2).mono ?_; rw [HX.out]; rintro e w12 ⟨rfl, hb12⟩; have HB12 := hide hb12; clear hb12; simp only [Option.getD_some, Option.isSome_some, encE])
                obtain ⟨W12, hW12⟩ : ∃ W12, W12 = w12.alloc (.cells #[.string x.val, .int .u32 x.flags, .int .i64 x.exp, .int .u64 x.cas] 44) := ⟨_, rfl⟩
                have hI12 : InInv w W12 (r1 + 1) r1 gs g8 o.l o.laid o.code (some adk) sl := by rw [hW12]; exact (HI.out.below HB12.out).below (Below.al (Below.refl _ _) _)
                have hc14 : W12.cell? ⟨w12.heap.size, 3, none⟩ = some (.int .u64 x.cas) := by rw [hW12]; exact (Blk.new w12 44 #[.string x.val, .int .u32 x.flags, .int .i64 x.exp, .int .u64 x.cas]).cell 3
                rw [← hW12]
                generalize w12.heap.size = g14 at *
                have hfr := HSE.out.fresh HN9.out HKK.out HX.out
                have hlook := run_lookupG keyU64 Tryz.underlying42 (z := false) zeroBool W12 hI12.seen x.cas false
                rw [hfr] at hlook
                simp only [Bool.false_eq_true, if_false, Option.getD_none] at hlook
                obtain ⟨w13, hupd, hs13, hc13⟩ := run_updateG keyU64 Tryz.underlying42 W12 hI12.seen x.cas true
                have hc15 := cell_keepG hI12.seen hc13 hc14
                have HI13 := hide (hI12.chg hc13 hs13)
                have HS13 := hide (HSE.out.step HKK.out HX.out hfr)
                have hx0 : ¬ x.cas = 0 := by omega
                have hxt : ¬ laid + 1 < x.cas := by omega
                have hwr : IntKind.u64.wrap (laid + 1) = laid + 1 := u64_of (by omega) (by omega)
                have hm3 : laid ≤ max mo x.cas ∧ max mo x.cas ≤ o.laid := by omega
                clear hW12 hI12 hs13 hc13 hfr HB12
                go_wp2
                go_roundg (gk - 1)
                case measure => omega
                case rel => exact ⟨k + 1, _, _, by omega, by go_num, rfl, HI13.out, HS13.out, hm3.1, hm3.2⟩
              · have hst0 : Hid (k = nk) := hide (by omega)
                by_cases hst : o.code = 2 ∨ o.code = 7
                · have he0 := HSTE.out hst
                  have hld : o.laid = laid + 1 := by rw [HLD.out, if_pos hst]
                  have hwr : IntKind.u64.wrap (laid + 1) = laid + 1 := u64_of (by omega) (by omega)
                  have hres := HI.out.res
                  have hcc : (o.code == 2) = true ∨ ((o.code == 2) = false ∧ (o.code == 7) = true) := by rcases hst with h | h <;> rw [h] <;> decide
                  clear hst
                  rcases hcc with k2 | ⟨k2, k7⟩
                  all_goals
                    go_wp2
                    go_roundg (gk0 - 1)
                    case measure => omega
                    case rel => exact ⟨j + 1, o.l, o.laid, by omega, by go_num, by rw [hld], HI.out.mod, HN9.out, by omega, by omega, by have := HDL.out; omega, by omega⟩
                · have hld : o.laid = laid := by rw [HLD.out, if_neg hst]
                  have hres := HI.out.res
                  have k2 : (o.code == 2) = false := by simp; omega
                  have k7 : (o.code == 7) = false := by simp; omega
                  have hmo3 : ¬ laid < mo := by omega
                  by_cases he0 : er = 0
                  · go_wp2
                    go_roundg (gk0 - 1)
                    case measure => omega
                    case rel => exact ⟨j + 1, o.l, o.laid, by omega, by go_num, by rw [hld], HI.out.mod, HN9.out, by omega, by omega, by have := HDL.out; omega, by omega⟩
                  · have k0 : (er == 0) = false := by simpa using he0
                    go_wp2
                    go_roundg (gk0 - 1)
                    case measure => omega
                    case rel => exact ⟨j + 1, o.l, o.laid, by omega, by go_num, by rw [hld], HI.out.mod, HN9.out, by omega, by omega, by have := HDL.out; omega, by omega⟩
        · go_wp2_with (go_at_call 12; refine (great_any a.c A1 cap1 _ HSTR.out HKL.out).mono ?_; rintro e w6 ⟨rfl, hb6⟩; rw [HGR.out]; have HMW := hide (HM.out.step hb6); clear hb6)
          go_ret
          exact ⟨rfl, HMW.out.below⟩
      · obtain ⟨G, hG1⟩ : ∃ G, getN L key 1000 = G := ⟨_, rfl⟩
        have hfd := HN.out.ok.1.found key
        cases G with
        | none =>
          have HG1 := hide hG1
          clear hG1
          go_wp2_with (go_at_call 16; refine (get_walk _ _ _ _ key _ _ HM.out.mod hks hfd.1 hfd.2).mono ?_; rw [HG1.out]; rintro e w7 ⟨rfl, hb7⟩; have HB7 := hide hb7; clear hb7; simp only [Option.getD_none, Option.isSome_none, encE, zeroE])
          go_ret
          exact ⟨rfl, Below.al (Below.step HM.out.below HB7.out) _⟩
        | some x =>
          obtain ⟨L2, laid2, e1, e2, e3, e4, e5⟩ := cas_twice HN.out hl0 (by omega) hG1
          have HG1 := hide hG1
          have E1 := hide e1
          have E2 := hide e2
          have E3 := hide e3
          have E4 := hide e4
          have E5 := hide e5
          clear hG1 e1 e2 e3 e4 e5
          go_upto_region 30 with (go_at_call 16; refine (get_walk _ _ _ _ key _ _ HM.out.mod hks hfd.1 hfd.2).mono ?_; rw [HG1.out]; rintro e w7 ⟨rfl, hb7⟩; have HB7 := hide hb7; clear hb7; simp only [Option.getD_some, Option.isSome_some, encE])
          obtain ⟨W, hW⟩ : ∃ W, W = ((w7.alloc (.cells #[.string x.val, .int .u32 x.flags, .int .i64 x.exp, .int .u64 x.cas] 44)).alloc (.cells #[.string key] 9)).alloc (.cells (cmdCells (casC key x.cas) (some ⟨w7.heap.size + 1, 0, none⟩) 1) 31) := ⟨_, rfl⟩
          have hbW : Below wr.heap.size wr W := by rw [hW]; exact Below.al (Below.al (Below.al HB7.out _) _) _
          have HMW := hide (HM.out.step hbW)
          have hSW : Strs W (some ⟨w7.heap.size + 1, 0, none⟩) [key] := by rw [hW]; exact strs_one (by go_simp)
          have HCW : Hid (Vars W 31 [(w7.heap.size + 1 + 1, cmdCells (casC key x.cas) (some ⟨w7.heap.size + 1, 0, none⟩) 1)]) := by
            rw [hW]
            have := (Vars.nil ((w7.alloc (.cells #[.string x.val, .int .u32 x.flags, .int .i64 x.exp, .int .u64 x.cas] 44)).alloc (.cells #[.string key] 9)) 31).new (cmdCells (casC key x.cas) (some ⟨w7.heap.size + 1, 0, none⟩) 1)
            have e : ((w7.alloc (.cells #[.string x.val, .int .u32 x.flags, .int .i64 x.exp, .int .u64 x.cas] 44)).alloc (.cells #[.string key] 9)).heap.size = w7.heap.size + 1 + 1 := by simp
            rw [e] at this
            exact hide this
          have HSW := hide hSW
          have hWc := hW
          simp only [cmdCells, casC, bNew, List.length_singleton] at hWc
          rw [← hWc]
          clear hW hWc hbW hSW HB7
          generalize w7.heap.size + 1 + 1 = g18 at *
          generalize w7.heap.size + 1 = gk8 at *
          have c18 := (HCW.out _ (List.Mem.head _)).cell
          simp only [cmdCells, casC, bNew, List.length_singleton] at c18
          go_upto_region 31 with (go_at_call 13; refine (do_on HMW.out HG.out h8 HN.out.ok (casC key x.cas) _ _ 1000 false HSW.out E2.out E4.out E1.out).mono ?_; rintro e w8 ⟨A8, c8, rfl, ho8, hm8, hc8⟩; have HM8 := hide hm8; have HC8 := hide (Vars.chg HCW.out HMW.out.mod (by decide) hc8); have HS8 := hide (strs_mr HSW.out HMW.out.mod hc8); clear ho8 hm8 hc8; simp only [resV])
          clear c18
          obtain ⟨W9, hW9⟩ : ∃ W9, W9 = w8.alloc (.cells #[.int .i64 2, .slice A8 0 c8, .int .u64 0] 36) := ⟨_, rfl⟩
          have HM9 : Hid (Mdl w W9 (r1 + 1) r1 L2 laid2) := by rw [hW9]; exact hide (HM8.out.step (Below.al (Below.refl _ _) _))
          have HV9 : Hid (Vars W9 36 [(w8.heap.size, #[.int .i64 2, .slice A8 0 c8, .int .u64 0])]) := by rw [hW9]; exact hide ((Vars.nil w8 36).new _)
          have HC9 : Hid (Vars W9 31 [(g18, cmdCells (casC key x.cas) (some ⟨gk8, 0, none⟩) 1)]) := by rw [hW9]; exact hide (HC8.out.below (Below.al (Below.refl _ _) _))
          have HS9 : Hid (Strs W9 (some ⟨gk8, 0, none⟩) [key]) := by rw [hW9]; exact hide (HS8.out.below (Below.al (Below.refl _ _) _))
          rw [← hW9]
          clear hW9
          generalize w8.heap.size = g19 at *
          have c18 := (HC9.out _ (List.Mem.head _)).cell
          simp only [cmdCells, casC, bNew, List.length_singleton] at c18
          go_upto_region 32 with (go_at_call 13; refine (do_on HM9.out HG.out h8 E3.out (casC key x.cas) _ _ 1000 false HS9.out E2.out E5.out E1.out).mono ?_; rintro e w10 ⟨A10, c10, rfl, ho10, hm10, hc10⟩; have HM10 := hide hm10; have HV10 := hide (Vars.chg HV9.out HM9.out.mod (by decide) hc10); clear ho10 hm10 hc10; simp only [resV])
          have hv19 := HV10.out _ (List.Mem.head _)
          have c19 := hv19.cell
          simp only at c19
          have l19 := hv19.lt
          simp only at l19
          go_wp2
          go_ret
          exact ⟨rfl, Below.al HM10.out.below _⟩
    · obtain ⟨G, hG1⟩ : ∃ G, getN L key 1000 = G := ⟨_, rfl⟩
      have hfd := HN.out.ok.1.found key
      cases G with
      | none =>
        have HG1 := hide hG1
        clear hG1
        go_wp2_with (go_at_call 16; refine (get_walk _ _ _ _ key _ _ HM.out.mod hks hfd.1 hfd.2).mono ?_; rw [HG1.out]; rintro e w7 ⟨rfl, hb7⟩; have HB7 := hide hb7; clear hb7; simp only [Option.getD_none, Option.isSome_none, encE, zeroE])
        go_ret
        exact ⟨rfl, Below.al (Below.step HM.out.below HB7.out) _⟩
      | some x =>
        obtain ⟨L2, laid2, e1, e2, e3, e4, e5⟩ := cas_twice HN.out hl0 (by omega) hG1
        have HG1 := hide hG1
        have E1 := hide e1
        have E2 := hide e2
        have E3 := hide e3
        have E4 := hide e4
        have E5 := hide e5
        clear hG1 e1 e2 e3 e4 e5
        go_upto_region 30 with (go_at_call 16; refine (get_walk _ _ _ _ key _ _ HM.out.mod hks hfd.1 hfd.2).mono ?_; rw [HG1.out]; rintro e w7 ⟨rfl, hb7⟩; have HB7 := hide hb7; clear hb7; simp only [Option.getD_some, Option.isSome_some, encE])
        obtain ⟨W, hW⟩ : ∃ W, W = ((w7.alloc (.cells #[.string x.val, .int .u32 x.flags, .int .i64 x.exp, .int .u64 x.cas] 44)).alloc (.cells #[.string key] 9)).alloc (.cells (cmdCells (casC key x.cas) (some ⟨w7.heap.size + 1, 0, none⟩) 1) 31) := ⟨_, rfl⟩
        have hbW : Below wr.heap.size wr W := by rw [hW]; exact Below.al (Below.al (Below.al HB7.out _) _) _
        have HMW := hide (HM.out.step hbW)
        have hSW : Strs W (some ⟨w7.heap.size + 1, 0, none⟩) [key] := by rw [hW]; exact strs_one (by go_simp)
        have HCW : Hid (Vars W 31 [(w7.heap.size + 1 + 1, cmdCells (casC key x.cas) (some ⟨w7.heap.size + 1, 0, none⟩) 1)]) := by
          rw [hW]
          have := (Vars.nil ((w7.alloc (.cells #[.string x.val, .int .u32 x.flags, .int .i64 x.exp, .int .u64 x.cas] 44)).alloc (.cells #[.string key] 9)) 31).new (cmdCells (casC key x.cas) (some ⟨w7.heap.size + 1, 0, none⟩) 1)
          have e : ((w7.alloc (.cells #[.string x.val, .int .u32 x.flags, .int .i64 x.exp, .int .u64 x.cas] 44)).alloc (.cells #[.string key] 9)).heap.size = w7.heap.size + 1 + 1 := by simp
          rw [e] at this
          exact hide this
        have HSW := hide hSW
        have hWc := hW
        simp only [cmdCells, casC, bNew, List.length_singleton] at hWc
        rw [← hWc]
        clear hW hWc hbW hSW HB7
        generalize w7.heap.size + 1 + 1 = g18 at *
        generalize w7.heap.size + 1 = gk8 at *
        have c18 := (HCW.out _ (List.Mem.head _)).cell
        simp only [cmdCells, casC, bNew, List.length_singleton] at c18
        go_upto_region 31 with (go_at_call 13; refine (do_on HMW.out HG.out h8 HN.out.ok (casC key x.cas) _ _ 1000 false HSW.out E2.out E4.out E1.out).mono ?_; rintro e w8 ⟨A8, c8, rfl, ho8, hm8, hc8⟩; have HM8 := hide hm8; have HC8 := hide (Vars.chg HCW.out HMW.out.mod (by decide) hc8); have HS8 := hide (strs_mr HSW.out HMW.out.mod hc8); clear ho8 hm8 hc8; simp only [resV])
        clear c18
        obtain ⟨W9, hW9⟩ : ∃ W9, W9 = w8.alloc (.cells #[.int .i64 2, .slice A8 0 c8, .int .u64 0] 36) := ⟨_, rfl⟩
        have HM9 : Hid (Mdl w W9 (r1 + 1) r1 L2 laid2) := by rw [hW9]; exact hide (HM8.out.step (Below.al (Below.refl _ _) _))
        have HV9 : Hid (Vars W9 36 [(w8.heap.size, #[.int .i64 2, .slice A8 0 c8, .int .u64 0])]) := by rw [hW9]; exact hide ((Vars.nil w8 36).new _)
        have HC9 : Hid (Vars W9 31 [(g18, cmdCells (casC key x.cas) (some ⟨gk8, 0, none⟩) 1)]) := by rw [hW9]; exact hide (HC8.out.below (Below.al (Below.refl _ _) _))
        have HS9 : Hid (Strs W9 (some ⟨gk8, 0, none⟩) [key]) := by rw [hW9]; exact hide (HS8.out.below (Below.al (Below.refl _ _) _))
        rw [← hW9]
        clear hW9
        generalize w8.heap.size = g19 at *
        have c18 := (HC9.out _ (List.Mem.head _)).cell
        simp only [cmdCells, casC, bNew, List.length_singleton] at c18
        go_upto_region 32 with (go_at_call 13; refine (do_on HM9.out HG.out h8 E3.out (casC key x.cas) _ _ 1000 false HS9.out E2.out E5.out E1.out).mono ?_; rintro e w10 ⟨A10, c10, rfl, ho10, hm10, hc10⟩; have HM10 := hide hm10; have HV10 := hide (Vars.chg HV9.out HM9.out.mod (by decide) hc10); clear ho10 hm10 hc10; simp only [resV])
        have hv19 := HV10.out _ (List.Mem.head _)
        have c19 := hv19.cell
        simp only at c19
        have l19 := hv19.lt
        simp only at l19
        go_wp2
        go_ret
        exact ⟨rfl, Below.al HM10.out.below _⟩
end Go.Proofs.YthcdocedpcjbeaaGreatDoor

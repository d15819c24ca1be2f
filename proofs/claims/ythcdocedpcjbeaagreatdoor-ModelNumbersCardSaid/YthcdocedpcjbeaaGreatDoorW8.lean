/-
  The walk of the model's Drop.
-/
import Derived.Test.YthcdocedpcjbeaaGreatDoorW7
namespace Go.Proofs.YthcdocedpcjbeaaGreatDoor
open Go.RowKit

/-- does Drop find an entry? -/
def hasN (l : Ents) (k : ByteArray) : Bool := (posE k l 0).isSome && decide (trim (nm k) = k)
def dropM (l : Ents) (k : ByteArray) : Ents := if hasN l k then dropN l k else l

theorem ModelAt.ne {w : World} {m r : Nat} {l : Ents} {n : Int} (h : ModelAt w m r l n) : m ≠ r := by
  rintro rfl
  have h1 := h.blk
  obtain ⟨es, c, hb, _⟩ := h.map
  unfold Blk at h1
  rw [h1] at hb
  cases hb

set_option maxRecDepth 100000 in
set_option maxHeartbeats 1000000 in
theorem drop_walk (m r : Nat) (l : Ents) (laid : Int) (k : ByteArray) (w : World) (h : ModelAt w m r l laid) (hk : k.size ≤ 9223372036854775807) :
    Calls Tryz.prog 44 #[.pointer (some ⟨m, 0, none⟩), .string k] w fun e w' =>
      e = .returned (.bool (hasN l k)) ∧ ModelAt w' m r (dropM l k) laid ∧ Chg (fun b => b = r) w w' := by
  obtain ⟨G, hG⟩ : ∃ G, hasN l k = G := ⟨_, rfl⟩
  obtain ⟨L, hL⟩ : ∃ L, dropM l k = L := ⟨_, rfl⟩
  rw [hG, hL]
  unfold dropM at hL
  rw [hG] at hL
  unfold hasN at hG
  have hlook := fun W (h : MapIs W r l) => run_lookupN W h k
  generalize ((posE k l 0).map (·.2)).getD zeroE = x at *
  generalize (posE k l 0).isSome = b at *
  have HG := hide hG
  have HL := hide hL
  have HM0 := hide h
  simp only [encE] at hlook
  have hc0 := h.c0
  have hlt := h.blk.lt
  have hmap := h.map
  clear h hG hL
  go_enter Tryz.func44, Tryz.ntmps44
  go_upto_region 1 with fail
  go_cut [5, 6] (fun s5 s6 wx => s6 = .bool b ∧ Below w.heap.size w wx)
  case first =>
    go_region_held3 (fun w' => w'.cell? ⟨m, 0, none⟩ = some (.map (some r)) ∧ MapIs w' r l ∧ Below w.heap.size w w')
      ((refine HM0.out.keep ?_; repeat (first | exact (‹_ ∧ _ ∧ _›).2.2 | exact Below.refl _ _ | refine Below.drew ?_ | refine Below.al ?_ _ | refine Below.setCell ?_ (by simp) _ | refine Below.step ?_ (by assumption))))
      (first
      | (go_at_call 45; refine (named_any k _ hk).mono ?_; rintro e w1 ⟨rfl, hb1⟩; obtain ⟨hcc1, hff1⟩ := bcell hb1))
    all_goals (go_wp2_with fail; go_meet)
    all_goals
      refine ⟨rfl, ?_⟩
      repeat (first | exact (‹_ ∧ _ ∧ _›).2.2 | exact Below.refl _ _ | refine Below.drew ?_ | refine Below.al ?_ _ | refine Below.setCell ?_ (by simp) _ | refine Below.step ?_ (by assumption))
  case rest =>
    obtain ⟨rfl, hbc⟩ := hcut
    have HBC := hide hbc
    have hsz : (trim (nm k)).size ≤ 9223372036854775807 := trim_le _ (by rw [nm_length]; omega)
    clear hbc hlook
    cases b
    · have hg : G = false := by simpa using HG.out.symm
      subst hg
      have hl : L = l := by simpa using HL.out.symm
      subst hl
      go_wp2
      go_ret
      exact ⟨rfl, HM0.out.below HBC.out, Chg.of_below HBC.out⟩
    · by_cases ht : trim (nm k) = k
      · have ht1 : ((trim (nm k)).toList == k.toList) = true := by rw [toList_beq, decide_eq_true ht]
        have hg : G = true := by simpa [ht] using HG.out.symm
        subst hg
        have hl : L = dropN l k := by simpa using HL.out.symm
        subst hl
        clear ht
        go_upto_region 4 with (first
          | (go_at_call 45; refine (named_any k _ hk).mono ?_; rintro e w2 ⟨rfl, hb2⟩; have HB2 := hide (Below.step HBC.out hb2); clear hb2)
          | (go_at_call 48; refine (key_any (nm k) (nm_length k) _).mono ?_; rintro e w3 ⟨rfl, hb3⟩; have HB3 := hide (Below.step HB2.out hb3); clear hb3))
        have hM3 := HM0.out.below HB3.out
        have hc3 := hM3.c0
        have hn := hM3.ne
        have HM3 := hide hM3
        clear hM3
        go_region_held3 (fun w' => w'.cell? ⟨m, 0, none⟩ = some (.map (some r)))
          ((first | assumption | (simp only [World.cell?_drew]; assumption)))
          (first
          | (go_at_call 45; refine (named_any k _ hk).mono ?_; rintro e w4 ⟨rfl, hb4⟩; have hM4 := HM3.out.dr.below hb4; have hc4 := hM4.c0; obtain ⟨w5, hdel, hm5, hch5⟩ := run_deleteN w4 hM4.map k; have hc5 : w5.cell? ⟨m, 0, none⟩ = some (.map (some r)) := (hM4.blk.chg hch5 (fun h => hM4.ne h)).cell 0; have HM4 := hide hM4; have HC5 := hide hch5; have HB4 := hide (Below.step (Below.drew HB3.out) hb4); clear hb4 hM4 hch5))
        go_wp2
        go_ret
        exact ⟨rfl, ⟨HM4.out.blk.chg HC5.out (fun h => HM4.out.ne h), hm5⟩, (Chg.of_below HB4.out).trans HC5.out⟩
      · have ht1 : ((trim (nm k)).toList == k.toList) = false := by rw [toList_beq, decide_eq_false ht]
        have hg : G = false := by simpa [ht] using HG.out.symm
        subst hg
        have hl : L = l := by simpa using HL.out.symm
        subst hl
        clear ht
        go_wp2_with (first
          | (go_at_call 45; refine (named_any k _ hk).mono ?_; rintro e w2 ⟨rfl, hb2⟩; have HB2 := hide (Below.step HBC.out hb2); clear hb2)
          | (go_at_call 48; refine (key_any (nm k) (nm_length k) _).mono ?_; rintro e w3 ⟨rfl, hb3⟩; have HB3 := hide (Below.step HB2.out hb3); clear hb3))
        go_ret
        exact ⟨rfl, HM0.out.below HB3.out, Chg.of_below HB3.out⟩
end Go.Proofs.YthcdocedpcjbeaaGreatDoor

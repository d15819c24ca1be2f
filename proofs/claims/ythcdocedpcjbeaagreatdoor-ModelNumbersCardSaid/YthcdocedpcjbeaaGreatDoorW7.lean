/-
  The walks of the model's Get and Drop.
-/
import Derived.Test.YthcdocedpcjbeaaGreatDoorW1
import Derived.Test.YthcdocedpcjbeaaGreatDoorW6
import Derived.Deep.DeepCutAuto
import Derived.Deep.RegionWith
import Derived.Deep.RegionHeld3
namespace Go.Proofs.YthcdocedpcjbeaaGreatDoor
open Go.RowKit

/-- The model at block m: its map at block r, and its count. -/
structure ModelAt (w : World) (m r : Nat) (l : Ents) (laid : Int) : Prop where
  blk : Blk w m 102 #[.map (some r), .int .u64 laid]
  map : MapIs w r l

theorem ModelAt.chg {S : Nat → Prop} {w w' : World} {m r : Nat} {l : Ents} {n : Int} (h : ModelAt w m r l n) (hc : Chg S w w') (h1 : ¬ S m) (h2 : ¬ S r) : ModelAt w' m r l n :=
  ⟨h.blk.chg hc h1, h.map.chg hc h2⟩
theorem ModelAt.below {w w' : World} {m r : Nat} {l : Ents} {n : Int} (h : ModelAt w m r l n) (hc : Below w.heap.size w w') : ModelAt w' m r l n :=
  ⟨h.blk.below hc, h.map.below hc⟩
theorem ModelAt.drew {w : World} {m r : Nat} {l : Ents} {n : Int} (h : ModelAt w m r l n) : ModelAt w.drew m r l n := ⟨h.blk, h.map⟩

theorem ModelAt.al {w : World} {m r : Nat} {l : Ents} {n : Int} (h : ModelAt w m r l n) (o : Obj) : ModelAt (w.alloc o) m r l n := h.below ((Below.refl _ _).alloc (Nat.le_refl _) _)
theorem ModelAt.dr {w : World} {m r : Nat} {l : Ents} {n : Int} (h : ModelAt w m r l n) : ModelAt w.drew m r l n := ⟨h.blk, h.map⟩
theorem ModelAt.drN {w : World} {m r : Nat} {l : Ents} {n : Int} (h : ModelAt w m r l n) (k : Nat) : ModelAt (w.drewN k) m r l n := ⟨h.blk, h.map⟩
theorem ModelAt.c0 {w : World} {m r : Nat} {l : Ents} {n : Int} (h : ModelAt w m r l n) : w.cell? ⟨m, 0, none⟩ = some (.map (some r)) := h.blk.cell 0
theorem ModelAt.c1 {w : World} {m r : Nat} {l : Ents} {n : Int} (h : ModelAt w m r l n) : w.cell? ⟨m, 1, none⟩ = some (.int .u64 n) := h.blk.cell 1
theorem bcell {W w1 : World} (hb : Below W.heap.size W w1) : (∀ b o, b < W.heap.size → w1.cell? ⟨b, o, none⟩ = W.cell? ⟨b, o, none⟩) ∧ (∀ b o, b < W.heap.size → w1.frozen? ⟨b, o, none⟩ = W.frozen? ⟨b, o, none⟩) :=
  ⟨fun b o h => hb.cell (p := ⟨b, o, none⟩) h, fun b o h => hb.frozen (p := ⟨b, o, none⟩) h⟩
@[go_sem] theorem MapIs.alloc' {w : World} {r : Nat} {l : Ents} (h : MapIs w r l) (o : Obj) : MapIs (w.alloc o) r l = True := by
  simp; exact h.below ((Below.refl _ _).alloc (Nat.le_refl _) o)
@[go_sem] theorem MapIs.drew' {w : World} {r : Nat} {l : Ents} (h : MapIs w r l) : MapIs w.drew r l = True := by
  simp; exact h
@[go_sem] theorem MapIs.drewN' {w : World} {r : Nat} {l : Ents} (h : MapIs w r l) (n : Nat) : MapIs (w.drewN n) r l = True := by
  simp; exact h

theorem Blk.rules {w : World} {g : Nat} {t : TypeId} {cs : Array Value} (h : Blk w g t cs) : (∀ i, w.cell? ⟨g, i, none⟩ = cs[i]?) ∧ (∀ i, w.frozen? ⟨g, i, none⟩ = false) ∧ g < w.heap.size :=
  ⟨h.cell, h.frozen, h.lt⟩
/-- Four cells in a row, from a block's head on. -/
structure Cells4 (w : World) (g : Nat) (v0 v1 v2 v3 : Value) : Prop where
  c0 : w.cell? ⟨g, 0, none⟩ = some v0
  c1 : w.cell? ⟨g, 1, none⟩ = some v1
  c2 : w.cell? ⟨g, 2, none⟩ = some v2
  c3 : w.cell? ⟨g, 3, none⟩ = some v3
theorem Cells4.below {w w' : World} {g : Nat} {v0 v1 v2 v3 : Value} (h : Cells4 w g v0 v1 v2 v3) (hb : Below w.heap.size w w') : Cells4 w' g v0 v1 v2 v3 := by
  have hg := cell_lt h.c0
  exact ⟨(hb.cell (p := ⟨g, 0, none⟩) hg).trans h.c0, (hb.cell (p := ⟨g, 1, none⟩) hg).trans h.c1, (hb.cell (p := ⟨g, 2, none⟩) hg).trans h.c2, (hb.cell (p := ⟨g, 3, none⟩) hg).trans h.c3⟩
/-- While Get runs: the result's variable, and the entry's. -/
structure GetInv (w W : World) (g : Nat) (x : Ent) : Prop where
  below : Below w.heap.size w W
  res : Blk W w.heap.size 44 #[.string ⟨#[]⟩, .int .u32 0, .int .i64 0, .int .u64 0]
  ent : Cells4 W g (.string x.val) (.int .u32 x.flags) (.int .i64 x.exp) (.int .u64 x.cas)
theorem GetInv.step {w W W' : World} {g : Nat} {x : Ent} (h : GetInv w W g x) (hb : Below W.heap.size W W') : GetInv w W' g x :=
  ⟨h.below.trans (hb.mono h.below.size), h.res.below hb, h.ent.below hb⟩
theorem GetInv.facts {w W : World} {g : Nat} {x : Ent} (h : GetInv w W g x) :
    (∀ i, W.cell? ⟨w.heap.size, i, none⟩ = (#[.string ⟨#[]⟩, .int .u32 0, .int .i64 0, .int .u64 0] : Array Value)[i]?) ∧ (∀ i, W.frozen? ⟨w.heap.size, i, none⟩ = false) ∧ w.heap.size < W.heap.size ∧
    W.cell? ⟨g, 0, none⟩ = some (.string x.val) ∧ W.cell? ⟨g, 1, none⟩ = some (.int .u32 x.flags) ∧ W.cell? ⟨g, 2, none⟩ = some (.int .i64 x.exp) ∧ W.cell? ⟨g, 3, none⟩ = some (.int .u64 x.cas) :=
  ⟨h.res.cell, h.res.frozen, h.res.lt, h.ent.c0, h.ent.c1, h.ent.c2, h.ent.c3⟩
theorem trim_le (l : List UInt8) (h : l.length ≤ 9223372036854775807) : (trim l).size ≤ 9223372036854775807 := by
  have h1 : (trim l).size = (Lib.trimRightB l 0).length := rfl
  have h2 : (Lib.trimRightB l 0).length ≤ l.length := by
    unfold Lib.trimRightB
    rw [List.length_reverse]
    have := (List.dropWhile_sublist (l := l.reverse) (· == (0 : UInt8))).length_le
    simpa using this
  omega
def foundN (l : Ents) (k : ByteArray) : Ent := ((posE k l 0).map (·.2)).getD zeroE
/-- What the model's Get finds. -/
def getN (l : Ents) (k : ByteArray) (now : Int) : Option Ent :=
  if (posE k l 0).isSome && (decide (trim (nm k) = k) && !Pl.gone (foundN l k).exp now) then some (foundN l k) else none
theorem Below.step {a W w1 : World} (h : Below a.heap.size a W) (hb : Below W.heap.size W w1) : Below a.heap.size a w1 := h.trans (hb.mono h.size)
theorem Below.al {a W : World} (h : Below a.heap.size a W) (o : Obj) : Below a.heap.size a (W.alloc o) := h.alloc h.size o
theorem ModelAt.keep {w w' : World} {m r : Nat} {l : Ents} {n : Int} (h : ModelAt w m r l n) (hb : Below w.heap.size w w') :
    w'.cell? ⟨m, 0, none⟩ = some (.map (some r)) ∧ MapIs w' r l ∧ Below w.heap.size w w' := ⟨(h.below hb).c0, (h.below hb).map, hb⟩

set_option maxRecDepth 100000 in
set_option maxHeartbeats 1000000 in
theorem get_walk (m r : Nat) (l : Ents) (laid : Int) (k : ByteArray) (now : Int) (w : World) (h : ModelAt w m r l laid) (hk : k.size ≤ 9223372036854775807)
    (hx0 : 0 ≤ (foundN l k).exp) (hx1 : (foundN l k).exp < 4294967296) :
    Calls Tryz.prog 16 #[.pointer (some ⟨m, 0, none⟩), .string k, .int .i64 now] w fun e w' =>
      e = .returned (.tuple #[encE ((getN l k now).getD zeroE), .bool (getN l k now).isSome]) ∧ Below w.heap.size w w' := by
  obtain ⟨G, hG⟩ : ∃ G, getN l k now = G := ⟨_, rfl⟩
  rw [hG]
  have HG := hide hG
  clear hG
  have hlook := fun W (h : MapIs W r l) => run_lookupN W h k
  rw [show ((posE k l 0).map (·.2)).getD zeroE = foundN l k from rfl] at hlook
  have hG := HG.out
  unfold getN at hG
  clear HG
  generalize foundN l k = x at *
  generalize (posE k l 0).isSome = b at *
  have HG := hide hG
  clear hG
  simp only [encE] at hlook ⊢
  have hM0 := h.al (.cells #[.string ⟨#[]⟩, .int .u32 0, .int .i64 0, .int .u64 0] 44)
  have hz0 := Blk.new w 44 #[.string ⟨#[]⟩, .int .u32 0, .int .i64 0, .int .u64 0]
  have hb0 := Below.al (Below.refl w.heap.size w) (.cells #[.string ⟨#[]⟩, .int .u32 0, .int .i64 0, .int .u64 0] 44)
  obtain ⟨W0, hW0⟩ : ∃ W0, W0 = w.alloc (.cells #[.string ⟨#[]⟩, .int .u32 0, .int .i64 0, .int .u64 0] 44) := ⟨_, rfl⟩
  rw [← hW0] at hM0 hz0 hb0
  have HW0 := hide hW0.symm
  have HZ0 := hide hz0
  have HB0 := hide hb0
  have hc0 := hM0.c0
  have hlt := hM0.blk.lt
  have hmap := hM0.map
  clear h hz0 hb0 hW0
  go_enter Tryz.func16, Tryz.ntmps16
  go_upto_region 1 with fail
  rw [HW0.out]
  go_cut [8, 9] (fun s8 s9 wx => ∃ g, s8 = .pointer (some ⟨g, 0, none⟩) ∧ s9 = .bool b ∧ Below W0.heap.size W0 wx ∧ wx.cell? ⟨g, 0, none⟩ = some (.string x.val) ∧ wx.cell? ⟨g, 1, none⟩ = some (.int .u32 x.flags) ∧ wx.cell? ⟨g, 2, none⟩ = some (.int .i64 x.exp) ∧ wx.cell? ⟨g, 3, none⟩ = some (.int .u64 x.cas))
  case first =>
    go_region_held3 (fun w' => w'.cell? ⟨m, 0, none⟩ = some (.map (some r)) ∧ MapIs w' r l ∧ Below W0.heap.size W0 w')
      ((refine hM0.keep ?_; repeat (first | exact (‹_ ∧ _ ∧ _›).2.2 | exact Below.refl _ _ | refine Below.drew ?_ | refine Below.al ?_ _ | refine Below.setCell ?_ (by simp) _ | refine Below.step ?_ (by assumption))))
      (first
      | (go_at_call 45; refine (named_any k _ hk).mono ?_; rintro e w1 ⟨rfl, hb1⟩; obtain ⟨hcc1, hff1⟩ := bcell hb1))
    all_goals (go_wp2_with fail; go_meet)
    all_goals
      refine ⟨_, rfl, rfl, ?_, ?_⟩
      · repeat (first | exact (‹_ ∧ _ ∧ _›).2.2 | exact Below.refl _ _ | refine Below.drew ?_ | refine Below.al ?_ _ | refine Below.setCell ?_ (by simp) _ | refine Below.step ?_ (by assumption))
      · refine ⟨?_, ?_, ?_, ?_⟩ <;> go_simp
  case rest =>
    obtain ⟨g, rfl, rfl, hbc, g0, g1, g2, g3⟩ := hcut
    have hI : GetInv w wc g x := ⟨Below.step HB0.out hbc, HZ0.out.below hbc, ⟨g0, g1, g2, g3⟩⟩
    have HI := hide hI
    obtain ⟨a0, a1, a2, a3, a4, a5, a6⟩ := hI.facts
    have hsz : (trim (nm k)).size ≤ 9223372036854775807 := trim_le _ (by rw [nm_length]; omega)
    clear hbc hlook hI g0 g1 g2 g3
    cases b
    · have hg : G = none := by simpa using HG.out.symm
      subst hg
      go_wp2
      (try simp only [Exit.inBlock, Exit.then])
      refine bodyPost_ret (v := .tuple #[.agg #[.string ⟨#[]⟩, .int .u32 0, .int .i64 0, .int .u64 0], .bool false]) (by simp [results, Tryz.results16, go_sem, *]) rfl ⟨rfl, ?_⟩
      repeat (first | exact HI.out.below | refine Below.drew ?_ | refine Below.al ?_ _ | refine Below.setCell ?_ (by simp) _)
    · by_cases ht : trim (nm k) = k
      · have ht1 : ((trim (nm k)).toList == k.toList) = true := by rw [toList_beq, decide_eq_true ht]
        have HT := hide ht
        clear ht
        cases hg : Pl.gone x.exp now
        · have hgg : G = some x := by simpa [HT.out, hg] using HG.out.symm
          subst hgg
          go_wp2_with (first
            | (go_at_call 45; refine (named_any k _ hk).mono ?_; rintro e w2 ⟨rfl, hb2⟩; have hI2 := HI.out.step hb2; clear hb2; clear HI; have HI := hide hI2; obtain ⟨a0, a1, a2, a3, a4, a5, a6⟩ := hI2.facts; clear hI2)
            | (go_at_call 48; refine (key_any (nm k) (nm_length k) _).mono ?_; rintro e w3 ⟨rfl, hb3⟩; have hI3 := HI.out.step hb3; clear hb3; clear HI; have HI := hide hI3; obtain ⟨a0, a1, a2, a3, a4, a5, a6⟩ := hI3.facts; clear hI3)
            | (go_at_call 47; refine (gone_any _ _ _ hx0 hx1).mono ?_; rintro e w4 ⟨rfl, rfl⟩))
          (try simp only [Exit.inBlock, Exit.then])
          refine bodyPost_ret (v := .tuple #[.agg #[.string x.val, .int .u32 x.flags, .int .i64 x.exp, .int .u64 x.cas], .bool true]) (by simp [results, Tryz.results16, go_sem, *]) rfl ⟨rfl, ?_⟩
          repeat (first | exact HI.out.below | refine Below.drew ?_ | refine Below.al ?_ _ | refine Below.setCell ?_ (by simp) _)
        · have hgg : G = none := by simpa [HT.out, hg] using HG.out.symm
          subst hgg
          go_wp2_with (first
            | (go_at_call 45; refine (named_any k _ hk).mono ?_; rintro e w2 ⟨rfl, hb2⟩; have hI2 := HI.out.step hb2; clear hb2; clear HI; have HI := hide hI2; obtain ⟨a0, a1, a2, a3, a4, a5, a6⟩ := hI2.facts; clear hI2)
            | (go_at_call 48; refine (key_any (nm k) (nm_length k) _).mono ?_; rintro e w3 ⟨rfl, hb3⟩; have hI3 := HI.out.step hb3; clear hb3; clear HI; have HI := hide hI3; obtain ⟨a0, a1, a2, a3, a4, a5, a6⟩ := hI3.facts; clear hI3)
            | (go_at_call 47; refine (gone_any _ _ _ hx0 hx1).mono ?_; rintro e w4 ⟨rfl, rfl⟩))
          (try simp only [Exit.inBlock, Exit.then])
          refine bodyPost_ret (v := .tuple #[.agg #[.string ⟨#[]⟩, .int .u32 0, .int .i64 0, .int .u64 0], .bool false]) (by simp [results, Tryz.results16, go_sem, *]) rfl ⟨rfl, ?_⟩
          repeat (first | exact HI.out.below | refine Below.drew ?_ | refine Below.al ?_ _ | refine Below.setCell ?_ (by simp) _)
      · have ht1 : ((trim (nm k)).toList == k.toList) = false := by rw [toList_beq, decide_eq_false ht]
        have hgg : G = none := by simpa [ht] using HG.out.symm
        subst hgg
        clear ht
        go_wp2_with (first
          | (go_at_call 45; refine (named_any k _ hk).mono ?_; rintro e w2 ⟨rfl, hb2⟩; have hI2 := HI.out.step hb2; clear hb2; clear HI; have HI := hide hI2; obtain ⟨a0, a1, a2, a3, a4, a5, a6⟩ := hI2.facts; clear hI2)
          | (go_at_call 48; refine (key_any (nm k) (nm_length k) _).mono ?_; rintro e w3 ⟨rfl, hb3⟩; have hI3 := HI.out.step hb3; clear hb3; clear HI; have HI := hide hI3; obtain ⟨a0, a1, a2, a3, a4, a5, a6⟩ := hI3.facts; clear hI3)
          | (go_at_call 47; refine (gone_any _ _ _ hx0 hx1).mono ?_; rintro e w4 ⟨rfl, rfl⟩))
        (try simp only [Exit.inBlock, Exit.then])
        refine bodyPost_ret (v := .tuple #[.agg #[.string ⟨#[]⟩, .int .u32 0, .int .i64 0, .int .u64 0], .bool false]) (by simp [results, Tryz.results16, go_sem, *]) rfl ⟨rfl, ?_⟩
        repeat (first | exact HI.out.below | refine Below.drew ?_ | refine Below.al ?_ _ | refine Below.setCell ?_ (by simp) _)
end Go.Proofs.YthcdocedpcjbeaaGreatDoor

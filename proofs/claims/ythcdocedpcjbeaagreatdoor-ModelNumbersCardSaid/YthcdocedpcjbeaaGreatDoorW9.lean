/-
  The walk of the model's lay.
-/
import Derived.Test.YthcdocedpcjbeaaGreatDoorW8
namespace Go.Proofs.YthcdocedpcjbeaaGreatDoor
open Go.RowKit

/-- A command that is done, at block a: its model at block m. -/
def actCells (m : Nat) (c : Cmd) (A : Option Addr) (cap : Nat) (now ends : Int) (failed : Bool) (old : Ent) (is : Bool) : Array Value :=
  #[.pointer (some ⟨m, 0, none⟩), .int .i64 c.kind, .slice A c.keys.length cap, .int .u32 c.flags, .int .i64 c.exp, .string c.val, .int .u64 c.cas, .int .u64 c.delta, .bool c.quiet,
    .int .i64 now, .int .i64 ends, .bool failed, .string old.val, .int .u32 old.flags, .int .i64 old.exp, .int .u64 old.cas, .bool is]
abbrev ActAt (w : World) (a m : Nat) (c : Cmd) (A : Option Addr) (cap : Nat) (now ends : Int) (failed : Bool) (old : Ent) (is : Bool) : Prop :=
  Blk w a 107 (actCells m c A cap now ends failed old is)

def resV (code : Int) (hits : Value) (n : Int) : Value := .agg #[.int .i64 code, hits, .int .u64 n]
def u64 (n : Int) : Int := IntKind.u64.wrap n

set_option maxRecDepth 100000 in
set_option maxHeartbeats 1000000 in
theorem lay_fail (a m : Nat) (c : Cmd) (A : Option Addr) (cap : Nat) (now ends : Int) (old : Ent) (is : Bool) (x : Ent) (code : Int) (w : World) (hA : ActAt w a m c A cap now ends true old is) :
    Calls Tryz.prog 81 #[.pointer (some ⟨a, 0, none⟩), encE x, .int .i64 code] w fun e w' =>
      e = .returned (resV 11 (.slice none 0 0) 0) ∧ Below w.heap.size w w' := by
  have h11 : w.cell? ⟨a, 11, none⟩ = some (.bool true) := hA.cell 11
  have hlt := hA.lt
  have HA := hide hA
  clear hA
  unfold encE
  go_enter Tryz.func81, Tryz.ntmps81
  go_wp2
  (try simp only [Exit.inBlock, Exit.then])
  refine bodyPost_ret (v := resV 11 (.slice none 0 0) 0) (by simp [results, resV, Tryz.results81, go_sem, *]) rfl ⟨rfl, ?_⟩
  repeat (first | exact Below.refl _ _ | refine Below.drew ?_ | refine Below.al ?_ _ | refine Below.setCell ?_ (by simp) _)

theorem MapIs.setCell {w : World} {r : Nat} {l : Ents} (h : MapIs w r l) {p : Addr} (hp : p.block ≠ r) (u : Value) : MapIs (w.setCell p u) r l :=
  h.chg (S := fun b => b = p.block) (Chg.setCell (S := fun b => b = p.block) (Chg.refl _ _) (fun _ => rfl) u) (fun e => hp e.symm)

theorem ModelAt.far {w : World} {m r : Nat} {l : Ents} {n : Int} (h : ModelAt w m r l n) {b o : Nat} (h1 : m ≠ b) (h2 : r ≠ b) (u : Value) : ModelAt (w.setCell ⟨b, o, none⟩ u) m r l n :=
  h.chg (S := fun i => i = b) (Chg.setCell (S := fun i => i = b) (Chg.refl _ _) (p := ⟨b, o, none⟩) (fun _ => rfl) u) h1 h2

/-- what holds where lay stands before it writes the map. -/
theorem lay_world {a m r : Nat} {l : Ents} {laid : Int} {c : Cmd} {cap : Nat} {now ends : Int} {failed : Bool} {old : Ent} {is : Bool} {w : World} {ad : Addr} {k : ByteArray}
    (hA : ActAt w a m c (some ad) cap now ends failed old is) (hM : ModelAt w m r l laid) (hcell : w.cell? ad = some (.string k)) (x : Ent) :
    let W5 := ((w.setCell ⟨m, 1, none⟩ (.int .u64 (IntKind.u64.wrap (laid + 1)))).alloc (.cells #[.string x.val, .int .u32 x.flags, .int .i64 x.exp, .int .u64 (IntKind.u64.wrap (laid + 1))] 44)).alloc (.cells #[.int .i64 0, .slice none 0 0, .int .u64 0] 36)
    ModelAt W5 m r l (u64 (laid + 1)) ∧ Chg (fun b => b = m) w W5 ∧ Blk W5 (w.heap.size + 1) 36 #[.int .i64 0, .slice none 0 0, .int .u64 0] ∧
    ∀ W', Chg (fun b => b = r) W5 W' → (W'.cell? ⟨a, 0, none⟩ = some (.pointer (some ⟨m, 0, none⟩)) ∧ W'.cell? ⟨a, 2, none⟩ = some (.slice (some ad) c.keys.length cap) ∧ W'.cell? ad = some (.string k) ∧ W'.cell? ⟨m, 0, none⟩ = some (.map (some r)) ∧
    W'.cell? ⟨w.heap.size, 0, none⟩ = some (.string x.val) ∧ W'.cell? ⟨w.heap.size, 1, none⟩ = some (.int .u32 x.flags) ∧ W'.cell? ⟨w.heap.size, 2, none⟩ = some (.int .i64 x.exp) ∧ W'.cell? ⟨w.heap.size, 3, none⟩ = some (.int .u64 (IntKind.u64.wrap (laid + 1)))) := by
  intro W5
  have hs : (w.setCell ⟨m, 1, none⟩ (.int .u64 (IntKind.u64.wrap (laid + 1)))).heap.size = w.heap.size := by simp [World.setCell]
  have hch : Chg (fun b => b = m) w W5 := ((Chg.setCell (S := fun b => b = m) (Chg.refl _ _) (p := ⟨m, 1, none⟩) (fun _ => rfl) _).alloc _).alloc _
  have hMW : ModelAt W5 m r l (u64 (laid + 1)) := by
    refine ModelAt.al (ModelAt.al ⟨?_, hM.map.setCell hM.ne _⟩ _) _
    exact (hM.blk.set_ 1 _)
  have ham : a ≠ m := hA.ne_ hM.blk (by decide)
  have hAW : ActAt W5 a m c (some ad) cap now ends failed old is := hA.chg hch ham
  have hdm : ad.block ≠ m := by
    intro e
    have h1 := hM.blk
    unfold Blk at h1
    unfold World.cell? at hcell
    rw [e, h1] at hcell
    simp only at hcell
    split at hcell
    · cases hcell
    · rcases ho : ad.off with _ | _ | n <;> rw [ho] at hcell <;> simp at hcell
  have hcW : W5.cell? ad = some (.string k) := (World.cell?_of_block (hch.block _ (cell_lt hcell) hdm)).trans hcell
  have h4 : Blk W5 w.heap.size 44 #[.string x.val, .int .u32 x.flags, .int .i64 x.exp, .int .u64 (IntKind.u64.wrap (laid + 1))] := by
    have := (Blk.new (w.setCell ⟨m, 1, none⟩ (.int .u64 (IntKind.u64.wrap (laid + 1)))) 44 #[.string x.val, .int .u32 x.flags, .int .i64 x.exp, .int .u64 (IntKind.u64.wrap (laid + 1))]).alloc (.cells #[.int .i64 0, .slice none 0 0, .int .u64 0] 36)
    rwa [hs] at this
  have h6 : Blk W5 (w.heap.size + 1) 36 #[.int .i64 0, .slice none 0 0, .int .u64 0] := by
    have := Blk.new ((w.setCell ⟨m, 1, none⟩ (.int .u64 (IntKind.u64.wrap (laid + 1)))).alloc (.cells #[.string x.val, .int .u32 x.flags, .int .i64 x.exp, .int .u64 (IntKind.u64.wrap (laid + 1))] 44)) 36 #[.int .i64 0, .slice none 0 0, .int .u64 0]
    have e : ((w.setCell ⟨m, 1, none⟩ (.int .u64 (IntKind.u64.wrap (laid + 1)))).alloc (.cells #[.string x.val, .int .u32 x.flags, .int .i64 x.exp, .int .u64 (IntKind.u64.wrap (laid + 1))] 44)).heap.size = w.heap.size + 1 := by simp [hs]
    rwa [e] at this
  refine ⟨hMW, hch, h6, fun W' hW => ?_⟩
  have noCell : ∀ p v, W5.cell? p = some v → W'.cell? p = some v := fun p v hp => by
    have hne : p.block ≠ r := by
      intro e
      obtain ⟨es, ck, hb, _⟩ := hMW.map
      unfold World.cell? at hp
      rw [e, hb] at hp
      cases hp
    exact (World.cell?_of_block (hW.block _ (cell_lt hp) hne)).trans hp
  exact ⟨noCell _ _ (hAW.cell 0), noCell _ _ (hAW.cell 2), noCell _ _ hcW, noCell _ _ hMW.c0, noCell _ _ (h4.cell 0), noCell _ _ (h4.cell 1), noCell _ _ (h4.cell 2), noCell _ _ (h4.cell 3)⟩

set_option maxRecDepth 100000 in
set_option maxHeartbeats 1000000 in
theorem lay_do (a m r : Nat) (l : Ents) (laid : Int) (c : Cmd) (A : Option Addr) (cap : Nat) (now ends : Int) (old : Ent) (is : Bool) (x : Ent) (code : Int) (w : World)
    (hA : ActAt w a m c A cap now ends false old is) (hM : ModelAt w m r l laid) (k : ByteArray) (rest : List ByteArray) (hk : c.keys = k :: rest) (hK : Strs w A c.keys) (hks : k.size ≤ 9223372036854775807) :
    Calls Tryz.prog 81 #[.pointer (some ⟨a, 0, none⟩), encE x, .int .i64 code] w fun e w' =>
      e = .returned (resV code (.slice none 0 0) 0) ∧ ModelAt w' m r (putN l k { x with cas := u64 (laid + 1) }) (u64 (laid + 1)) ∧ Chg (fun b => b = m ∨ b = r) w w' := by
  have h0 : w.cell? ⟨a, 0, none⟩ = some (.pointer (some ⟨m, 0, none⟩)) := hA.cell 0
  have h2 : w.cell? ⟨a, 2, none⟩ = some (.slice A c.keys.length cap) := hA.cell 2
  have h11 : w.cell? ⟨a, 11, none⟩ = some (.bool false) := hA.cell 11
  have ha := hA.lt
  have hm := hM.blk.lt
  have hc0 := hM.c0
  have hc1 := hM.c1
  have hf := hM.blk.frozen
  have hpos : 0 < c.keys.length := by rw [hk]; simp
  rw [hk] at hK
  obtain ⟨ad, hAd, hcell⟩ := hK.tail
  subst hAd
  have HA := hide hA
  have HM := hide hM
  have HK := hide hk
  clear hA hM hk hK
  unfold encE
  go_enter Tryz.func81, Tryz.ntmps81
  go_upto_region 5 with fail
  have h5 := lay_world HA.out HM.out hcell x
  obtain ⟨W5, hW5⟩ : ∃ W5, W5 = ((w.setCell ⟨m, 1, none⟩ (.int .u64 (IntKind.u64.wrap (laid + 1)))).alloc (.cells #[.string x.val, .int .u32 x.flags, .int .i64 x.exp, .int .u64 (IntKind.u64.wrap (laid + 1))] 44)).alloc (.cells #[.int .i64 0, .slice none 0 0, .int .u64 0] 36) := ⟨_, rfl⟩
  rw [← hW5] at h5 ⊢
  obtain ⟨hM5, hch5, hr6, hkeep⟩ := h5
  have HM5 := hide hM5
  have HC5 := hide hch5
  have HR6 := hide hr6
  have HW5 := hide hW5
  have hS0 := hkeep W5.drew (Chg.drew (Chg.refl _ _))
  have HKE := hide hkeep
  clear hM5 hch5 hr6 hW5 hkeep
  go_region_held3 (fun W' => W'.cell? ⟨a, 0, none⟩ = some (.pointer (some ⟨m, 0, none⟩)) ∧ W'.cell? ⟨a, 2, none⟩ = some (.slice (some ad) c.keys.length cap) ∧ W'.cell? ad = some (.string k) ∧ W'.cell? ⟨m, 0, none⟩ = some (.map (some r)) ∧
    W'.cell? ⟨w.heap.size, 0, none⟩ = some (.string x.val) ∧ W'.cell? ⟨w.heap.size, 1, none⟩ = some (.int .u32 x.flags) ∧ W'.cell? ⟨w.heap.size, 2, none⟩ = some (.int .i64 x.exp) ∧ W'.cell? ⟨w.heap.size, 3, none⟩ = some (.int .u64 (IntKind.u64.wrap (laid + 1))))
    ((first | assumption | (clear hS0; assumption)))
    (first
      | (go_at_call 45; refine (named_any k _ hks).mono ?_; rintro e w6 ⟨rfl, hb6⟩; have hM6 := HM5.out.dr.below hb6; obtain ⟨w7, hupd, hm7, hch7⟩ := run_updateN w6 hM6.map k { x with cas := u64 (laid + 1) }; simp only [encE, u64] at hupd; have hb6' : Below W5.heap.size W5 w6 := (Below.drew (Below.refl _ _)).trans hb6; have hS6 := HKE.out w6 (Chg.of_below hb6'); have hS7 := HKE.out w7 ((Chg.of_below (S := fun b => b = r) hb6').trans hch7); have HM6 := hide hM6; have HC7 := hide hch7; have HB6 := hide hb6'; have HM7 := hide hm7; clear hb6 hb6' hM6 hch7 hm7))
  have hrlt := HM.out.map.lt
  have h57 : Chg (fun b => b = r) W5 w7 := (Chg.of_below (S := fun b => b = r) HB6.out).trans HC7.out
  have h7 : Blk w7 (w.heap.size + 1) 36 #[.int .i64 0, .slice none 0 0, .int .u64 0] := HR6.out.chg h57 (fun e => by omega)
  obtain ⟨d1, d2, d3⟩ := h7.rules
  have hfin : ModelAt w7 m r (putN l k { x with cas := u64 (laid + 1) }) (u64 (laid + 1)) := ⟨HM6.out.blk.chg HC7.out (fun h => HM6.out.ne h), HM7.out⟩
  have hch : Chg (fun b => b = m ∨ b = r) w w7 := (HC5.out.mono (fun _ _ h => .inl h)).trans (h57.mono (fun _ _ h => .inr h))
  have HFIN := hide hfin
  have HCH := hide hch
  clear hupd h57 hfin hch h7
  go_wp2
  (try simp only [Exit.inBlock, Exit.then])
  refine bodyPost_ret (v := resV code (.slice none 0 0) 0) (by simp [results, resV, Tryz.results81, go_sem, *]) rfl ⟨rfl, ?_, ?_⟩
  · have hm' : m ≠ w.heap.size + 1 := by omega
    have hr' : r ≠ w.heap.size + 1 := by omega
    repeat (first | exact HFIN.out | refine ModelAt.far ?_ hm' hr' _)
  · repeat (first | exact HCH.out | refine Chg.setCell ?_ (fun h => by simp only at h; omega) _)
end Go.Proofs.YthcdocedpcjbeaaGreatDoor

/-
  Rows of acts in memory: how they open, how a command is loaded out of them. No walk here.
-/
import Derived.Test.YthcdocedpcjbeaaGreatDoorArg
namespace Go.Proofs.YthcdocedpcjbeaaGreatDoor
open Go.RowKit Go.Deep

/-- An act: a command, so many seconds later, with memory or without, a key that is dropped. -/
structure ActG where
  c : Cmd
  later : Int
  failed : Bool
  drop : ByteArray
def actGCells (a : ActG) (A : Option Addr) (cap : Nat) : List Value := (cmdCells a.c A cap).toList ++ [.int .i64 a.later, .bool a.failed, .string a.drop]
def ActGAt (w : World) (ad : Addr) (a : ActG) : Prop := ∃ A cap, (∀ (i : Nat) v, (actGCells a A cap)[i]? = some v → w.cell? (ad.add i) = some v) ∧ Strs w A a.c.keys ∧ Tight a.c ∧ a.drop.size ≤ maxLen
def ActsG (w : World) (A : Option Addr) (l : List ActG) : Prop := ∀ (i : Nat) a, l[i]? = some a → ∃ ad, A = some ad ∧ ActGAt w (ad.add (i * 11)) a
theorem ActGAt.below {w w' : World} {ad : Addr} {a : ActG} (h : ActGAt w ad a) (hb : Below w.heap.size w w') : ActGAt w' ad a := by
  obtain ⟨A, cap, h1, h2, h3⟩ := h
  exact ⟨A, cap, fun i v hi => by have := h1 i v hi; exact (hb.cell (cell_lt this)).trans this, h2.below hb, h3⟩
theorem ActsG.below {w w' : World} {A : Option Addr} {l : List ActG} (h : ActsG w A l) (hb : Below w.heap.size w w') : ActsG w' A l := fun i a hi =>
  let ⟨ad, e, hc⟩ := h i a hi
  ⟨ad, e, hc.below hb⟩

/-- an act's cells, one by one. -/
structure ActCells (w : World) (X : Addr) (a : ActG) (A : Option Addr) (cap : Nat) : Prop where
  c0 : w.cell? X = some (.int .i64 a.c.kind)
  c1 : w.cell? ⟨X.block, X.off + 1, none⟩ = some (.slice A a.c.keys.length cap)
  c2 : w.cell? ⟨X.block, X.off + 2, none⟩ = some (.int .u32 a.c.flags)
  c3 : w.cell? ⟨X.block, X.off + 3, none⟩ = some (.int .i64 a.c.exp)
  c4 : w.cell? ⟨X.block, X.off + 4, none⟩ = some (.string a.c.val)
  c5 : w.cell? ⟨X.block, X.off + 5, none⟩ = some (.int .u64 a.c.cas)
  c6 : w.cell? ⟨X.block, X.off + 6, none⟩ = some (.int .u64 a.c.delta)
  c7 : w.cell? ⟨X.block, X.off + 7, none⟩ = some (.bool a.c.quiet)
  c9 : w.cell? ⟨X.block, X.off + 9, none⟩ = some (.bool a.failed)
theorem ActGAt.out {w : World} {X : Addr} {a : ActG} (h : ActGAt w X a) : ∃ A cap, ActCells w X a A cap ∧ Strs w A a.c.keys ∧ small a.c ∧ X.block < w.heap.size := by
  obtain ⟨A, cap, hc, hs, hm, _⟩ := h
  refine ⟨A, cap, ⟨hc 0 _ rfl, hc 1 _ rfl, hc 2 _ rfl, hc 3 _ rfl, hc 4 _ rfl, hc 5 _ rfl, hc 6 _ rfl, hc 7 _ rfl, hc 9 _ rfl⟩, hs, hm.small, cell_lt (hc 0 _ rfl)⟩
theorem ActGAt.tight {w : World} {X : Addr} {a : ActG} (h : ActGAt w X a) : Tight a.c := by
  obtain ⟨_, _, _, _, hm, _⟩ := h
  exact hm
theorem len4 {α : Type} {l : List α} (h : l.length = 4) : ∃ a b c d, l = [a, b, c, d] := by
  rcases l with _ | ⟨a, _ | ⟨b, _ | ⟨c, _ | ⟨d, _ | ⟨e, r⟩⟩⟩⟩⟩ <;> simp at h
  exact ⟨a, b, c, d, rfl⟩
section
variable {H : Type} {enc : TypeId × Value → H} {W : World} {base : Nat} {spare : Nat → Bool} {held : Bool}
theorem open_act {fuel : Nat} {cs : List Value} {x : DataW H × List MemPlace} (h : DataW.trod enc Tryz.prog W base spare held fuel 33 cs = some x) :
    ∃ a A cap, cs = actGCells a A cap ∧ Strs W A a.c.keys ∧ Tight a.c ∧ a.drop.size ≤ maxLen := by
  obtain ⟨hl, n, hf⟩ := field_at Tryz.underlying33 h
  have hc : Tryz.prog.cellsOf 33 = 11 := by kernel_rfl
  rw [hc] at hl
  obtain ⟨y0, h0⟩ := hf 0 31 0 rfl
  obtain ⟨y1, h1⟩ := hf 1 3 8 rfl
  obtain ⟨y2, h2⟩ := hf 2 4 9 rfl
  obtain ⟨y3, h3⟩ := hf 3 9 10 rfl
  have c0 : Tryz.prog.cellsOf 31 = 8 := by kernel_rfl
  have c1 : Tryz.prog.cellsOf 3 = 1 := by kernel_rfl
  have c2 : Tryz.prog.cellsOf 4 = 1 := by kernel_rfl
  have c3 : Tryz.prog.cellsOf 9 = 1 := by kernel_rfl
  rw [c0] at h0; rw [c1] at h1; rw [c2] at h2; rw [c3] at h3
  obtain ⟨c, A, cap, e0, s0, sm⟩ := open_cmd h0
  obtain ⟨la, e1, _, w1⟩ := DataW.trod_int Tryz.underlying3 h1
  obtain ⟨fa, e2, _⟩ := DataW.trod_bool Tryz.underlying4 h2
  obtain ⟨dr, e3, _, w3⟩ := DataW.trod_string Tryz.underlying9 h3
  refine ⟨⟨c, la, fa, dr⟩, A, cap, ?_, s0, sm, w3⟩
  · have e : cs = (cs.drop 0).take 8 ++ ((cs.drop 8).take 1 ++ ((cs.drop 9).take 1 ++ (cs.drop 10).take 1)) := by
      have t1 : (cs.drop 10).take 1 = cs.drop 10 := List.take_of_length_le (by rw [List.length_drop]; omega)
      have t2 : (cs.drop 9).take 1 ++ cs.drop 10 = cs.drop 9 := by have := List.take_append_drop 1 (cs.drop 9); rwa [List.drop_drop] at this
      have t3 : (cs.drop 8).take 1 ++ cs.drop 9 = cs.drop 8 := by have := List.take_append_drop 1 (cs.drop 8); rwa [List.drop_drop] at this
      rw [t1, t2, t3, List.drop_zero, List.take_append_drop]
    rw [e, e0, e1, e2, e3]
    rfl
theorem open_actsL {t : TypeId} {fuel : Nat} {cs : List Value} {x : DataW H × List MemPlace} (ht : Tryz.prog.underlying t = some (.slice 33)) (h : DataW.trod enc Tryz.prog W base spare held fuel t cs = some x) :
    ∃ A cap l, cs = [.slice A l.length cap] ∧ ActsG W A l ∧ l.length ≤ maxLen := by
  have hc : Tryz.prog.cellsOf 33 = 11 := by kernel_rfl
  rcases open_slice ht h with ⟨rfl, _⟩ | ⟨a, len, cap, m, n, D, Pl, rfl, hb, hl, hm, hmm, _, hx⟩
  · exact ⟨none, 0, [], rfl, fun i s hi => by simp at hi, by simp⟩
  · have hlm : len ≤ m := by rw [hmm]; split <;> omega
    rw [hc] at hx
    have hz : Nonempty ActG := ⟨⟨⟨0, [], 0, 0, ⟨#[]⟩, 0, 0, false⟩, 0, false, ⟨#[]⟩⟩⟩
    have : Inhabited ActG := ⟨⟨⟨0, [], 0, 0, ⟨#[]⟩, 0, 0, false⟩, 0, false, ⟨#[]⟩⟩⟩
    obtain ⟨F, hF⟩ := choose_lt (α := ActG) (n := len) (p := fun i g => ActGAt W (a.add (i * 11)) g) (fun i hi => by
      obtain ⟨cs', h1, h2⟩ := hx i (by omega)
      obtain ⟨g, A, cap', rfl, s1, s2, s3⟩ := open_act h2
      obtain ⟨_, hlen, hcell⟩ := World.cells?_some h1
      exact ⟨g, A, cap', fun j v hj => by
        first
          | exact hcell j v hj
          | (have hjl := (List.getElem?_eq_some_iff.1 hj).1; rw [hcell j (by omega)]; exact hj), s1, s2, s3⟩)
    refine ⟨some a, cap, (List.range len).map F, by simp, fun i s hi => ?_, by simp; omega⟩
    have hlt : i < len := by have := (List.getElem?_eq_some_iff.1 hi).1; simpa using this
    simp only [List.getElem?_map, List.getElem?_range hlt, Option.map_some, Option.some.injEq] at hi
    subst hi
    exact ⟨a, rfl, hF i hlt⟩
end
end Go.Proofs.YthcdocedpcjbeaaGreatDoor

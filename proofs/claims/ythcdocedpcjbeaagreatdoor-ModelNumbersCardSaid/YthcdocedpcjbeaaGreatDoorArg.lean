/-
  How a statement's arguments open: rows of texts, of bools, commands, acts. No walk here.
-/
import Derived.Test.YthcdocedpcjbeaaGreatDoorPo
import Derived.Deep.Strs
import Derived.Deep.Grids
import Derived.OpenShut
import Derived.Carry
namespace Go.Proofs.YthcdocedpcjbeaaGreatDoor
open Go.RowKit Go.Deep

/-- a row of bools in memory. -/
def Bools (w : World) (A : Option Addr) (bs : List Bool) : Prop := ∀ (i : Nat) b, bs[i]? = some b → ∃ ad, A = some ad ∧ w.cell? (ad.add i) = some (.bool b)
theorem Bools.below {w w' : World} {A : Option Addr} {bs : List Bool} (h : Bools w A bs) (hb : Below w.heap.size w w') : Bools w' A bs := fun i b hi =>
  let ⟨ad, e, hc⟩ := h i b hi
  ⟨ad, e, (hb.cell (cell_lt hc)).trans hc⟩

section
variable {H : Type} {enc : TypeId × Value → H} {W : World} {base : Nat} {spare : Nat → Bool} {held : Bool}
theorem open_strsL {t : TypeId} {fuel : Nat} {cs : List Value} {x : DataW H × List MemPlace} (ht : Tryz.prog.underlying t = some (.slice 9)) (h : DataW.trod enc Tryz.prog W base spare held fuel t cs = some x) :
    ∃ A cap ks, cs = [.slice A ks.length cap] ∧ Strs W A ks ∧ (∀ s ∈ ks, s.size ≤ maxLen) ∧ ks.length ≤ maxLen := by
  rcases open_strs ht Tryz.underlying9 (by kernel_rfl) h with ⟨rfl, _⟩ | ⟨a, len, cap, m, Sx, rfl, _, hl, hm, hmm, _, hx⟩
  · exact ⟨none, 0, [], rfl, fun i s hi => by simp at hi, fun s hs => by simp at hs, by simp⟩
  · have hlm : len ≤ m := by rw [hmm]; split <;> omega
    refine ⟨some a, cap, (List.range len).map Sx, by simp, fun i s hi => ?_, fun s hs => ?_, by simp; omega⟩
    · have hlt : i < len := by have := (List.getElem?_eq_some_iff.1 hi).1; simpa using this
      simp only [List.getElem?_map, List.getElem?_range hlt, Option.map_some, Option.some.injEq] at hi
      subst hi
      exact ⟨a, rfl, (hx i (by omega)).1⟩
    · rw [List.mem_map] at hs
      obtain ⟨j, hj, rfl⟩ := hs
      have := List.mem_range.1 hj
      exact (hx j (by omega)).2
theorem open_boolsL {t : TypeId} {fuel : Nat} {cs : List Value} {x : DataW H × List MemPlace} (ht : Tryz.prog.underlying t = some (.slice 4)) (h : DataW.trod enc Tryz.prog W base (fun _ => true) held fuel t cs = some x) :
    ∃ A cap bs, cs = [.slice A bs.length cap] ∧ Bools W A bs ∧ bs.length ≤ maxLen := by
  rcases open_bools ht Tryz.underlying4 (by kernel_rfl) h with ⟨rfl, _⟩ | ⟨a, len, cap, B, rfl, _, hl, hm, _, hx⟩
  · exact ⟨none, 0, [], rfl, fun i s hi => by simp at hi, by simp⟩
  · refine ⟨some a, cap, (List.range len).map B, by simp, fun i s hi => ?_, by simp; omega⟩
    have hlt : i < len := by have := (List.getElem?_eq_some_iff.1 hi).1; simpa using this
    simp only [List.getElem?_map, List.getElem?_range hlt, Option.map_some, Option.some.injEq] at hi
    subst hi
    exact ⟨a, rfl, hx i (by omega)⟩

theorem field_at {t : TypeId} {fs : Array Field} (ht : Tryz.prog.underlying t = some (.struct fs)) {fuel : Nat} {cs : List Value} {x : DataW H × List MemPlace} (h : DataW.trod enc Tryz.prog W base spare held fuel t cs = some x) :
    cs.length = Tryz.prog.cellsOf t ∧ ∃ n, ∀ (i : Nat) (ty : TypeId) (off : Nat), (fs[i]?).map (fun f => (f.type, f.offset)) = some (ty, off) → ∃ y, DataW.trod enc Tryz.prog W base spare held n ty ((cs.drop off).take (Tryz.prog.cellsOf ty)) = some y := by
  obtain ⟨xs, n, _, _, hl, hx, hf⟩ := DataW.trod_struct ht h
  refine ⟨hl, n, fun i ty off hi => ?_⟩
  obtain ⟨f, hif, he⟩ := Option.map_eq_some_iff.1 hi
  injection he with h1 h2
  subst h1 h2
  have hlt : i < xs.length := by rw [hx]; exact (Array.getElem?_eq_some_iff.1 hif).1
  exact ⟨xs[i], (hf i f hif).trans (List.getElem?_eq_getElem hlt)⟩

theorem len8 {α : Type} {l : List α} (h : l.length = 8) : ∃ a b c d e f g i, l = [a, b, c, d, e, f, g, i] := by
  rcases l with _ | ⟨a, _ | ⟨b, _ | ⟨c, _ | ⟨d, _ | ⟨e, _ | ⟨f, _ | ⟨g, _ | ⟨i, _ | ⟨j, r⟩⟩⟩⟩⟩⟩⟩⟩⟩ <;> simp at h
  exact ⟨a, b, c, d, e, f, g, i, rfl⟩
/-- what holds of every command that comes in: lengths, and each number of its kind. -/
structure Tight (c : Cmd) : Prop where
  len : c.keys.length ≤ maxLen
  val : c.val.size ≤ maxLen
  keys : ∀ s ∈ c.keys, s.size ≤ maxLen
  kind : -9223372036854775808 ≤ c.kind ∧ c.kind ≤ 9223372036854775807
  flags : 0 ≤ c.flags ∧ c.flags ≤ 4294967295
  exp : -9223372036854775808 ≤ c.exp ∧ c.exp ≤ 9223372036854775807
  cas : 0 ≤ c.cas ∧ c.cas ≤ 18446744073709551615
  delta : 0 ≤ c.delta ∧ c.delta ≤ 18446744073709551615
theorem Tight.small {c : Cmd} (h : Tight c) : small c := by
  have m : maxLen ≤ 9223372036854775807 := by decide
  exact ⟨Nat.le_trans h.len m, Nat.le_trans h.val m, fun s hs => Nat.le_trans (h.keys s hs) m, h.delta.1, h.exp⟩
/-- a command's cells, and its keys. -/
def CmdAt (w : World) (cs : List Value) (c : Cmd) : Prop := ∃ A cap, cs = (cmdCells c A cap).toList ∧ Strs w A c.keys ∧ Tight c
theorem open_cmd {fuel : Nat} {cs : List Value} {x : DataW H × List MemPlace} (h : DataW.trod enc Tryz.prog W base spare held fuel 31 cs = some x) : ∃ c, CmdAt W cs c := by
  obtain ⟨hl, n, hf⟩ := field_at Tryz.underlying31 h
  have hc : Tryz.prog.cellsOf 31 = 8 := by kernel_rfl
  rw [hc] at hl
  obtain ⟨v0, v1, v2, v3, v4, v5, v6, v7, rfl⟩ := len8 hl
  clear hl hc h
  obtain ⟨y0, h0⟩ := hf 0 3 0 rfl
  obtain ⟨y1, h1⟩ := hf 1 28 1 rfl
  obtain ⟨y2, h2⟩ := hf 2 29 2 rfl
  obtain ⟨y3, h3⟩ := hf 3 2 3 rfl
  obtain ⟨y4, h4⟩ := hf 4 9 4 rfl
  obtain ⟨y5, h5⟩ := hf 5 26 5 rfl
  obtain ⟨y6, h6⟩ := hf 6 26 6 rfl
  obtain ⟨y7, h7⟩ := hf 7 4 7 rfl
  have c0 : Tryz.prog.cellsOf 3 = 1 := by kernel_rfl
  have c1 : Tryz.prog.cellsOf 28 = 1 := by kernel_rfl
  have c2 : Tryz.prog.cellsOf 29 = 1 := by kernel_rfl
  have c3 : Tryz.prog.cellsOf 2 = 1 := by kernel_rfl
  have c4 : Tryz.prog.cellsOf 9 = 1 := by kernel_rfl
  have c5 : Tryz.prog.cellsOf 26 = 1 := by kernel_rfl
  have c7 : Tryz.prog.cellsOf 4 = 1 := by kernel_rfl
  simp only [c0, c1, c2, c3, c4, c5, c7, List.drop_zero, List.drop_succ_cons, List.take_succ_cons, List.take_zero] at h0 h1 h2 h3 h4 h5 h6 h7
  obtain ⟨k, e0, _, w0⟩ := DataW.trod_int Tryz.underlying3 h0
  obtain ⟨A, cap, ks, e1, s1, s2, s3⟩ := open_strsL Tryz.underlying28 h1
  obtain ⟨fl, e2, _, w2⟩ := DataW.trod_int Tryz.underlying29 h2
  obtain ⟨ex, e3, _, w3⟩ := DataW.trod_int Tryz.underlying2 h3
  obtain ⟨vl, e4, _, w4⟩ := DataW.trod_string Tryz.underlying9 h4
  obtain ⟨ca, e5, _, w5⟩ := DataW.trod_int Tryz.underlying26 h5
  obtain ⟨de, e6, _, w6⟩ := DataW.trod_int Tryz.underlying26 h6
  obtain ⟨q, e7, _⟩ := DataW.trod_bool Tryz.underlying4 h7
  injection e0 with e0; injection e1 with e1; injection e2 with e2; injection e3 with e3; injection e4 with e4; injection e5 with e5; injection e6 with e6; injection e7 with e7
  subst e0 e1 e2 e3 e4 e5 e6 e7
  refine ⟨⟨k, ks, fl, ex, vl, ca, de, q⟩, A, cap, rfl, s1, ?_⟩
  refine ⟨s3, w4, s2, ?_, ?_, ?_, ?_, ?_⟩
  · simp [Lit.wf, IntKind.min, IntKind.max, IntKind.signed, IntKind.bits] at w0 ⊢; omega
  · simp [Lit.wf, IntKind.min, IntKind.max, IntKind.signed, IntKind.bits] at w2 ⊢; omega
  · simp [Lit.wf, IntKind.min, IntKind.max, IntKind.signed, IntKind.bits] at w3 ⊢; omega
  · simp [Lit.wf, IntKind.min, IntKind.max, IntKind.signed, IntKind.bits] at w5 ⊢; omega
  · simp [Lit.wf, IntKind.min, IntKind.max, IntKind.signed, IntKind.bits] at w6 ⊢; omega
end
end Go.Proofs.YthcdocedpcjbeaaGreatDoor

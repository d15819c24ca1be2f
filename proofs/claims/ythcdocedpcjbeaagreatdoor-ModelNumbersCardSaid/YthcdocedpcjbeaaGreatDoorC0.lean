/-
  What the rows' listed variables give a walk; a world for the witness.
-/
import Derived.Test.YthcdocedpcjbeaaGreatDoorCards
import Derived.Test.YthcdocedpcjbeaaGreatDoorTie
import Derived.Test.YthcdocedpcjbeaaGreatDoorW12
import Derived.ProofKit
import Derived.OpenShut
import Derived.Deep.DeepHandedRow
import Derived.Deep.DeepWitnessRowRef
import Derived.Lib.LaidTab
import Derived.Stop.LaidErr
import Derived.Carry
namespace Go.Proofs.YthcdocedpcjbeaaGreatDoor
open Go.ChangeShapes Go.WideShapes Go.ChangeAt Go.RowKit

theorem own : ownKnob Tryz.prog.godebug = none := by kernel_rfl
def flatV : Nat → DataW Unit → List Value
  | 0, _ => []
  | _ + 1, .lit (.int k z) => [.int k z]
  | n + 1, .agg l => l.flatMap (flatV n)
  | _, _ => []
def layAt (h : Array Obj) (g : Nat) (vs : List Value) : Array Obj := h.modify g fun
  | .cells _ t fr => .cells vs.toArray t fr
  | o => o
def rangeS : ByteArray := ⟨#[118, 97, 108, 117, 101, 32, 111, 117, 116, 32, 111, 102, 32, 114, 97, 110, 103, 101]⟩
def syntaxS : ByteArray := ⟨#[105, 110, 118, 97, 108, 105, 100, 32, 115, 121, 110, 116, 97, 120]⟩
noncomputable def low : Nat := (World.holding Tryz.prog default ⟨#[], #[], []⟩).heap.size
noncomputable def laidWorld (os : Os) : World :=
  let w0 := World.holding Tryz.prog os ⟨#[.cells #[.string rangeS] 287, .cells #[.string syntaxS] 287], #[], []⟩
  { w0 with heap := layAt (layAt (layAt (layAt (layAt (layAt (layAt w0.heap 6 (flatV 5 Rows.laid_math_bits_deBruijn32tab)) 7 (flatV 5 Rows.laid_math_bits_deBruijn64tab))
      1 (flatV 5 Rows.laid_internal_strconv_uint64pow10)) 5 (flatV 5 Rows.laid_unicode_utf8_acceptRanges))
      3 [.iface 285 (.pointer (some ⟨low, 0, none⟩))]) 2 [.iface 285 (.pointer (some ⟨low + 1, 0, none⟩))]) 4 (flatV 5 Rows.laid_unicode_utf8_first) }
def laids : List (String × DataW Unit) := [("math/bits.deBruijn32tab", Rows.laid_math_bits_deBruijn32tab), ("math/bits.deBruijn64tab", Rows.laid_math_bits_deBruijn64tab), ("internal/strconv.uint64pow10", Rows.laid_internal_strconv_uint64pow10), ("unicode/utf8.acceptRanges", Rows.laid_unicode_utf8_acceptRanges), ("strconv.ErrRange", Rows.laid_strconv_ErrRange), ("strconv.ErrSyntax", Rows.laid_strconv_ErrSyntax), ("unicode/utf8.first", Rows.laid_unicode_utf8_first)]
theorem laid_met (os : Os) (args : Array Value) : laidMet Tryz.prog laids ((laidWorld os).forCall (fun _ _ => 0) ⟨#[], args, []⟩).memory :=
  laidMet_of_run' 8 (by kernel_rfl) (by kernel_rfl)

theorem row_err (u : TypeId) (h : Tryz.prog.typeName? 3 u = some "*errors.errorString") : u = 285 :=
  typeName_ptr_named (nm := "errors.errorString") (by rw [show "*" ++ "errors.errorString" = "*errors.errorString" by decide]; kernel_rfl) (by kernel_rfl) (by decide) u (by rw [show "*" ++ "errors.errorString" = "*errors.errorString" by decide]; exact h)

theorem var_lt {W : World} {n : String} {g : Nat} {cs : Array Value} (hg : Tryz.prog.globalNamed n = some g) (h : W.var? Tryz.prog n = some cs) : g < W.heap.size := by
  unfold World.var? at h
  simp only [hg, Option.bind_some] at h
  rcases Nat.lt_or_ge g W.heap.size with h' | h'
  · exact h'
  · rw [Array.getElem?_eq_none h'] at h; simp at h
theorem globs_of {W : World} (h : laidMet Tryz.prog laids W) : Globs W ∧ 8 ≤ W.heap.size := by
  have h5 := h.tail.tail.tail.tail
  obtain ⟨a, s, hv, hc, _, _⟩ := laid_sentinel h5 (g := 3) (ti := 201) (by kernel_rfl) (by kernel_rfl) Tryz.underlying201 row_err Tryz.underlying285 Tryz.underlying287 rfl rfl Tryz.underlying9 (by kernel_rfl) (by kernel_rfl)
  have htab : Lib.TabIs Tryz.prog W "internal/strconv.uint64pow10" .u64 Lib.pow10Tab :=
    Lib.tabIs_of_head (g := 1) (t := 273) (e := 26) (n := 20) (by kernel_rfl) (by kernel_rfl) Tryz.underlying273 Tryz.underlying26 (by kernel_rfl) (by kernel_rfl) h.tail.tail
  refine ⟨⟨⟨_, _, hv⟩, htab⟩, ?_⟩
  obtain ⟨ps, ⟨g', t', cs, fuel, p, q, hg', ht', hvar, _⟩, _⟩ := h.tail
  exact var_lt (g := 7) (by kernel_rfl) hvar
theorem laid_out : laidOutB Tryz.prog = true := by kernel_rfl
end Go.Proofs.YthcdocedpcjbeaaGreatDoor

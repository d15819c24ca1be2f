/-
  The walks of model.named and of a name's key.
-/
import Derived.Test.YthcdocedpcjbeaaGreatDoorW2
import Derived.Test.YthcdocedpcjbeaaGreatDoorShelf
namespace Go.Proofs.YthcdocedpcjbeaaGreatDoor
open Go.RowKit

/-- A key's bytes, and noughts behind them: 32 of them. -/
def nm (s : ByteArray) : List UInt8 := s.data.toList.take 32 ++ List.replicate (32 - s.size) 0
def bytesV (l : List UInt8) : Array Value := (l.map fun b => Value.int .u8 (b.toNat : Int)).toArray
/-- A name as a value. -/
def nameV (l : List UInt8) : Value := .agg (bytesV l)
theorem nm_length (s : ByteArray) : (nm s).length = 32 := by
  have : s.data.toList.length = s.size := by simp
  simp [nm]; omega
theorem bytesV_size (l : List UInt8) : (bytesV l).size = l.length := by simp [bytesV]
theorem bytesV_one (l : List UInt8) : (bytesV l).all (·.oneCell') = true := by
  simp [bytesV, Value.oneCell']

theorem zeros32 : #[Value.int IntKind.u8 0, Value.int IntKind.u8 0, Value.int IntKind.u8 0, Value.int IntKind.u8 0, Value.int IntKind.u8 0, Value.int IntKind.u8 0, Value.int IntKind.u8 0, Value.int IntKind.u8 0, Value.int IntKind.u8 0, Value.int IntKind.u8 0, Value.int IntKind.u8 0, Value.int IntKind.u8 0, Value.int IntKind.u8 0, Value.int IntKind.u8 0, Value.int IntKind.u8 0, Value.int IntKind.u8 0, Value.int IntKind.u8 0, Value.int IntKind.u8 0, Value.int IntKind.u8 0, Value.int IntKind.u8 0, Value.int IntKind.u8 0, Value.int IntKind.u8 0, Value.int IntKind.u8 0, Value.int IntKind.u8 0, Value.int IntKind.u8 0, Value.int IntKind.u8 0, Value.int IntKind.u8 0, Value.int IntKind.u8 0, Value.int IntKind.u8 0, Value.int IntKind.u8 0, Value.int IntKind.u8 0, Value.int IntKind.u8 0] = bytesV (List.replicate 32 0) := by rfl

theorem copy_name (s : ByteArray) (w : World) (hs : s.size ≤ 9223372036854775807) :
    (Builtin.copy_ #[152, 9] 3 #[Value.slice (some { block := w.heap.size, off := 0 }) 32 32, Value.string s]).run Tryz.prog (w.alloc (.cells #[Value.int IntKind.u8 0, Value.int IntKind.u8 0, Value.int IntKind.u8 0, Value.int IntKind.u8 0, Value.int IntKind.u8 0, Value.int IntKind.u8 0, Value.int IntKind.u8 0, Value.int IntKind.u8 0, Value.int IntKind.u8 0, Value.int IntKind.u8 0, Value.int IntKind.u8 0, Value.int IntKind.u8 0, Value.int IntKind.u8 0, Value.int IntKind.u8 0, Value.int IntKind.u8 0, Value.int IntKind.u8 0, Value.int IntKind.u8 0, Value.int IntKind.u8 0, Value.int IntKind.u8 0, Value.int IntKind.u8 0, Value.int IntKind.u8 0, Value.int IntKind.u8 0, Value.int IntKind.u8 0, Value.int IntKind.u8 0, Value.int IntKind.u8 0, Value.int IntKind.u8 0, Value.int IntKind.u8 0, Value.int IntKind.u8 0, Value.int IntKind.u8 0, Value.int IntKind.u8 0, Value.int IntKind.u8 0, Value.int IntKind.u8 0] 111)) =
      .ok (.int .i64 ((min s.size 32 : Nat) : Int)) (w.alloc (.cells (bytesV (nm s)) 111)) := by
  rw [zeros32]
  have hlen : (s.data.toList.map fun b => Value.int .u8 (b.toNat : Int)).length = s.size := by simp
  have hst := run_storeCells_at (P := Tryz.prog) w.heap.size 0 111 ((s.data.toList.map fun b => Value.int .u8 (b.toNat : Int)).take (s.size.min 32)) 0 (bytesV (List.replicate 32 0))
    (w.alloc (.cells (bytesV (List.replicate 32 0)) 111)) (heap_alloc_last w _) (by simp [bytesV_size]; omega)
    (by intro v hv; have := List.mem_of_mem_take hv; rw [List.mem_map] at this; obtain ⟨b, _, rfl⟩ := this; rfl)
  rw [World.setRow_alloc_new] at hst
  have hx : (List.take (0 + 0) (bytesV (List.replicate 32 0)).toList ++ ((s.data.toList.map fun b => Value.int .u8 (b.toNat : Int)).take (s.size.min 32)) ++
      List.drop (0 + 0 + ((s.data.toList.map fun b => Value.int .u8 (b.toNat : Int)).take (s.size.min 32)).length) (bytesV (List.replicate 32 0)).toList).toArray = bytesV (nm s) := by
    simp only [bytesV, nm, List.map_append, List.take_zero, Nat.add_zero, List.nil_append, List.length_take, hlen, Nat.zero_add]
    congr 1
    have e1 : s.size.min 32 = min s.size 32 := rfl
    rw [e1]
    congr 1
    · rw [List.map_take]
      by_cases h : s.size ≤ 32
      · rw [List.take_of_length_le (by rw [hlen]; omega), List.take_of_length_le (by rw [hlen]; omega)]
      · rw [Nat.min_eq_right (by omega)]
    · rw [List.map_replicate, List.map_replicate, List.drop_replicate]
      congr 1
      omega
  rw [hx] at hst
  simp [Builtin.copy_, run_underlying Tryz.underlying152, Builtin.lenOf, Builtin.firstCells, Tryz.sizeOf5]
  rw [show bytesV [0, 0, 0, 0, 0, 0, 0, 0, 0, 0, 0, 0, 0, 0, 0, 0, 0, 0, 0, 0, 0, 0, 0, 0, 0, 0, 0, 0, 0, 0, 0, 0] = bytesV (List.replicate 32 0) from rfl, hst]
  rfl


section
variable {P : Program}
theorem wp_store_new {op : Oper} {a : Act} {w : World} {K : Act → World → Prop} {Q : Exit → Act → World → Prop} (ty : TypeId) (x y : Operand) (ho : op.op = .store ty x y)
    (t : TypeId) (c c' : Array Value) (hx : a.eval x = .pointer (some ⟨w.heap.size, 0, none⟩)) (hy : a.eval y = .agg c')
    (hi : (P.info? t).map (·.size) = some c'.size) (ht : ty = t) (hs : c.size = c'.size) (h1 : c'.all (·.oneCell') = true)
    (h : K (a.put op.dst undef) (w.alloc (.cells c' t))) : op.wp P a (w.alloc (.cells c t)) K Q := by
  subst ht
  unfold Oper.wp execOp
  simp only [ho, hx, hy, Sem.run_bind, run_storeAt_new w ty c c' hi hs h1, Sem.run_pure, Result.andThen_ok]
  exact h
theorem wpList_store_new {ops : Array Oper} {rest : List Oper} {op : Oper} {a : Act} {w : World} {Q : Exit → Act → World → Prop} (hgd : op.guard = none) (ty : TypeId) (x y : Operand) (ho : op.op = .store ty x y)
    (t : TypeId) (c c' : Array Value) (hx : a.eval x = .pointer (some ⟨w.heap.size, 0, none⟩)) (hy : a.eval y = .agg c')
    (hi : (P.info? t).map (·.size) = some c'.size) (ht : ty = t) (hs : c.size = c'.size) (h1 : c'.all (·.oneCell') = true)
    (h : wpList P ops Q rest (a.put op.dst undef) (w.alloc (.cells c' t))) : wpList P ops Q (op :: rest) a (w.alloc (.cells c t)) :=
  wpList_plain hgd fun _ hK => wp_store_new ty x y ho t c c' hx hy hi ht hs h1 (hK _ _ h)
end

theorem info_name (l : List UInt8) (h : l.length = 32) : (Tryz.prog.info? 111).map (·.size) = some (bytesV l).size := by
  rw [bytesV_size, h]; kernel_rfl

set_option maxRecDepth 100000 in
set_option maxHeartbeats 400000 in
theorem named_any (s : ByteArray) (w : World) (hs : s.size ≤ 9223372036854775807) :
    Calls Tryz.prog 45 #[.string s] w fun e w' => e = .returned (nameV (nm s)) ∧ Below w.heap.size w w' := by
  have hc := copy_name s w hs
  have HI := hide (info_name (nm s) (nm_length s))
  clear hs
  go_enter Tryz.func45, Tryz.ntmps45
  go_wp2_with (first
    | (with_reducible refine wpList_load_row rfl 111 (.tmp 2) rfl w.heap.size rfl 111 (bytesV (nm s)) (0, 0) _ (heap_alloc_last w _) Tryz.underlying111 rfl HI.out ?_)
    | (with_reducible refine wpList_store_new rfl 111 (.tmp 2) (.tmp 6) rfl 111 (bytesV (nm s)) (bytesV (nm s)) rfl rfl HI.out rfl rfl (bytesV_one _) ?_))
  (try simp only [Exit.inBlock, Exit.then])
  exact bodyPost_ret (results_cell_row (p := 2) rfl _ _ w.heap.size 111 (bytesV (nm s)) (0, 0) _ rfl (heap_alloc_last w _) Tryz.underlying111 rfl HI.out) rfl ⟨rfl, (Below.refl _ _).alloc (Nat.le_refl _) _⟩

/-- A name's bytes without the noughts behind. -/
def trim (l : List UInt8) : ByteArray := ⟨(Lib.trimRightB l 0).toArray⟩

set_option maxRecDepth 100000 in
set_option maxHeartbeats 400000 in
theorem key_any (l : List UInt8) (hl : l.length = 32) (w : World) :
    Calls Tryz.prog 48 #[nameV l] w fun e w' => e = .returned (.string (trim l)) ∧ Below w.heap.size w w' := by
  have hcv : (convert 152 9 (.slice (some ⟨w.heap.size, 0, none⟩) 32 32)).run Tryz.prog (w.alloc (.cells (bytesV l) 111)) = .ok (.string ⟨l.toArray⟩) (w.alloc (.cells (bytesV l) 111)) := by
    have h := run_convert_bytes_back (P := Tryz.prog) (w.alloc (.cells (bytesV l) 111)) 152 9 5 ⟨w.heap.size, 0, none⟩ 32 l Tryz.underlying152 Tryz.underlying5 Tryz.underlying9 (fun j hj => by
      have hadd : (⟨w.heap.size, 0, none⟩ : Addr).add j = ⟨w.heap.size, j, none⟩ := by unfold Addr.add; split <;> simp_all
      rw [hadd, cell_of_row _ _ j _ _ (0, 0) (heap_alloc_last w _)]
      simp [bytesV, hj])
    rwa [hl] at h
  have HI := hide (info_name l hl)
  have hsz : (⟨l.toArray⟩ : ByteArray).size ≤ 9223372036854775807 := by
    have : (⟨l.toArray⟩ : ByteArray).size = l.length := rfl
    omega
  have HT := hide (Tryz.strings_TrimRight_one ⟨l.toArray⟩ 0 (by decide))
  clear hl
  unfold nameV
  go_enter Tryz.func48, Tryz.ntmps48
  go_wp2_with (go_at_call 83; refine (HT.out _ hsz).mono ?_; rintro e w' ⟨rfl, rfl⟩)
  go_ret
  exact ⟨rfl, (Below.refl _ _).alloc (Nat.le_refl _) _⟩
end Go.Proofs.YthcdocedpcjbeaaGreatDoor

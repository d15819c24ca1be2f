/-
  The walk of tallboylaw15's Own; a row of texts that is appended to a row of the call's own.
-/
import Derived.Test.YthcdocedpcjbeaaGreatDoorArg
import Derived.Test.YthcdocedpcjbeaaGreatDoorW13
import Derived.Deep.AppendSrc
import Derived.Deep.DeepMust
namespace Go.Proofs.YthcdocedpcjbeaaGreatDoor
open Go.RowKit

theorem info_of {P : Program} {t : TypeId} {z : Value} {s b : Nat} (h : (P.info? t).map (fun i => (i.zero, i.size, i.bytes)) = some (some z, s, b)) : ∃ i, P.info? t = some i ∧ i.zero = some z ∧ i.size = s ∧ i.bytes = b := by
  cases hq : P.info? t with
  | none => rw [hq] at h; cases h
  | some i => rw [hq] at h; simp at h; exact ⟨i, rfl, h.1, h.2.1, h.2.2⟩
theorem strs_none {w : World} {ks : List ByteArray} (h : Strs w none ks) : ks = [] := by
  cases ks with
  | nil => rfl
  | cons k r => obtain ⟨ad, h1, _⟩ := h 0 k rfl; cases h1
theorem strInfo : (Tryz.prog.info? 9).map (fun i => (i.zero, i.size, i.bytes)) = some (some (.string ⟨#[]⟩), 1, 16) := by kernel_rfl

section
variable (w : World)
theorem run_append_none (t e ty : TypeId) (ht : Tryz.prog.underlying t = some (.slice e)) (hi : (Tryz.prog.info? e).map (·.size) = some 1) {base : Nat} {v : Value} {n : Nat} {xs : List Value} (h : w.ownsRow base e 1 v n xs) (cap : Nat) :
    (Builtin.append_ #[t, t] ty #[v, .slice none 0 cap]).run Tryz.prog w = .ok v w := by
  obtain ⟨i, hi1, hi2⟩ := Option.map_eq_some_iff.1 hi
  rcases h.2 with ⟨rfl, _⟩ | ⟨g, cp, cur, rfl, _, hb, h1, _, h3, _⟩
  · simp [Builtin.append_, run_underlying ht, Builtin.lenOf, sizeOf, typeInfo, hi1, Builtin.firstCells]
  · have := run_append_room_src (P := Tryz.prog) w t t ty e i ht hi1 g 0 n cp (.slice none 0 cap) 0 [] (Src.ofNil w ht cap) (by omega) (by simp) (by simp)
    simpa [World.setCells] using this
set_option maxRecDepth 100000 in
theorem wpList_append_strs {ops : Array Oper} {rest : List Oper} {o : Oper} {a : Act} {Q : Exit → Act → World → Prop} (hgd : o.guard = none) (s x : Operand)
    (ho : o.op = .call { callee := .builtin .append, args := #[s, x], argTypes := #[28, 28] })
    {base : Nat} {v : Value} {n : Nat} {xs : List Value} (hs : a.eval s = v) (hown : w.ownsRow base 9 1 v n xs) (A : Option Addr) (cap : Nat) (ks : List ByteArray) (hx : a.eval x = .slice A ks.length cap) (hK : Strs w A ks)
    (hlen : n + ks.length ≤ 1000000) (hbase : base ≤ w.heap.size)
    (h : ∀ v' w', w'.ownsRow base 9 1 v' (n + ks.length) (xs ++ ks.map .string) → w.grownBy w' v.ownBlock → wpList Tryz.prog ops Q rest (a.put o.dst v') w') : wpList Tryz.prog ops Q (o :: rest) a w := by
  obtain ⟨i0, hi0, hz0, hz1, hz2⟩ := info_of strInfo
  cases A with
  | none =>
    obtain rfl := strs_none hK
    refine wpList_plain hgd fun K' hK' => ?_
    have hr := run_append_none w 28 9 o.type Tryz.underlying28 (by rw [hi0]; simp [hz1]) hown cap
    have hx' : a.eval x = .slice none 0 cap := hx
    unfold Oper.wp
    simp [execOp, ho, resolve, invoke, builtin, hs, hx', hr, Result.andThen]
    exact hK' _ _ (h v w (by simpa using hown) ⟨rfl, rfl, rfl, Nat.le_refl _, fun _ _ _ => rfl⟩)
  | some ad =>
    refine wpList_append_own w hgd s x 28 ho base 9 i0 _ 1 16 Tryz.underlying28 hi0 hz0 hz1 hz2 rfl (by decide) v n xs hs hown ad ks.length cap (ks.map .string) hx (by simp) (fun j u hj => ?_) (fun u hu => ?_) ?_ ?_ hbase (fun v' w' h1 h2 _ => h v' w' h1 h2)
    · rw [List.getElem?_map] at hj
      cases hq : ks[j]? with
      | none => rw [hq] at hj; cases hj
      | some k =>
        rw [hq] at hj
        injection hj with hj
        subst hj
        obtain ⟨ad', h1, h2⟩ := hK j k hq
        injection h1 with h1
        subst h1
        exact h2
    · obtain ⟨k, _, rfl⟩ := List.mem_map.1 hu; rfl
    · unfold maxLen; omega
    · omega
theorem strs_of_own {W : World} {base : Nat} {v : Value} {ks : List ByteArray} (h : W.ownsRow base 9 1 v ks.length (ks.map .string)) : ∃ A cap, v = .slice A ks.length cap ∧ Strs W A ks := by
  rcases h.2 with ⟨rfl, h0⟩ | ⟨g, cp, cur, rfl, _⟩
  · refine ⟨none, 0, by rw [h0], ?_⟩
    have : ks = [] := List.length_eq_zero_iff.1 h0
    rw [this]
    intro i s hi
    simp at hi
  · refine ⟨some ⟨g, 0, none⟩, cp, rfl, fun i s hi => ⟨_, rfl, ?_⟩⟩
    have hlt := (List.getElem?_eq_some_iff.1 hi).1
    have hadd : (⟨g, 0, none⟩ : Addr).add i = ⟨g, i, none⟩ := by unfold Addr.add; split <;> simp_all
    rw [hadd, h.cellAt i (by omega), List.getElem?_map, hi]
    rfl
end
theorem strs_own {W : World} {base : Nat} {A : Option Addr} {cp : Nat} {ks : List ByteArray} (h : W.ownsRow base 9 1 (.slice A ks.length cp) ks.length (ks.map .string)) : Strs W A ks := by
  obtain ⟨A', cp', e, hs⟩ := strs_of_own h
  injection e with e
  subst e
  exact hs
def OwnDone (c : Cmd) (w : World) (e : Ending) (w' : World) : Prop := ∃ A' cap', e = .returned (cmdV c A' cap') ∧ Strs w' A' c.keys ∧ Below w.heap.size w w'

set_option maxRecDepth 100000 in
set_option maxHeartbeats 1000000 in
theorem own_any (c : Cmd) (A : Option Addr) (cap : Nat) (w : World) (hK : Strs w A c.keys) (hlen : c.keys.length ≤ 1000) :
    Calls Tryz.prog 14 #[cmdV c A cap] w (OwnDone c w) := by
  have HK := hide hK
  clear hK
  unfold cmdV
  go_enter Tryz.func14, Tryz.ntmps14
  go_upto_region 1 with fail
  obtain ⟨W, hW⟩ : ∃ W, W = (w.alloc (.cells (cmdCells c A cap) 31)).alloc (.cells #[.int .i64 0, .slice none 0 0, .int .u32 0, .int .i64 0, .string ⟨#[]⟩, .int .u64 0, .int .u64 0, .bool false] 31) := ⟨_, rfl⟩
  have hWc := hW
  unfold cmdCells at hWc
  rw [← hWc]
  have hb1 : Blk W w.heap.size 31 (cmdCells c A cap) := by rw [hW]; exact (Blk.new _ _ _).alloc _
  have hb2 : Blk W (w.heap.size + 1) 31 #[.int .i64 0, .slice none 0 0, .int .u32 0, .int .i64 0, .string ⟨#[]⟩, .int .u64 0, .int .u64 0, .bool false] := by
    rw [hW]
    have := Blk.new (w.alloc (.cells (cmdCells c A cap) 31)) 31 #[.int .i64 0, .slice none 0 0, .int .u32 0, .int .i64 0, .string ⟨#[]⟩, .int .u64 0, .int .u64 0, .bool false]
    rwa [show (w.alloc (.cells (cmdCells c A cap) 31)).heap.size = w.heap.size + 1 by simp] at this
  have hbW : Below w.heap.size w W := by rw [hW]; exact Below.al (Below.al (Below.refl _ _) _) _
  have HBW := hide hbW
  have HKW := hide (HK.out.below hbW)
  have hr8 := hb1.cell
  simp only [cmdCells] at hr8
  have hl8 := hb1.lt
  have HB1 := hide hb1
  have HB2 := hide hb2
  clear hWc hW hb1 hb2 hbW
  have HE := hide (⟨rfl, .inr ⟨W.heap.size, 0, #[], rfl, HBW.out.size, heap_alloc_new W _, Nat.le_refl _, Nat.zero_le _, rfl, rfl⟩⟩ : (W.alloc (.cells #[] 9)).ownsRow w.heap.size 9 1 (.slice (some ⟨W.heap.size, 0, none⟩) 0 0) 0 [])
  go_upto_region 2 with (at_builtin; go_must (refine wpList_append_strs _ rfl (.tmp 3) (.tmp 5) rfl rfl HE.out A cap c.keys rfl (HKW.out.below (Below.al (Below.refl _ _) _)) (by omega) (Nat.le_trans HBW.out.size (by simp)) ?_; intro v1 w1 ho1 hg0; have hg1 : (W.alloc (.cells #[] 9)).grownBy w1 (some W.heap.size) := hg0; obtain ⟨A1, cp1, rfl, hs1⟩ := strs_of_own (ks := c.keys) (by simpa using ho1); have HO1 : Hid (w1.ownsRow w.heap.size 9 1 (.slice A1 c.keys.length cp1) c.keys.length (c.keys.map .string)) := hide (by simpa using ho1); have HB11 := hide ((HB1.out.alloc (.cells #[] 9)).chg (Chg.of_grown hg1) (fun e => by injection e with e; omega)); obtain ⟨p1, p2, p3⟩ := HB11.out.rules; simp only [cmdCells] at p1; have HB22 := hide ((HB2.out.alloc (.cells #[] 9)).chg (Chg.of_grown hg1) (fun e => by injection e with e; have := HB2.out.lt; omega)); have HC1 := hide (Chg.then_ (S := fun _ => False) (Chg.of_below (Below.al HBW.out (.cells #[] 9))) (Chg.of_grown hg1) (fun i hi e => by injection e with e; have := HBW.out.size; omega)); clear ho1 hg0 hg1 hs1))
  obtain ⟨p4, p5, p6⟩ := HB22.out.rules
  have hn1 : Hid ((Value.slice A1 c.keys.length cp1).ownBlock ≠ some w.heap.size) := hide (own_ne_blk HO1.out HB11.out (by decide))
  have hn2 : Hid ((Value.slice A1 c.keys.length cp1).ownBlock ≠ some (w.heap.size + 1)) := hide (own_ne_blk HO1.out HB22.out (by decide))
  go_wp2
  (try simp only [Exit.inBlock, Exit.then])
  refine bodyPost_ret (v := cmdV c A1 cp1) (by simp [results, cmdV, Tryz.results14, go_sem, *]) rfl ⟨A1, cp1, rfl, ?_, ?_⟩
  · refine strs_own (base := w.heap.size) (cp := cp1) ?_
    have hO := HO1.out
    repeat (first | with_reducible exact hO | with_reducible refine own_far ?_ hn2.out _ | with_reducible refine own_far ?_ hn1.out _)
  · have hB := HC1.out.below
    repeat (first | with_reducible exact hB | with_reducible refine Below.setCell ?_ (by simp) _)
end Go.Proofs.YthcdocedpcjbeaaGreatDoor

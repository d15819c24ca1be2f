/-
  The walks of digits.Text and digits.Parse.
-/
import Derived.Test.YthcdocedpcjbeaaGreatDoorW2
import Derived.Test.YthcdocedpcjbeaaGreatDoorShelf
import Derived.Lib.AppendIntMem
namespace Go.Proofs.YthcdocedpcjbeaaGreatDoor
open Go.RowKit Go.Sort

/-- The table that the library's writing of numbers reads. -/
abbrev Tab (w : World) : Prop := Lib.TabIs Tryz.prog w "internal/strconv.uint64pow10" .u64 Lib.pow10Tab
def dec (u : Nat) : ByteArray := ⟨(Lib.decDigits u).toArray⟩

theorem putRow_below (w : World) (o : Obj) (dk : Array UInt8) (k off : Nat) : Below w.heap.size w ((putRow (fun (b : UInt8) => Value.int .u8 (b.toNat : Int)) (w.alloc o) w.heap.size off dk).drewN k) := by
  rw [alloc_eq_grow]
  obtain ⟨os', _, e⟩ := putRow_grow_new (fun (b : UInt8) => Value.int .u8 (b.toNat : Int)) w #[o] w.heap.size off dk (Nat.le_refl _)
  rw [e]
  exact ⟨rfl, rfl, rfl, by simp [grow], fun i hi => by simp [grow, World.drewN, Array.getElem?_append, hi]⟩

set_option maxHeartbeats 3200000 in
set_option maxRecDepth 100000 in
theorem fmtUint_any (u : Nat) (hu64 : u < 18446744073709551616) (w : World) (htab : Tab w) :
    Calls Tryz.prog 152 #[.int .u64 u, .int .i64 10] w fun e w' => e = .returned (.string (dec u)) ∧ Below w.heap.size w w' := by
  by_cases hi : u < 100
  · clear hu64
    go_enter Tryz.func152, Tryz.ntmps152
    go_wp2_with (go_at_call 174; refine (Tryz.internal_strconv_small u hi _).mono ?_; rintro e w' ⟨rfl, rfl⟩)
    go_ret
    exact ⟨rfl, Below.refl _ _⟩
  · have hu1 : 1 ≤ u := by omega
    have hnd20 : Lib.nDigits u ≤ 20 := by have := Lib.numDigits_eq u hu1 hu64; split at this <;> omega
    have hal : Tryz.prog.arrayLen 255 = 24 := by simp [Program.arrayLen, Tryz.underlying255]
    have hsl : ∀ W, (Instr.sliceAt 255 (.pointer (some ⟨w.heap.size, 0, none⟩)) none (some (.int .i64 (Lib.nDigits u : Int))) none).run Tryz.prog W = .ok (.slice (some ⟨w.heap.size, 0, none⟩) (Lib.nDigits u) 24) W := fun W => by
      rw [run_sliceAt_array_h W 255 ⟨w.heap.size, 0, none⟩ (by simp [Program.arrayLen, Program.elem, Tryz.underlying255]) .i64 (Lib.nDigits u : Int) (by omega) (by rw [hal]; omega)]
      go_simp
    have hH0 := Lib.holds_zero0 w 255 (Lib.nDigits u) (by omega)
    have hfmt := Tryz.internal_strconv_formatBase10 w.heap.size 0 24 u (Array.replicate (Lib.nDigits u) 0) (w.alloc (.cells Lib.zeros24 255)) hH0 (by rw [Array.size_replicate]; exact Lib.lt_pow_nDigits u) hu64 (by rw [Array.size_replicate]; omega)
    rw [Array.size_replicate] at hfmt
    have HH0 := hide hH0
    have HF := hide hfmt
    clear hH0 hal hfmt
    go_enter Tryz.func152, Tryz.ntmps152
    go_wp2_with (go_at_call 175; refine (Tryz.internal_strconv_numDigits u hu1 hu64 _ (Lib.tabIs_alloc htab _)).mono ?_; rintro e w' ⟨rfl, rfl⟩)
    refine HF.out.mono ?_
    rintro e w' ⟨rfl, k, v', dk, rfl, hF⟩
    have hcv : (convert 152 9 (.slice (some ⟨w.heap.size, 0, none⟩) (Lib.nDigits u) 24)).run Tryz.prog ((putRow (fun (b : UInt8) => Value.int .u8 (b.toNat : Int)) (w.alloc (.cells Lib.zeros24 255)) w.heap.size 0 dk).drewN k) = .ok (.string (dec u)) ((putRow (fun (b : UInt8) => Value.int .u8 (b.toNat : Int)) (w.alloc (.cells Lib.zeros24 255)) w.heap.size 0 dk).drewN k) := by
      have h := run_convert_bytes_back (P := Tryz.prog) ((putRow (fun (b : UInt8) => Value.int .u8 (b.toNat : Int)) (w.alloc (.cells Lib.zeros24 255)) w.heap.size 0 dk).drewN k) 152 9 5 ⟨w.heap.size, 0, none⟩ 24 (Lib.decDigits u) Tryz.underlying152 Tryz.underlying5 Tryz.underlying9 (fun j hj => by
        rw [Lib.row_is_numeral hF j hj, Lib.add_plain, World.cell?_drewN]
        exact cell?_putRow (fun (b : UInt8) => Value.int .u8 (b.toNat : Int)) _ w.heap.size 0 _ dk HH0.out (by rw [hF.size, Array.size_replicate]) j (by rw [hF.size]; rw [Lib.decDigits_length] at hj; exact hj))
      rw [Lib.decDigits_length] at h
      exact h
    go_wp2
    go_ret
    exact ⟨rfl, putRow_below _ _ _ _ _⟩
set_option maxHeartbeats 400000 in
theorem fmtUint2 (u : Nat) (hu64 : u < 18446744073709551616) (w : World) (htab : Tab w) :
    Calls Tryz.prog 113 #[.int .u64 u, .int .i64 10] w fun e w' => e = .returned (.string (dec u)) ∧ Below w.heap.size w w' := by
  have HC := hide (fmtUint_any u hu64 w htab)
  clear hu64 htab
  go_enter Tryz.func113, Tryz.ntmps113
  go_wp2_with (refine HC.out.mono ?_; rintro e w' ⟨rfl, hb⟩; have HB := hide hb; clear hb)
  go_ret
  exact ⟨rfl, HB.out⟩

set_option maxHeartbeats 400000 in
theorem text_any (u : Nat) (hu64 : u < 18446744073709551616) (w : World) (htab : Tab w) :
    Calls Tryz.prog 70 #[.int .u64 u] w fun e w' => e = .returned (.string (dec u)) ∧ Below w.heap.size w w' := by
  have HC := hide (fmtUint2 u hu64 w htab)
  clear hu64 htab
  go_enter Tryz.func70, Tryz.ntmps70
  go_wp2_with (refine HC.out.mono ?_; rintro e w' ⟨rfl, hb⟩; have HB := hide hb; clear hb)
  go_ret
  exact ⟨rfl, HB.out⟩

def isDig (c : UInt8) : Bool := decide (48 ≤ c.toNat) && decide (c.toNat ≤ 57)
theorem indexDig (c : UInt8) : decide (Lib.indexByte [48, 49, 50, 51, 52, 53, 54, 55, 56, 57] c < 0) = !isDig c := by
  have h : ∀ n, n < 256 → decide (Lib.indexByte [48, 49, 50, 51, 52, 53, 54, 55, 56, 57] (UInt8.ofNat n) < 0) = !isDig (UInt8.ofNat n) := by decide +kernel
  have := h c.toNat c.toNat_lt
  simpa using this

/-- digits.Parse: the number, and what is wrong. -/
def parse (s : ByteArray) : Int × Int :=
  if s.data.toList.all isDig then
    (if s.size = 0 then (0, 6) else if 20 < s.size then (0, 7) else
      match Lib.parseUintB 64 s.data.toList with
      | .ok u => (u, 0)
      | _ => (0, 1))
  else (0, 6)

theorem take_all_succ (s : ByteArray) (p : UInt8 → Bool) (k : Nat) (h : k < s.size) : (s.data.toList.take (k + 1)).all p = ((s.data.toList.take k).all p && p s[k]) := all_take_succ s p k h

theorem indexByte_any (s : ByteArray) (c : Int) (w : World) :
    Calls Tryz.prog 118 #[.string s, .int .u8 c] w fun e w' => e = .returned (.int .i64 (Lib.indexByte s.data.toList c.toNat.toUInt8)) ∧ w = w' :=
  (Tryz.strings_IndexByte s c w).mono fun _ _ h => ⟨h.1, h.2.symm⟩

set_option maxHeartbeats 1000000 in
theorem parse_no (s : ByteArray) (w : World) (hs : s.size ≤ 9223372036854775807) (hd : s.data.toList.all isDig = false) :
    Calls Tryz.prog 82 #[.string s] w fun e w' => e = .returned (.tuple #[.int .u64 0, .int .i64 6]) ∧ Below w.heap.size w w' := by
  have HD := hide hd
  clear hd
  go_enter Tryz.func82, Tryz.ntmps82
  go_wp2
  go_loop [9] (fun i => ∃ k : Nat, k ≤ s.size ∧ i = .int .i64 k ∧ Hid ((s.data.toList.take k).all isDig = true)) (fun i => s.size - (intOf i).toNat)
  case atStart => exact ⟨0, Nat.zero_le _, rfl, rfl⟩
  case round =>
    obtain ⟨k, hk, rfl, ha⟩ := hrel
    by_cases hlt : k < s.size
    · have hts := all_take_succ s isDig k hlt
      rw [ha.out, Bool.true_and] at hts
      have HS := hide hts
      have hi := indexDig s[k]
      have HI := hide hi
      clear hts hi
      go_wp2_with (go_at_call 118; refine (indexByte_any _ _ _).mono ?_; rintro e w' ⟨rfl, rfl⟩)
      all_goals first
        | (go_ret2
           exact ⟨rfl, Below.refl _ _⟩)
        | (go_round
           case rel =>
             refine ⟨k + 1, by omega, by go_num, hide (HS.out.trans ?_)⟩
             have h := HI.out
             rw [decide_eq_false (by omega)] at h
             simpa using h.symm
           case measure => simp [intOf]; omega)
    · have := ha.out
      rw [List.take_of_length_le (by simp; omega), HD.out] at this
      cases this

theorem parseM_fine : ∀ (l : List UInt8) (M acc : Nat), l.all isDig = true → (∃ u, Lib.parseUintM M acc l = .ok u) ∨ Lib.parseUintM M acc l = .range
  | [], _, _, _ => .inl ⟨_, by simp only [Lib.parseUintM]; rfl⟩
  | c :: r, M, acc, h => by
    simp only [List.all_cons, Bool.and_eq_true, isDig, decide_eq_true_eq] at h
    simp only [Lib.parseUintM]
    rw [if_pos h.1]
    split
    · exact .inr rfl
    · split
      · exact .inr rfl
      · exact parseM_fine r _ _ h.2
theorem parse_fine (s : ByteArray) (h0 : ¬ s.size = 0) (hd : s.data.toList.all isDig = true) : (∃ u, Lib.parseUintB 64 s.data.toList = .ok u) ∨ Lib.parseUintB 64 s.data.toList = .range := by
  have hl : s.data.toList ≠ [] := fun e => h0 (by
    have : s.data.toList.length = s.size := by simp
    rw [e] at this; simpa using this.symm)
  unfold Lib.parseUintB
  rw [if_neg hl]
  exact parseM_fine _ _ _ hd
theorem bytesWorld_below (w : World) (t : TypeId) (s : ByteArray) : Below w.heap.size w (Lib.bytesWorld w t s) := by
  unfold Lib.bytesWorld
  have h1 : Below w.heap.size w (w.drew.alloc (.cells (Lib.bytesCells w t s) t)) := ((Below.refl _ _).drew).alloc (Nat.le_refl _) _
  refine h1.trans ?_
  unfold World.freeze
  split
  · exact Below.refl _ _
  · exact ⟨rfl, rfl, rfl, by simp, fun k hk => by
      rw [Array.getElem?_modify, if_neg (by show ¬ w.heap.size = k; omega)]⟩

/-- what is asked of the error's variable. -/
def ErrV (w : World) : Prop := ∃ tp p, w.var? Tryz.prog "strconv.ErrRange" = some #[.iface tp p]

set_option maxHeartbeats 1000000 in
theorem parse_yes (s : ByteArray) (w : World) (hs : s.size ≤ 9223372036854775807) (hd : s.data.toList.all isDig = true) (hev : ErrV w) :
    Calls Tryz.prog 82 #[.string s] w fun e w' => e = .returned (.tuple #[.int .u64 (parse s).1, .int .i64 (parse s).2]) ∧ Below w.heap.size w w' := by
  have HD := hide hd
  have HV := hide hev
  clear hd hev
  go_enter Tryz.func82, Tryz.ntmps82
  go_wp2
  go_loop [9] (fun i => ∃ k : Nat, k ≤ s.size ∧ i = .int .i64 k) (fun i => s.size - (intOf i).toNat)
  case atStart => exact ⟨0, Nat.zero_le _, rfl⟩
  case round =>
    obtain ⟨k, hk, rfl⟩ := hrel
    by_cases hlt : k < s.size
    · have hi := indexDig s[k]
      have hdk : isDig s[k] = true := List.all_eq_true.1 HD.out _ (List.getElem_mem (l := s.data.toList) (n := k) (by simpa using hlt))
      rw [hdk] at hi
      have hnn : 0 ≤ Lib.indexByte [48, 49, 50, 51, 52, 53, 54, 55, 56, 57] s[k] := by
        simp at hi; omega
      clear hi hdk
      go_wp2_with (go_at_call 118; refine (indexByte_any _ _ _).mono ?_; rintro e w' ⟨rfl, rfl⟩)
      go_round
      case rel => exact ⟨k + 1, by omega, by go_num⟩
      case measure => simp [intOf]; omega
    · by_cases h0 : s.size = 0
      · obtain rfl := empty_of_size h0
        go_wp2
        go_ret2
        exact ⟨rfl, Below.refl _ _⟩
      · have he : s.toList.isEmpty = false := isEmpty_false h0
        by_cases h20 : 20 < s.size
        · have HP : Hid (parse s = (0, 7)) := hide (by simp [parse, HD.out, h0, h20])
          have H0 := hide h0
          clear h0
          go_wp2
          go_ret2
          exact ⟨by rw [HP.out]; rfl, Below.refl _ _⟩
        · have H0 := hide h0
          have H20 := hide h20
          cases hp : Lib.parseUintB 64 s.data.toList with
          | ok u =>
            have HP : Hid (parse s = ((u : Int), 0)) := hide (by simp [parse, HD.out, h0, h20, hp])
            have HO := hide (Tryz.strconv_ParseUint_10_at64_ok s (by omega) u hp)
            clear hp h0
            go_wp2_with (go_at_call 119; refine (HO.out _).mono ?_; rintro e w' ⟨rfl, hb⟩; have HB := hide hb; clear hb)
            go_ret2
            refine ⟨by rw [HP.out]; rfl, ?_⟩
            rcases HB.out with h | h
            · rw [h]; exact Below.refl _ _
            · rw [h]; exact bytesWorld_below _ _ _
          | range =>
            have HP : Hid (parse s = (0, 1)) := hide (by simp [parse, HD.out, h0, h20, hp])
            obtain ⟨tp, p, hv⟩ := HV.out
            have HO := hide (Tryz.strconv_ParseUint_10_at64_range_var s (by omega) hp tp p _ hv)
            clear hp h0 hv
            go_wp2_with (go_at_call 119; refine HO.out.mono ?_; rintro e w' ⟨N, rfl, hb1, hb2, hb⟩; have HB := hide hb; clear hb hb1 hb2)
            go_ret2
            exact ⟨by rw [HP.out]; rfl, HB.out⟩
          | _ => rcases parse_fine s h0 HD.out with ⟨u, h⟩ | h <;> (rw [h] at hp; cases hp)

theorem parse_any (s : ByteArray) (w : World) (hs : s.size ≤ 9223372036854775807) (hev : ErrV w) :
    Calls Tryz.prog 82 #[.string s] w fun e w' => e = .returned (.tuple #[.int .u64 (parse s).1, .int .i64 (parse s).2]) ∧ Below w.heap.size w w' := by
  cases hd : s.data.toList.all isDig
  · exact (parse_no s w hs hd).mono fun _ _ h => ⟨by rw [h.1]; simp [parse, hd], h.2⟩
  · exact parse_yes s w hs hd hev
end Go.Proofs.YthcdocedpcjbeaaGreatDoor

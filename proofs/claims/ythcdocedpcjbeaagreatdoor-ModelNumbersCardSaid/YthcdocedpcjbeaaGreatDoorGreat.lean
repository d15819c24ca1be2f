/-
  The walk of tallboylaw15's Great.
-/
import Derived.Test.YthcdocedpcjbeaaGreatDoorArg
namespace Go.Proofs.YthcdocedpcjbeaaGreatDoor
open Go.RowKit

/-- so many bytes, added up while they are less than ten thousand. -/
def greatN (n : Int) : List ByteArray → Int
  | [] => n
  | s :: r => if n < 10000 then greatN (wrap64 (n + (s.size : Int))) r else n
def greatP (c : Cmd) : Bool := decide (10000 ≤ greatN (c.val.size : Int) c.keys) || decide ((100 : Int) < (c.keys.length : Int))
theorem greatP_len {c : Cmd} (h : greatP c = false) : c.keys.length ≤ 100 := by
  unfold greatP at h
  simp only [Bool.or_eq_false_iff, decide_eq_false_iff_not] at h
  omega
theorem greatN_big {n : Int} (h : ¬ n < 10000) (l : List ByteArray) : greatN n l = n := by
  cases l with
  | nil => rfl
  | cons s r => unfold greatN; rw [if_neg h]
theorem greatN_step {n : Int} (h : n < 10000) {ks : List ByteArray} {k : Nat} {s : ByteArray} (hs : ks[k]? = some s) : greatN n (ks.drop k) = greatN (wrap64 (n + (s.size : Int))) (ks.drop (k + 1)) := by
  have hlt := (List.getElem?_eq_some_iff.1 hs).1
  have he := (List.getElem?_eq_some_iff.1 hs).2
  rw [List.drop_eq_getElem_cons hlt, he, greatN, if_pos h]
def GreatDone (c : Cmd) (w : World) (e : Ending) (w' : World) : Prop := e = .returned (.bool (greatP c)) ∧ Below w.heap.size w w'

set_option maxRecDepth 100000 in
set_option maxHeartbeats 2000000 in
theorem great_any (c : Cmd) (A : Option Addr) (cap : Nat) (w : World) (hK : Strs w A c.keys) (hlen : c.keys.length ≤ 9223372036854775807) :
    Calls Tryz.prog 12 #[cmdV c A cap] w (GreatDone c w) := by
  have HK := hide hK
  clear hK
  unfold cmdV
  go_enter Tryz.func12, Tryz.ntmps12
  go_upto_region 3 with fail
  obtain ⟨W, hW⟩ : ∃ W, W = w.alloc (.cells (cmdCells c A cap) 31) := ⟨_, rfl⟩
  have hWc := hW
  unfold cmdCells at hWc
  rw [← hWc]
  have hblk : Blk W w.heap.size 31 (cmdCells c A cap) := by rw [hW]; exact Blk.new _ _ _
  have hbW : Below w.heap.size w W := by rw [hW]; exact Below.al (Below.refl _ _) _
  have HKW := hide (HK.out.below hbW)
  have hr8 := hblk.cell
  simp only [cmdCells] at hr8
  have hl8 := hblk.lt
  have HBW := hide hbW
  clear hW hWc hbW hblk
  obtain ⟨g8, hg8⟩ : ∃ g8, w.heap.size = g8 := ⟨_, rfl⟩
  have HBW2 := hide HBW.out
  rw [hg8] at hr8 hl8 ⊢
  clear hg8 HBW
  go_loopg [3, 4] c.keys.length (fun n mv kv wx => ∃ (k : Nat) (nn : Int), n + k = c.keys.length ∧ kv = .int .i64 k ∧ mv = .int .i64 nn ∧ wx = W ∧ Hid (greatN (c.val.size : Int) c.keys = greatN nn (c.keys.drop k)))
  case atStart => exact ⟨0, _, rfl, rfl, rfl, rfl, hide rfl⟩
  case round =>
    obtain ⟨k, nn, hk, rfl, rfl, hwx, HN⟩ := hrel
    subst hwx
    by_cases hkk : k < c.keys.length
    · obtain ⟨s, hs⟩ : ∃ s, c.keys[k]? = some s := ⟨_, List.getElem?_eq_getElem hkk⟩
      obtain ⟨ad1, hAd1, hcell1⟩ := HKW.out k s hs
      subst hAd1
      have HS := hide hs
      clear hs
      by_cases hn : nn < 10000
      · go_wp2
        go_roundg (gk - 1)
        case measure => omega
        case rel => exact ⟨k + 1, _, by omega, by go_num, rfl, rfl, hide (HN.out.trans (greatN_step hn HS.out))⟩
      · have hG : greatP c = true := by unfold greatP; rw [HN.out, greatN_big hn]; simp; omega
        have HG := hide hG
        clear hG
        go_wp2
        go_ret
        exact ⟨by rw [HG.out]; rfl, HBW2.out⟩
    · have hG : greatP c = (decide (10000 ≤ nn) || decide ((100 : Int) < (c.keys.length : Int))) := by unfold greatP; rw [HN.out, List.drop_of_length_le (by omega)]; rfl
      have HG := hide hG
      clear hG
      by_cases hn : nn < 10000
      · go_wp2
        go_ret
        exact ⟨by rw [HG.out]; rfl, HBW2.out⟩
      · go_wp2
        go_ret
        have h1 : decide (10000 ≤ nn) = true := by simpa using hn
        exact ⟨by rw [HG.out, h1]; rfl, HBW2.out⟩
end Go.Proofs.YthcdocedpcjbeaaGreatDoor

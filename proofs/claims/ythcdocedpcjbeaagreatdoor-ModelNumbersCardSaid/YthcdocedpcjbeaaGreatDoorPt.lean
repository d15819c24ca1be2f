/-
  Plain laws of single commands: set, touch, gats.
-/
import Derived.Test.YthcdocedpcjbeaaGreatDoorW16
namespace Go.Proofs.YthcdocedpcjbeaaGreatDoor
open Go.RowKit

def bK : ByteArray := ⟨#[107]⟩
theorem posE_self (k : ByteArray) (e : Ent) (i : Nat) : posE k [(k, e)] i = some (i, e) := by simp [posE]
theorem putN_self (k : ByteArray) (e e' : Ent) : putN [(k, e)] k e' = [(k, e')] := by unfold putN; rw [posE_self]; rfl
theorem putN_nil (k : ByteArray) (e' : Ent) : putN [] k e' = [(k, e')] := rfl
theorem foundN_self (k : ByteArray) (e : Ent) : foundN [(k, e)] k = e := by unfold foundN; rw [posE_self]; rfl
theorem getN_self {k : ByteArray} (ht : trim (nm k) = k) (e : Ent) (now : Int) : getN [(k, e)] k now = if Pl.gone e.exp now then none else some e := by
  unfold getN
  rw [posE_self, foundN_self, decide_eq_true ht]
  cases Pl.gone e.exp now <;> rfl
theorem getN_nil (k : ByteArray) (now : Int) : getN [] k now = none := rfl
theorem trimK : trim (nm bK) = bK := by kernel_rfl
theorem check_of {c : Cmd} (h1 : Pl.isKind c.kind = true) (h2 : Pl.same c = true) (h3 : Pl.keysOk c.kind c.keys.length = true) (h4 : c.keys.all Pl.isKey = true) (h5 : c.val.size ≤ 2000) : Pl.check c = 0 := by
  unfold Pl.check
  rw [if_pos h1, if_pos (by rw [h2, h3, h4]; rfl), if_pos h5]

/-- a set of a key, with flags and an end. -/
def setF (k v : ByteArray) (flags exp : Int) : Cmd := ⟨5, [k], flags, exp, v, 0, 0, false⟩
theorem set_check {k v : ByteArray} {flags exp : Int} (hk : Pl.isKey k = true) (hv : v.size ≤ 2000) : Pl.check (setF k v flags exp) = 0 := by
  exact check_of rfl (by simp [setF, Pl.same, Pl.stores, Pl.hasEnds, Pl.isReads, ba_self]) rfl (by simp [setF, hk]) hv
theorem set_do {k v : ByteArray} {flags exp now : Int} (hk : Pl.isKey k = true) (hv : v.size ≤ 2000) (hn : Pl.second now = true) (l : Ents) (laid : Int) :
    errOf (setF k v flags exp) now = 0 ∧ doM (setF k v flags exp) now false l laid = ⟨2, [], 0, putN l k ⟨v, flags, Pl.ends now exp, u64 (laid + 1)⟩, u64 (laid + 1)⟩ := by
  have h1 : errOf (setF k v flags exp) now = 0 := by unfold errOf; rw [set_check hk hv, hn]; rfl
  refine ⟨h1, ?_⟩
  unfold doM
  rw [if_pos h1]
  rw [doIn_store (k := k) (rest := []) (setF k v flags exp) now _ false l laid (by simp [setF]) (by simp [setF]) rfl rfl rfl rfl]
  have h2 : ¬ 2000 < v.size := by omega
  unfold storeM
  rw [if_neg (by simp [mayC, setF])]
  simp [setF, laidE, h2]
def oneC (kind : Int) (k : ByteArray) (exp : Int) : Cmd := ⟨kind, [k], 0, exp, ⟨#[]⟩, 0, 0, false⟩
theorem touch_do {k : ByteArray} {e : Ent} {T now laid : Int} (hk : Pl.isKey k = true) (ht : trim (nm k) = k) (hn : Pl.second now = true) (hg : Pl.gone e.exp now = false) :
    errOf (oneC 14 k T) now = 0 ∧ doM (oneC 14 k T) now false [(k, e)] laid = ⟨9, [], 0, [(k, { e with exp := Pl.ends now T })], laid⟩ := by
  have hc : Pl.check (oneC 14 k T) = 0 := by
    exact check_of rfl (by simp [oneC, Pl.same, Pl.stores, Pl.hasEnds, Pl.isReads, Pl.empty, ba_self]) rfl (by simp [oneC, hk]) (by simp [oneC, ByteArray.size])
  have h1 : errOf (oneC 14 k T) now = 0 := by unfold errOf; rw [hc, hn]; rfl
  have hgt : getN [(k, e)] k now = some e := by rw [getN_self ht, hg]; rfl
  refine ⟨h1, ?_⟩
  unfold doM
  rw [if_pos h1]
  rw [doIn_touch (k := k) (rest := []) (old := e) (is := true) (oneC 14 k T) now _ false [(k, e)] laid (by simp [oneC]) (by simp [oneC]) rfl (by rw [hgt]; rfl) (by rw [hgt]; rfl) rfl rfl rfl, putN_self]
  rfl
theorem gats_do {k : ByteArray} {e : Ent} {T now laid : Int} (hk : Pl.isKey k = true) (ht : trim (nm k) = k) (hn : Pl.second now = true) (hg : Pl.gone e.exp now = false) :
    errOf (oneC 4 k T) now = 0 ∧ doM (oneC 4 k T) now false [(k, e)] laid = ⟨1, [⟨k, e.flags, e.val, e.cas⟩], 0, [(k, { e with exp := Pl.ends now T })], laid⟩ := by
  have hc : Pl.check (oneC 4 k T) = 0 := by
    exact check_of rfl (by simp [oneC, Pl.same, Pl.stores, Pl.hasEnds, Pl.isReads, Pl.empty, ba_self]) rfl (by simp [oneC, hk]) (by simp [oneC, ByteArray.size])
  have h1 : errOf (oneC 4 k T) now = 0 := by unfold errOf; rw [hc, hn]; rfl
  have hgt : getN [(k, e)] k now = some e := by rw [getN_self ht, hg]; rfl
  refine ⟨h1, ?_⟩
  unfold doM
  rw [if_pos h1, doIn_reads (oneC 4 k T) now _ false [(k, e)] laid (by simp [oneC])]
  have hr : readTo (isGat (oneC 4 k T).kind) (Pl.ends now (oneC 4 k T).exp) now [(k, e)] (oneC 4 k T).keys = ([(k, { e with exp := Pl.ends now T })], [⟨k, e.flags, e.val, e.cas⟩]) := by
    show readS true (Pl.ends now T) now ([(k, e)], []) k = _
    simp only [readS, hgt, putN_self, if_true]
    rfl
  rw [hr]

theorem w64 {n : Int} (h : -9223372036854775808 ≤ n ∧ n ≤ 9223372036854775807) : wrap64 n = n := by unfold wrap64; omega
theorem rem_in (x : Int) {n : Int} (h1 : 0 < n) (h2 : n ≤ 1000) : ∃ E, wrap64 ((IntKind.u64.wrap x).tmod n) = E ∧ 0 ≤ E ∧ E < n := by
  have h0 := wrap_u64_nonneg x
  have h3 := Int.emod_nonneg (IntKind.u64.wrap x) (show n ≠ 0 by omega)
  have h4 := Int.emod_lt_of_pos (IntKind.u64.wrap x) h1
  refine ⟨_, rfl, ?_⟩
  rw [Int.tmod_eq_emod_of_nonneg h0, w64 (by omega)]
  exact ⟨h3, h4⟩

end Go.Proofs.YthcdocedpcjbeaaGreatDoor

/-
  The walk of the model's Do.
-/
import Derived.Test.YthcdocedpcjbeaaGreatDoorW13
import Derived.Test.YthcdocedpcjbeaaGreatDoorW3
import Derived.Test.YthcdocedpcjbeaaGreatDoorW8
namespace Go.Proofs.YthcdocedpcjbeaaGreatDoor
open Go.RowKit

structure DoOut where
  code : Int
  hits : List Hit
  n : Int
  l : Ents
  laid : Int

def isGat (k : Int) : Bool := k == 3 || k == 4

/-- behind the tests: what a command does. -/
def doIn (c : Cmd) (now ends : Int) (failed : Bool) (l : Ents) (laid : Int) : DoOut :=
  if c.kind = 15 then ⟨10, [], 0, [], laid⟩ else
  if c.kind ≤ 4 then ⟨1, (readTo (isGat c.kind) ends now l c.keys).2, 0, (readTo (isGat c.kind) ends now l c.keys).1, laid⟩ else
  match c.keys with
  | [] => ⟨0, [], 0, l, laid⟩
  | k :: _ =>
    let old := (getN l k now).getD zeroE
    let is := (getN l k now).isSome
    if Pl.stores c.kind then ⟨(storeM l laid c ends failed old is k).1, [], 0, (storeM l laid c ends failed old is k).2.1, (storeM l laid c ends failed old is k).2.2⟩ else
    if is = false then ⟨5, [], 0, l, laid⟩ else
    if c.kind = 11 then ⟨6, [], 0, dropM l k, laid⟩ else
    if c.kind = 14 then ⟨9, [], 0, putN l k { old with exp := ends }, laid⟩ else
    ⟨(countM l laid c failed old k).1, [], (countM l laid c failed old k).2.1, (countM l laid c failed old k).2.2.1, (countM l laid c failed old k).2.2.2⟩

def errOf (c : Cmd) (now : Int) : Int := if Pl.check c != 0 then Pl.check c else if Pl.second now then 0 else 1
def doM (c : Cmd) (now : Int) (failed : Bool) (l : Ents) (laid : Int) : DoOut :=
  if errOf c now = 0 then doIn c now (Pl.ends now c.exp) failed l laid else ⟨0, [], 0, l, laid⟩

/-- behind Do. -/
def DoDone (m r : Nat) (w : World) (o : DoOut) (err : Int) (e : Ending) (w' : World) : Prop :=
  ∃ hv, e = .returned (.tuple #[resV o.code hv o.n, .int .i64 err]) ∧ w'.ownsRow w.heap.size 99 4 hv o.hits.length (hitsC o.hits) ∧
    ModelAt w' m r o.l o.laid ∧ Chg (fun b => b = m ∨ b = r) w w'

def cmdCells (c : Cmd) (A : Option Addr) (cap : Nat) : Array Value :=
  #[.int .i64 c.kind, .slice A c.keys.length cap, .int .u32 c.flags, .int .i64 c.exp, .string c.val, .int .u64 c.cas, .int .u64 c.delta, .bool c.quiet]

def OkV (l : Ents) : Prop := ∀ p ∈ l, p.2.val.size ≤ 2000
theorem foundN_val {l : Ents} (h : OkV l) (k : ByteArray) : (foundN l k).val.size ≤ 2000 := by
  unfold foundN
  cases hq : posE k l 0 with
  | none => simp [zeroE, ByteArray.size]
  | some x =>
    obtain ⟨i, e⟩ := x
    obtain ⟨p, _, hi, _, rfl⟩ := posE_spec k l 0 i e hq
    exact h p (List.mem_of_getElem? hi)
theorem getN_val {l : Ents} (h : OkV l) (k : ByteArray) (now : Int) : ((getN l k now).getD zeroE).val.size ≤ 2000 := by
  unfold getN
  split
  · exact foundN_val h k
  · simp [zeroE, ByteArray.size]
theorem check_ok {c : Cmd} (h : Pl.check c = 0) : Pl.isKind c.kind = true ∧ Pl.same c = true ∧ Pl.keysOk c.kind c.keys.length = true ∧ c.keys.all Pl.isKey = true ∧ c.val.size ≤ 2000 := by
  unfold Pl.check at h
  split at h
  · rename_i h1
    split at h
    · rename_i h2
      simp only [Bool.and_eq_true] at h2
      split at h
      · rename_i h3; exact ⟨h1, h2.1, h2.2.1, h2.2.2, h3⟩
      · cases h
    · cases h
  · cases h
theorem keys_one {k n : Int} (h : Pl.keysOk k n = true) (h4 : ¬ k ≤ 4) (h15 : k ≠ 15) : n = 1 := by
  unfold Pl.keysOk at h
  rw [if_neg (by unfold Pl.isReads; simp; omega), if_neg (by simpa using h15)] at h
  simpa using h
theorem keys_some {k n : Int} (h : Pl.keysOk k n = true) (h1 : Pl.isKind k = true) (h4 : k ≤ 4) : 1 ≤ n ∧ n ≤ 8 := by
  unfold Pl.keysOk at h
  unfold Pl.isKind at h1
  simp only [Bool.and_eq_true, decide_eq_true_eq] at h1
  rw [if_pos (by unfold Pl.isReads; simp; omega)] at h
  simpa using h
section
variable (c : Cmd) (now ends : Int) (failed : Bool) (l : Ents) (laid : Int)
theorem doIn_flush (h : c.kind = 15) : doIn c now ends failed l laid = ⟨10, [], 0, [], laid⟩ := by unfold doIn; rw [if_pos h]
theorem doIn_reads (h4 : c.kind ≤ 4) : doIn c now ends failed l laid = ⟨1, (readTo (isGat c.kind) ends now l c.keys).2, 0, (readTo (isGat c.kind) ends now l c.keys).1, laid⟩ := by
  unfold doIn; rw [if_neg (show ¬ c.kind = 15 by omega), if_pos h4]
variable {k : ByteArray} {rest : List ByteArray} {old : Ent} {is : Bool}
theorem doIn_store (h15 : ¬ c.kind = 15) (h4 : ¬ c.kind ≤ 4) (hk : c.keys = k :: rest) (ho : (getN l k now).getD zeroE = old) (hi : (getN l k now).isSome = is) (hs : Pl.stores c.kind = true) : doIn c now ends failed l laid = ⟨(storeM l laid c ends failed old is k).1, [], 0, (storeM l laid c ends failed old is k).2.1, (storeM l laid c ends failed old is k).2.2⟩ := by
  unfold doIn; rw [if_neg h15, if_neg h4, hk]; simp only [ho, hi, hs, if_true]
theorem doIn_none (h15 : ¬ c.kind = 15) (h4 : ¬ c.kind ≤ 4) (hk : c.keys = k :: rest) (ho : (getN l k now).getD zeroE = old) (hi : (getN l k now).isSome = is) (hs : Pl.stores c.kind = false) (hn : is = false) : doIn c now ends failed l laid = ⟨5, [], 0, l, laid⟩ := by
  unfold doIn; rw [if_neg h15, if_neg h4, hk]; subst hn; simp only [ho, hi, hs, if_true, Bool.false_eq_true, if_false]
theorem doIn_delete (h15 : ¬ c.kind = 15) (h4 : ¬ c.kind ≤ 4) (hk : c.keys = k :: rest) (ho : (getN l k now).getD zeroE = old) (hi : (getN l k now).isSome = is) (hs : Pl.stores c.kind = false) (hn : is = true) (h11 : c.kind = 11) : doIn c now ends failed l laid = ⟨6, [], 0, dropM l k, laid⟩ := by
  unfold doIn; rw [if_neg h15, if_neg h4, hk]; subst hn; simp only [ho, hi, hs, Bool.false_eq_true, if_false, Bool.true_eq_false]; rw [if_pos h11]
theorem doIn_touch (h15 : ¬ c.kind = 15) (h4 : ¬ c.kind ≤ 4) (hk : c.keys = k :: rest) (ho : (getN l k now).getD zeroE = old) (hi : (getN l k now).isSome = is) (hs : Pl.stores c.kind = false) (hn : is = true) (h14 : c.kind = 14) : doIn c now ends failed l laid = ⟨9, [], 0, putN l k { old with exp := ends }, laid⟩ := by
  unfold doIn; rw [if_neg h15, if_neg h4, hk]; subst hn; simp only [ho, hi, hs, Bool.false_eq_true, if_false, Bool.true_eq_false]; rw [if_neg (show ¬ c.kind = 11 by omega), if_pos h14]
theorem doIn_count (h15 : ¬ c.kind = 15) (h4 : ¬ c.kind ≤ 4) (hk : c.keys = k :: rest) (ho : (getN l k now).getD zeroE = old) (hi : (getN l k now).isSome = is) (hs : Pl.stores c.kind = false) (hn : is = true) (h11 : ¬ c.kind = 11) (h14 : ¬ c.kind = 14) : doIn c now ends failed l laid = ⟨(countM l laid c failed old k).1, [], (countM l laid c failed old k).2.1, (countM l laid c failed old k).2.2.1, (countM l laid c failed old k).2.2.2⟩ := by
  unfold doIn; rw [if_neg h15, if_neg h4, hk]; subst hn; simp only [ho, hi, hs, Bool.false_eq_true, if_false, Bool.true_eq_false]; rw [if_neg h11, if_neg h14]
end

/-- while Do runs. -/
structure DoInv (m r : Nat) (w W : World) (a : Nat) (c : Cmd) (A : Option Addr) (cap : Nat) (now ends : Int) (failed : Bool) (old : Ent) (is : Bool) (l : Ents) (laid : Int) : Prop where
  chg : Chg (fun b => b = m ∨ b = r) w W
  cmd : Blk W w.heap.size 31 (cmdCells c A cap)
  res : Blk W (w.heap.size + 1) 36 #[.int .i64 0, .slice none 0 0, .int .u64 0]
  act : ActAt W a m c A cap now ends failed old is
  mod : ModelAt W m r l laid
  lo : w.heap.size + 1 < a
theorem DoInv.facts {m r : Nat} {w W : World} {a : Nat} {c : Cmd} {A : Option Addr} {cap : Nat} {now ends : Int} {failed : Bool} {old : Ent} {is : Bool} {l : Ents} {laid : Int}
    (h : DoInv m r w W a c A cap now ends failed old is l laid) :
    (∀ i, W.cell? ⟨w.heap.size, i, none⟩ = (cmdCells c A cap)[i]?) ∧ ((∀ i, W.cell? ⟨w.heap.size + 1, i, none⟩ = (#[.int .i64 0, .slice none 0 0, .int .u64 0] : Array Value)[i]?) ∧ (∀ i, W.frozen? ⟨w.heap.size + 1, i, none⟩ = false) ∧ w.heap.size + 1 < W.heap.size) ∧
    (∀ i, W.frozen? ⟨a, i, none⟩ = false) ∧ a < W.heap.size ∧ W.cell? ⟨m, 0, none⟩ = some (.map (some r)) ∧ m < W.heap.size ∧ w.heap.size < W.heap.size :=
  ⟨h.cmd.cell, blk_res h.res, Blk.frozen h.act, Blk.lt h.act, h.mod.c0, h.mod.blk.lt, h.cmd.lt⟩

theorem do_end {m r : Nat} {w W : World} {o : DoOut} {code n err : Int} {hv : Value} (h1 : o.code = code) (h2 : o.n = n) (hown : W.ownsRow w.heap.size 99 4 hv o.hits.length (hitsC o.hits)) (hM : ModelAt W m r o.l o.laid) (hC : Chg (fun b => b = m ∨ b = r) w W) :
    DoDone m r w o err (.returned (.tuple #[resV code hv n, .int .i64 err])) W := by
  subst h1 h2
  exact ⟨hv, rfl, hown, hM, hC⟩

theorem own_base {w : World} {b b' : Nat} {e : TypeId} {size n : Nat} {v : Value} {xs : List Value} (h : w.ownsRow b e size v n xs) (hb : b' ≤ b) : w.ownsRow b' e size v n xs := by
  refine ⟨h.1, ?_⟩
  rcases h.2 with h2 | ⟨g, cp, cur, rfl, hbg, hh, r⟩
  · exact .inl h2
  · exact .inr ⟨g, cp, cur, rfl, Nat.le_trans hb hbg, hh, r⟩
theorem DoInv.below {m r : Nat} {w W W' : World} {a : Nat} {c : Cmd} {A : Option Addr} {cap : Nat} {now ends : Int} {failed : Bool} {old : Ent} {is : Bool} {l : Ents} {laid : Int}
    (h : DoInv m r w W a c A cap now ends failed old is l laid) (hb : Below W.heap.size W W') : DoInv m r w W' a c A cap now ends failed old is l laid :=
  ⟨h.chg.then_below hb, h.cmd.below hb, h.res.below hb, Blk.below h.act hb, h.mod.below hb, h.lo⟩
theorem DoInv.setA {m r : Nat} {w W : World} {a : Nat} {c : Cmd} {A : Option Addr} {cap : Nat} {now ends : Int} {failed : Bool} {old old' : Ent} {is is' : Bool} {l : Ents} {laid : Int}
    (h : DoInv m r w W a c A cap now ends failed old is l laid) (i : Nat) (u : Value) (hu : (actCells m c A cap now ends failed old is).setIfInBounds i u = actCells m c A cap now ends failed old' is')
    (hm : m < w.heap.size) (hr : r < w.heap.size) : DoInv m r w (W.setCell ⟨a, i, none⟩ u) a c A cap now ends failed old' is' l laid := by
  have hlo := h.lo
  refine ⟨Chg.setCell h.chg (fun e => by simp only at e; omega) _, h.cmd.far (by simp only; omega) _, h.res.far (by simp only; omega) _, ?_, ModelAt.far h.mod (by omega) (by omega) _, hlo⟩
  have := Blk.set_ h.act i u
  rwa [hu] at this
theorem DoInv.old {m r : Nat} {w W : World} {a : Nat} {c : Cmd} {A : Option Addr} {cap : Nat} {now ends : Int} {failed : Bool} {old : Ent} {is : Bool} {l : Ents} {laid : Int}
    (h : DoInv m r w W a c A cap now ends failed old is l laid) (hm : m < w.heap.size) (hr : r < w.heap.size) (x : Ent) (b : Bool) :
    DoInv m r w (((((W.setCell ⟨a, 12, none⟩ (.string x.val)).setCell ⟨a, 13, none⟩ (.int .u32 x.flags)).setCell ⟨a, 14, none⟩ (.int .i64 x.exp)).setCell ⟨a, 15, none⟩ (.int .u64 x.cas)).setCell ⟨a, 16, none⟩ (.bool b)) a c A cap now ends failed x b l laid :=
  ((((h.setA (old' := ⟨x.val, old.flags, old.exp, old.cas⟩) (is' := is) 12 (.string x.val) rfl hm hr).setA (old' := ⟨x.val, x.flags, old.exp, old.cas⟩) (is' := is) 13 (.int .u32 x.flags) rfl hm hr).setA (old' := ⟨x.val, x.flags, x.exp, old.cas⟩) (is' := is) 14 (.int .i64 x.exp) rfl hm hr).setA (old' := x) (is' := is) 15 (.int .u64 x.cas) rfl hm hr).setA (old' := x) (is' := b) 16 (.bool b) rfl hm hr

theorem strs_mr {w w' : World} {m r : Nat} {l : Ents} {laid : Int} {A : Option Addr} {ks : List ByteArray} (h : Strs w A ks) (hM : ModelAt w m r l laid) (hc : Chg (fun b => b = m ∨ b = r) w w') : Strs w' A ks := by
  refine h.chg hc fun ad s hcell e => ?_
  rcases e with e | e
  · have h1 := hM.blk.cell ad.off
    unfold World.cell? at h1 hcell
    rw [e] at hcell
    rw [hM.blk] at h1 hcell
    simp only at hcell
    split at hcell
    · cases hcell
    · rcases ho : ad.off with _ | _ | n <;> rw [ho] at hcell <;> simp at hcell
  · obtain ⟨es, ck, hb, _⟩ := hM.map
    unfold World.cell? at hcell
    rw [e, hb] at hcell
    cases hcell

theorem do_fin {m r : Nat} {w W : World} {o : DoOut} {code n err : Int} (h1 : o.code = code) (h2 : o.n = n) (h3 : o.hits = []) (hM : ModelAt W m r o.l o.laid) (hC : Chg (fun b => b = m ∨ b = r) w W) (hm : m < w.heap.size) (hr : r < w.heap.size) (v0 v1 v2 : Value) :
    DoDone m r w o err (.returned (.tuple #[resV code (.slice none 0 0) n, .int .i64 err])) (((W.setCell ⟨w.heap.size + 1, 0, none⟩ v0).setCell ⟨w.heap.size + 1, 1, none⟩ v1).setCell ⟨w.heap.size + 1, 2, none⟩ v2) := by
  refine do_end h1 h2 ?_ ?_ ?_
  · rw [h3]; exact World.ownsRow_nil _ _ _ _
  · repeat (first | exact hM | refine ModelAt.far ?_ (by omega) (by omega) _)
  · repeat (first | exact hC | refine Chg.setCell ?_ (fun e => by simp only at e; omega) _)

section
variable (m : Nat) (c : Cmd) (A : Option Addr) (cap : Nat) (now : Int) (failed : Bool) (w : World)

set_option maxRecDepth 100000 in
set_option maxHeartbeats 1000000 in
theorem do_bad {r : Nat} {l : Ents} {laid : Int} (hM : ModelAt w m r l laid) (hK : Strs w A c.keys) (hl : c.keys.length ≤ 9223372036854775807) (hv : c.val.size ≤ 9223372036854775807) (hsz : ∀ s ∈ c.keys, s.size ≤ 9223372036854775807)
    (he : errOf c now ≠ 0) :
    Calls Tryz.prog 13 #[.pointer (some ⟨m, 0, none⟩), cmdV c A cap, .int .i64 now, .bool failed] w (DoDone m r w ⟨0, [], 0, l, laid⟩ (errOf c now)) := by
  obtain ⟨e1, he1⟩ : ∃ e1, Pl.check c = e1 := ⟨_, rfl⟩
  have hchk := check_any c A cap
  unfold errOf at he ⊢
  rw [he1] at hchk he ⊢
  have HCHK := hide hchk
  have HM := hide hM
  have HK := hide hK
  have HSZ := hide hsz
  have hrw := hM.map.lt
  have hmw := hM.blk.lt
  have HE := hide he
  clear hchk hM hK hsz he1 he
  by_cases h0 : e1 = 0
  · subst h0
    have hs : Pl.second now = false := by have := HE.out; revert this; cases Pl.second now <;> simp
    rw [hs]
    unfold cmdV
    go_enter Tryz.func13, Tryz.ntmps13
    go_wp2_with (first
      | (go_at_call 35; refine (HCHK.out _ (HK.out.below (Below.al (Below.al (Below.refl _ _) _) _)) hl hv HSZ.out).mono ?_; rintro e w1 ⟨rfl, hb1⟩; obtain ⟨hcc1, hff1⟩ := bcell hb1; have hz1 := hb1.size; have HB1 := hide (Below.step (Below.al (Below.al (Below.refl _ _) _) _) hb1); clear hb1)
      | (go_at_call 40; refine (ends_no _ _ _ hs).mono ?_; rintro e w2 ⟨rfl, rfl⟩))
    (try simp only [Exit.inBlock, Exit.then])
    refine bodyPost_ret (v := .tuple #[resV 0 (.slice none 0 0) 0, .int .i64 1]) (by simp [results, resV, Tryz.results13, go_sem, *]) rfl ?_
    exact do_fin rfl rfl rfl (HM.out.below HB1.out) (Chg.of_below HB1.out) hmw hrw _ _ _
  · have h1 : (e1 != 0) = true := by simpa using h0
    rw [if_pos h1]
    unfold cmdV
    go_enter Tryz.func13, Tryz.ntmps13
    go_wp2_with (first
      | (go_at_call 35; refine (HCHK.out _ (HK.out.below (Below.al (Below.al (Below.refl _ _) _) _)) hl hv HSZ.out).mono ?_; rintro e w1 ⟨rfl, hb1⟩; obtain ⟨hcc1, hff1⟩ := bcell hb1; have hz1 := hb1.size; have HB1 := hide (Below.step (Below.al (Below.al (Below.refl _ _) _) _) hb1); clear hb1))
    (try simp only [Exit.inBlock, Exit.then])
    refine bodyPost_ret (v := .tuple #[resV 0 (.slice none 0 0) 0, .int .i64 e1]) (by simp [results, resV, Tryz.results13, go_sem, *]) rfl ?_
    exact do_fin rfl rfl rfl (HM.out.below HB1.out) (Chg.of_below HB1.out) hmw hrw _ _ _

set_option maxRecDepth 100000 in
set_option maxHeartbeats 2000000 in
theorem do_good {r : Nat} {l : Ents} {laid : Int} (hG : Globs w) (h8 : 8 ≤ w.heap.size) (hM : ModelAt w m r l laid) (hok : OkL l) (hok2 : OkV l) (hK : Strs w A c.keys) (hl : c.keys.length ≤ 9223372036854775807) (hv : c.val.size ≤ 9223372036854775807) (hsz : ∀ s ∈ c.keys, s.size ≤ 9223372036854775807)
    (hd : 0 ≤ c.delta) (hx : -9223372036854775808 ≤ c.exp ∧ c.exp ≤ 9223372036854775807) (hc : Pl.check c = 0) (hs : Pl.second now = true) :
    Calls Tryz.prog 13 #[.pointer (some ⟨m, 0, none⟩), cmdV c A cap, .int .i64 now, .bool failed] w (DoDone m r w (doIn c now (Pl.ends now c.exp) failed l laid) 0) := by
  have hchk := check_any c A cap
  rw [hc] at hchk
  have HCHK := hide hchk
  have hc0 := hide hc
  have HG := hide hG
  have HM := hide hM
  have HO := hide hok
  have HO2 := hide hok2
  have HK := hide hK
  have HSZ := hide hsz
  clear hG hM hok hok2 hK hsz hchk hc
  obtain ⟨ends, hends⟩ : ∃ ends, Pl.ends now c.exp = ends := ⟨_, rfl⟩
  have hE := ends_yes now c.exp
  rw [hends] at hE ⊢
  have HEN := hide hE
  have HENDS := hide hends
  have he0 : 0 ≤ ends ∧ ends < 4294967296 := by
    simp only [Pl.second, Bool.and_eq_true, decide_eq_true_eq] at hs
    rw [← hends]; unfold Pl.ends; split <;> (try split) <;> omega
  clear hE hends
  unfold cmdV
  go_enter Tryz.func13, Tryz.ntmps13
  go_upto_region 8 with (first
    | (go_at_call 35; refine (HCHK.out _ (HK.out.below (Below.al (Below.al (Below.refl _ _) _) _)) hl hv HSZ.out).mono ?_; rintro e w1 ⟨rfl, hb1⟩; obtain ⟨hcc1, hff1⟩ := bcell hb1; have hz1 := hb1.size; have HB1 := hide hb1; clear hb1)
    | (go_at_call 40; refine (HEN.out _ hs hx.1 hx.2).mono ?_; rintro e w2 ⟨rfl, rfl⟩))
  have hrw := HM.out.map.lt
  have hmw := HM.out.blk.lt
  have hI : DoInv m r w (w1.alloc (.cells (actCells m c A cap now ends failed zeroE false) 107)) w1.heap.size c A cap now ends failed zeroE false l laid := by
    have e1 : (w.alloc (.cells (cmdCells c A cap) 31)).heap.size = w.heap.size + 1 := by simp
    have hb : Below w.heap.size w w1 := Below.step (Below.al (Below.al (Below.refl _ _) _) _) HB1.out
    have b1 : Blk ((w.alloc (.cells (cmdCells c A cap) 31)).alloc (.cells #[.int .i64 0, .slice none 0 0, .int .u64 0] 36)) w.heap.size 31 (cmdCells c A cap) := (Blk.new _ _ _).alloc _
    have b2 : Blk ((w.alloc (.cells (cmdCells c A cap) 31)).alloc (.cells #[.int .i64 0, .slice none 0 0, .int .u64 0] 36)) (w.heap.size + 1) 36 #[.int .i64 0, .slice none 0 0, .int .u64 0] := by
      have := Blk.new (w.alloc (.cells (cmdCells c A cap) 31)) 36 #[.int .i64 0, .slice none 0 0, .int .u64 0]
      rwa [e1] at this
    exact ⟨(Chg.of_below hb).alloc _, (b1.below HB1.out).alloc _, (b2.below HB1.out).alloc _, Blk.new _ _ _, (HM.out.below hb).al _, (b2.below HB1.out).lt⟩
  obtain ⟨W, hW⟩ : ∃ W, W = w1.alloc (.cells (actCells m c A cap now ends failed zeroE false) 107) := ⟨_, rfl⟩
  rw [← hW] at hI
  have hbW : Below w.heap.size w W := by rw [hW]; exact Below.al (Below.step (Below.al (Below.al (Below.refl _ _) _) _) HB1.out) _
  have HKW := hide (HK.out.below hbW)
  have HGW := hide (HG.out.below hbW)
  clear hbW
  have hWg := hW
  unfold actCells zeroE at hWg
  rw [← hWg]
  obtain ⟨q1, ⟨q2, q3, q4⟩, q5, q6, q7, q8, q9⟩ := hI.facts
  have HI := hide hI
  have hCK := check_ok hc0.out
  generalize w1.heap.size = a at *
  clear hW hWg hI HB1 hcc1 hff1 hz1
  simp only [cmdCells] at q1
  by_cases h15 : c.kind = 15
  · have k15 : (c.kind == 15) = true := by simpa using h15
    obtain ⟨w2, hclr, hm2, hc2⟩ := run_clearN W HI.out.mod.map
    have hr2 := HI.out.res.chg hc2 (fun e => by omega)
    obtain ⟨d1, d2, d3⟩ := blk_res hr2
    have HM2 := hide (⟨HI.out.mod.blk.chg hc2 (fun e => HM.out.ne e), hm2⟩ : ModelAt w2 m r [] laid)
    have HC2 := hide (HI.out.chg.trans (hc2.mono (fun _ _ h => .inr h)))
    clear hm2 hc2 hr2
    go_wp2
    (try simp only [Exit.inBlock, Exit.then])
    refine bodyPost_ret (v := .tuple #[resV 10 (.slice none 0 0) 0, .int .i64 0]) (by simp [results, resV, Tryz.results13, go_sem, *]) rfl ?_
    rw [doIn_flush c now ends failed l laid h15]
    exact do_fin rfl rfl rfl HM2.out HC2.out hmw hrw _ _ _
  have k15 : (c.kind == 15) = false := by simpa using h15
  by_cases h4 : c.kind ≤ 4
  · obtain ⟨hk1, hk8⟩ := keys_some hCK.2.2.1 hCK.1 h4
    have HR := hide (reads_any a m c A cap now ends failed zeroE false W HI.out.act HI.out.mod HO.out he0 HKW.out HSZ.out (by omega) (isGat c.kind) rfl)
    go_wp2_with (go_at_call 41; refine HR.out.mono ?_; rintro e w2 ⟨hv, rfl, hown2, hm2, hc2⟩; obtain ⟨Ah, ch, rfl⟩ := own_form hown2; have hr2 := HI.out.res.chg hc2 (fun e => by omega); obtain ⟨d1, d2, d3⟩ := blk_res hr2; have hne2 := own_ne_blk hown2 hr2 (by decide); have HOWN := hide (own_base (b' := w.heap.size) hown2 (by omega)); have HM2 := hide hm2; have HC2 := hide (HI.out.chg.trans (hc2.mono (fun _ _ h => .inr h))); clear hown2 hm2 hc2 hr2; simp only [resV])
    (try simp only [Exit.inBlock, Exit.then])
    refine bodyPost_ret (v := .tuple #[resV 1 (.slice Ah (readTo (isGat c.kind) ends now l c.keys).2.length ch) 0, .int .i64 0]) (by simp [results, resV, Tryz.results13, go_sem, *]) rfl ?_
    rw [doIn_reads c now ends failed l laid h4]
    refine do_end rfl rfl ?_ ?_ ?_
    · repeat (first | exact HOWN.out | refine own_far ?_ hne2 _)
    · repeat (first | exact HM2.out | refine ModelAt.far ?_ (by omega) (by omega) _)
    · repeat (first | exact HC2.out | refine Chg.setCell ?_ (fun e => by simp only at e; omega) _)
  have hlen1 : (c.keys.length : Int) = 1 := keys_one hCK.2.2.1 h4 h15
  obtain ⟨k, hkk⟩ : ∃ k, c.keys = [k] := by
    match hq : c.keys, hlen1 with
    | [k], _ => exact ⟨k, rfl⟩
    | [], h => simp at h
    | _ :: _ :: _, h => simp at h; omega
  have hpos : 0 < c.keys.length := by omega
  have hks : k.size ≤ 9223372036854775807 := HSZ.out k (by rw [hkk]; exact List.mem_singleton.2 rfl)
  have hKt := HKW.out
  rw [hkk] at hKt
  obtain ⟨ad, hAd, hcell⟩ := hKt.tail
  subst hAd
  clear hKt
  obtain ⟨x, hx⟩ : ∃ x, (getN l k now).getD zeroE = x := ⟨_, rfl⟩
  obtain ⟨b, hb⟩ : ∃ b, (getN l k now).isSome = b := ⟨_, rfl⟩
  have HX := hide hx
  have HBB := hide hb
  have hfk := HO.out.found k
  clear hx hb
  go_upto_region 14 with (go_at_call 16; refine (get_walk m r l laid k now _ HI.out.mod hks hfk.1 hfk.2).mono ?_; rw [HX.out, HBB.out]; rintro e w3 ⟨rfl, hb3⟩; have hI3 := HI.out.below hb3; have hc3 := Blk.cell hI3.act; simp only [actCells, zeroE] at hc3; obtain ⟨p1, ⟨p2, p3, p4⟩, p5, p6, p7, p8, p9⟩ := hI3.facts; have HI3 := hide hI3; have HK3 := hide (HKW.out.below hb3); have HG3 := hide (HGW.out.below hb3); clear hb3 hI3; simp only [encE])
  clear p1 p2 p3 p4 p5 p6 p7 p8 p9
  have hI4 := HI3.out.old hmw hrw x b
  obtain ⟨W4, hW4⟩ : ∃ W4, W4 = ((((w3.setCell ⟨a, 12, none⟩ (.string x.val)).setCell ⟨a, 13, none⟩ (.int .u32 x.flags)).setCell ⟨a, 14, none⟩ (.int .i64 x.exp)).setCell ⟨a, 15, none⟩ (.int .u64 x.cas)).setCell ⟨a, 16, none⟩ (.bool b) := ⟨_, rfl⟩
  have h34 : Chg (fun i => i = a) w3 W4 := by
    rw [hW4]; repeat (first | exact Chg.refl _ _ | refine Chg.setCell (S := fun i => i = a) ?_ (fun _ => by exact rfl) _)
  have HG4 := hide (HG3.out.chg h34 (fun i e => by have := HI.out.lo; omega))
  rw [← hW4] at hI4
  have hK4 := strs_mr HK.out HM.out hI4.chg
  have hKt4 := hK4
  rw [hkk] at hKt4
  obtain ⟨ad', hAd', hcell'⟩ := hKt4.tail
  obtain rfl : ad = ad' := by injection hAd'
  rw [← hW4]
  obtain ⟨p1, ⟨p2, p3, p4⟩, p5, p6, p7, p8, p9⟩ := hI4.facts
  simp only [cmdCells] at p1
  have hc4 := Blk.cell hI4.act
  simp only [actCells] at hc4
  have HI4 := hide hI4
  have HK4 := hide hK4
  have HX2 : x.val.size ≤ 2000 := by
    rw [← HX.out]
    exact getN_val HO2.out k now
  clear hKt4 hK4 hI4 hW4 h34 hc3 q1 q2 q3 q4 q5 q6 q7 q8 q9 hcell hAd'
  obtain ⟨st, hst⟩ : ∃ st, Pl.stores c.kind = st := ⟨_, rfl⟩
  have HST := hide hst
  clear hst
  cases st with
  | true =>
    have HS := hide (store_any a m c (some ad) cap now ends failed x b W4 HI4.out.act HST.out HI4.out.mod k [] hkk HK4.out hks hCK.2.2.2.2 HX2)
    go_wp2_with (first
      | (go_at_call 42; refine (stores_any c.kind _).mono ?_; rw [HST.out]; rintro e w5 ⟨rfl, rfl⟩)
      | (go_at_call 43; refine HS.out.mono ?_; rintro e w6 ⟨rfl, hm6, hc6⟩; have hr6 := HI4.out.res.chg hc6 (fun e => by omega); obtain ⟨d1, d2, d3⟩ := blk_res hr6; have HM6 := hide hm6; have HC6 := hide (HI4.out.chg.trans hc6); clear hm6 hc6 hr6; simp only [resV]))
    (try simp only [Exit.inBlock, Exit.then])
    refine bodyPost_ret (v := .tuple #[resV (storeM l laid c ends failed x b k).1 (.slice none 0 0) 0, .int .i64 0]) (by simp [results, resV, Tryz.results13, go_sem, *]) rfl ?_
    rw [doIn_store c now ends failed l laid h15 (show ¬ c.kind ≤ 4 by omega) hkk HX.out HBB.out HST.out]
    exact do_fin rfl rfl rfl HM6.out HC6.out hmw hrw _ _ _
  | false =>
    cases b with
    | false =>
      go_wp2_with (go_at_call 42; refine (stores_any c.kind _).mono ?_; rw [HST.out]; rintro e w5 ⟨rfl, rfl⟩)
      (try simp only [Exit.inBlock, Exit.then])
      refine bodyPost_ret (v := .tuple #[resV 5 (.slice none 0 0) 0, .int .i64 0]) (by simp [results, resV, Tryz.results13, go_sem, *]) rfl ?_
      rw [doIn_none c now ends failed l laid h15 (show ¬ c.kind ≤ 4 by omega) hkk HX.out HBB.out HST.out rfl]
      exact do_fin rfl rfl rfl HI4.out.mod HI4.out.chg hmw hrw _ _ _
    | true =>
      go_upto_region 18 with (go_at_call 42; refine (stores_any c.kind _).mono ?_; rw [HST.out]; rintro e w5 ⟨rfl, rfl⟩)
      by_cases h11 : c.kind = 11
      · have k11 : (c.kind == 11) = true := by simpa using h11
        have HD := hide (drop_walk m r l laid k W4 HI4.out.mod hks)
        go_wp2_with (first
          | (go_at_call 44; refine HD.out.mono ?_; rintro e w6 ⟨rfl, hm6, hc6⟩; have hr6 := HI4.out.res.chg hc6 (fun e => by omega); obtain ⟨d1, d2, d3⟩ := blk_res hr6; have HM6 := hide hm6; have HC6 := hide (HI4.out.chg.trans (hc6.mono (fun _ _ h => .inr h))); clear hm6 hc6 hr6))
        (try simp only [Exit.inBlock, Exit.then])
        refine bodyPost_ret (v := .tuple #[resV 6 (.slice none 0 0) 0, .int .i64 0]) (by simp [results, resV, Tryz.results13, go_sem, *]) rfl ?_
        rw [doIn_delete c now ends failed l laid h15 (show ¬ c.kind ≤ 4 by omega) hkk HX.out HBB.out HST.out rfl h11]
        exact do_fin rfl rfl rfl HM6.out HC6.out hmw hrw _ _ _
      · have k11 : (c.kind == 11) = false := by simpa using h11
        by_cases h14 : c.kind = 14
        · have k14 : (c.kind == 14) = true := by simpa using h14
          go_upto_region 24 with fail
          have hI6 := HI4.out.setA (old' := { x with exp := ends }) (is' := true) 14 (.int .i64 ends) rfl hmw hrw
          have hK6 := strs_mr HK.out HM.out hI6.chg
          rw [hkk] at hK6
          obtain ⟨ad6, hAd6, hcell6⟩ := hK6.tail
          obtain rfl : ad = ad6 := by injection hAd6
          obtain ⟨W6, hW6⟩ : ∃ W6, W6 = W4.setCell ⟨a, 14, none⟩ (.int .i64 ends) := ⟨_, rfl⟩
          rw [← hW6] at hI6 hcell6 ⊢
          have hkeep : ∀ W', Chg (fun b => b = r) W6 W' → W'.cell? ⟨m, 0, none⟩ = some (.map (some r)) ∧ W'.cell? ⟨w.heap.size, 1, none⟩ = some (.slice (some ad) c.keys.length cap) ∧ W'.cell? ad = some (.string k) ∧
              W'.cell? ⟨a, 12, none⟩ = some (.string x.val) ∧ W'.cell? ⟨a, 13, none⟩ = some (.int .u32 x.flags) ∧ W'.cell? ⟨a, 14, none⟩ = some (.int .i64 ends) ∧ W'.cell? ⟨a, 15, none⟩ = some (.int .u64 x.cas) := fun W' hW =>
            ⟨cell_keep_map hI6.mod.map hW hI6.mod.c0, cell_keep_map hI6.mod.map hW (hI6.cmd.cell 1), cell_keep_map hI6.mod.map hW hcell6, cell_keep_map hI6.mod.map hW (hI6.act.cell 12), cell_keep_map hI6.mod.map hW (hI6.act.cell 13), cell_keep_map hI6.mod.map hW (hI6.act.cell 14), cell_keep_map hI6.mod.map hW (hI6.act.cell 15)⟩
          have hS0 := hkeep W6.drew (Chg.drew (Chg.refl _ _))
          have HKE := hide hkeep
          have HI6 := hide hI6
          clear hkeep hI6 hW6 hK6 hcell6 hAd6 hc4 p1 p2 p3 p4 p5 p6 p7 p8 p9 hcell'
          go_region_held3 (fun W' => W'.cell? ⟨m, 0, none⟩ = some (.map (some r)) ∧ W'.cell? ⟨w.heap.size, 1, none⟩ = some (.slice (some ad) c.keys.length cap) ∧ W'.cell? ad = some (.string k) ∧
              W'.cell? ⟨a, 12, none⟩ = some (.string x.val) ∧ W'.cell? ⟨a, 13, none⟩ = some (.int .u32 x.flags) ∧ W'.cell? ⟨a, 14, none⟩ = some (.int .i64 ends) ∧ W'.cell? ⟨a, 15, none⟩ = some (.int .u64 x.cas))
            ((first | assumption | (clear hS0; assumption)))
            (first
              | (go_at_call 45; refine (named_any k _ hks).mono ?_; rintro e w6 ⟨rfl, hb6⟩; have hM6 := HI6.out.mod.dr.below hb6; obtain ⟨w7, hupd, hm7, hch7⟩ := run_updateN w6 hM6.map k { x with exp := ends }; simp only [encE] at hupd; have hb6' : Below W6.heap.size W6 w6 := (Below.drew (Below.refl _ _)).trans hb6; have hS6 := HKE.out w6 (Chg.of_below hb6'); have hS7 := HKE.out w7 ((Chg.of_below (S := fun b => b = r) hb6').trans hch7); have HM6 := hide hM6; have HC7 := hide hch7; have HB6 := hide hb6'; have HM7 := hide hm7; clear hb6 hb6' hM6 hch7 hm7))
          have h67 : Chg (fun b => b = r) W6 w7 := (Chg.of_below (S := fun b => b = r) HB6.out).trans HC7.out
          have hr7 := HI6.out.res.chg h67 (fun e => by omega)
          obtain ⟨d1, d2, d3⟩ := blk_res hr7
          have HM8 := hide (⟨HM6.out.blk.chg HC7.out (fun e => HM.out.ne e), HM7.out⟩ : ModelAt w7 m r (putN l k { x with exp := ends }) laid)
          have HC8 := hide (HI6.out.chg.trans (h67.mono (fun _ _ h => .inr h)))
          clear hupd h67 hr7
          (try simp only [Exit.then])
          go_wp2
          (try simp only [Exit.inBlock, Exit.then])
          refine bodyPost_ret (v := .tuple #[resV 9 (.slice none 0 0) 0, .int .i64 0]) (by simp [results, resV, Tryz.results13, go_sem, *]) rfl ?_
          rw [doIn_touch c now ends failed l laid h15 (show ¬ c.kind ≤ 4 by omega) hkk HX.out HBB.out HST.out rfl h14]
          exact do_fin rfl rfl rfl HM8.out HC8.out hmw hrw _ _ _
        · have k14 : (c.kind == 14) = false := by simpa using h14
          have hk12 : c.kind = 12 ∨ c.kind = 13 := by
            have h1 := hCK.1
            have h2 := HST.out
            simp only [Pl.isKind, Bool.and_eq_true, decide_eq_true_eq] at h1
            simp only [Pl.stores, Bool.and_eq_false_iff, decide_eq_false_iff_not] at h2
            omega
          have HD := hide (count_any a m c (some ad) cap now ends failed x true W4 HI4.out.act HG4.out HX2 hk12 HI4.out.mod k [] hkk HK4.out hks hd)
          go_wp2_with (first
            | (go_at_call 46; refine HD.out.mono ?_; rintro e w6 ⟨rfl, hm6, hc6⟩; have hr6 := HI4.out.res.chg hc6 (fun e => by omega); obtain ⟨d1, d2, d3⟩ := blk_res hr6; have HM6 := hide hm6; have HC6 := hide (HI4.out.chg.trans hc6); clear hm6 hc6 hr6; simp only [resV]))
          (try simp only [Exit.inBlock, Exit.then])
          refine bodyPost_ret (v := .tuple #[resV (countM l laid c failed x k).1 (.slice none 0 0) (countM l laid c failed x k).2.1, .int .i64 0]) (by simp [results, resV, Tryz.results13, go_sem, *]) rfl ?_
          rw [doIn_count c now ends failed l laid h15 (show ¬ c.kind ≤ 4 by omega) hkk HX.out HBB.out HST.out rfl h11 h14]
          exact do_fin rfl rfl rfl HM6.out HC6.out hmw hrw _ _ _

theorem do_any {r : Nat} {l : Ents} {laid : Int} (hG : Globs w) (h8 : 8 ≤ w.heap.size) (hM : ModelAt w m r l laid) (hok : OkL l) (hok2 : OkV l) (hK : Strs w A c.keys) (hl : c.keys.length ≤ 9223372036854775807) (hv : c.val.size ≤ 9223372036854775807) (hsz : ∀ s ∈ c.keys, s.size ≤ 9223372036854775807)
    (hd : 0 ≤ c.delta) (hx : -9223372036854775808 ≤ c.exp ∧ c.exp ≤ 9223372036854775807) :
    Calls Tryz.prog 13 #[.pointer (some ⟨m, 0, none⟩), cmdV c A cap, .int .i64 now, .bool failed] w (DoDone m r w (doM c now failed l laid) (errOf c now)) := by
  by_cases he : errOf c now = 0
  · unfold doM
    rw [if_pos he, he]
    have h1 : Pl.check c = 0 ∧ Pl.second now = true := by
      unfold errOf at he
      split at he
      · rename_i h; exact absurd he (by simpa using h)
      · rename_i h
        split at he
        · rename_i h2; exact ⟨by simpa using h, h2⟩
        · cases he
    exact do_good m c A cap now failed w hG h8 hM hok hok2 hK hl hv hsz hd hx h1.1 h1.2
  · unfold doM
    rw [if_neg he]
    exact do_bad m c A cap now failed w hM hK hl hv hsz he
end
end Go.Proofs.YthcdocedpcjbeaaGreatDoor

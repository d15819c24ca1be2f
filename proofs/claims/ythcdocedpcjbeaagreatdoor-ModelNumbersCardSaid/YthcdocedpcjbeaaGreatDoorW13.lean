/-
  The walk of the model's reads.
-/
import Derived.Test.YthcdocedpcjbeaaGreatDoorW12
import Derived.Deep.LoopGhost
import Derived.OwnWalk
import Derived.Deep.DeepMust
import Derived.Maps.AppendAt
namespace Go.Proofs.YthcdocedpcjbeaaGreatDoor
open Go.RowKit

def BdE (e : Ent) : Prop := 0 ≤ e.exp ∧ e.exp < 4294967296
def OkL (l : Ents) : Prop := ∀ p ∈ l, BdE p.2
theorem bd_zero : BdE zeroE := ⟨by simp [zeroE], by simp [zeroE]⟩
theorem OkL.found {l : Ents} (h : OkL l) (k : ByteArray) : BdE (foundN l k) := by
  unfold foundN
  cases hq : posE k l 0 with
  | none => exact bd_zero
  | some x =>
    obtain ⟨i, e⟩ := x
    obtain ⟨p, _, hi, _, rfl⟩ := posE_spec k l 0 i e hq
    exact h p (List.mem_of_getElem? hi)
theorem OkL.put {l : Ents} (h : OkL l) (k : ByteArray) {e : Ent} (he : BdE e) : OkL (putN l k e) := by
  unfold putN
  cases hq : posE k l 0 with
  | none =>
    intro p hp
    rcases List.mem_append.1 hp with hp | hp
    · exact h p hp
    · simp at hp; subst hp; exact he
  | some x =>
    obtain ⟨i, _⟩ := x
    intro p hp
    rw [List.mem_iff_getElem?] at hp
    obtain ⟨j, hj⟩ := hp
    rw [List.getElem?_modify] at hj
    cases hy : l[j]? with
    | none => rw [hy] at hj; simp at hj
    | some y =>
      rw [hy] at hj
      by_cases hij : i = j
      · simp [hij] at hj; subst hj; exact he
      · simp [hij] at hj; subst hj; exact h y (List.mem_of_getElem? hy)

/-- one key that is read. -/
def readS (gat : Bool) (ends now : Int) (s : Ents × List Hit) (k : ByteArray) : Ents × List Hit :=
  match getN s.1 k now with
  | none => s
  | some x => (if gat then putN s.1 k { x with exp := ends } else s.1, s.2 ++ [⟨k, x.flags, x.val, x.cas⟩])
def readTo (gat : Bool) (ends now : Int) (l : Ents) (ks : List ByteArray) : Ents × List Hit := ks.foldl (readS gat ends now) (l, [])
theorem readTo_snoc (gat : Bool) (ends now : Int) (l : Ents) (ks : List ByteArray) (k : ByteArray) : readTo gat ends now l (ks ++ [k]) = readS gat ends now (readTo gat ends now l ks) k := by
  simp [readTo]
theorem readTo_ok {gat : Bool} {ends now : Int} {l : Ents} (h : OkL l) (he : 0 ≤ ends ∧ ends < 4294967296) (ks : List ByteArray) : OkL (readTo gat ends now l ks).1 := by
  have key : ∀ (ks : List ByteArray) (s : Ents × List Hit), OkL s.1 → OkL (ks.foldl (readS gat ends now) s).1 := by
    intro ks
    induction ks with
    | nil => intro s hs; exact hs
    | cons k ks ih =>
      intro s hs
      refine ih _ ?_
      unfold readS
      cases getN s.1 k now with
      | none => exact hs
      | some x =>
        cases gat
        · exact hs
        · exact hs.put k (e := { x with exp := ends }) he
  exact key ks _ h
theorem readTo_len (gat : Bool) (ends now : Int) (l : Ents) (ks : List ByteArray) : (readTo gat ends now l ks).2.length ≤ ks.length := by
  have key : ∀ (ks : List ByteArray) (s : Ents × List Hit), (ks.foldl (readS gat ends now) s).2.length ≤ s.2.length + ks.length := by
    intro ks
    induction ks with
    | nil => intro s; simp
    | cons k ks ih =>
      intro s
      have h1 := ih (readS gat ends now s k)
      have h2 : (readS gat ends now s k).2.length ≤ s.2.length + 1 := by
        unfold readS
        cases getN s.1 k now <;> simp
      simp only [List.foldl_cons, List.length_cons]
      omega
  have := key ks (l, [])
  simp only [List.length_nil, Nat.zero_add] at this
  exact this

def hitC (h : Hit) : List Value := [.string h.key, .int .u32 h.flags, .string h.val, .int .u64 h.cas]
def hitsC (hs : List Hit) : List Value := hs.flatMap hitC
theorem hitsC_len (hs : List Hit) : (hitsC hs).length = hs.length * 4 := by
  induction hs with
  | nil => rfl
  | cons h t ih => simp only [hitsC, List.flatMap_cons, List.length_append, List.length_cons] at ih ⊢; rw [ih]; simp [hitC]; omega

theorem own_chg {S : Nat → Prop} {W W' : World} {base : Nat} {e : TypeId} {size n : Nat} {v : Value} {xs : List Value} (h : W.ownsRow base e size v n xs) (hc : Chg S W W')
    (hS : ∀ g, v.ownBlock = some g → ¬ S g) : W'.ownsRow base e size v n xs := by
  refine ⟨h.1, ?_⟩
  rcases h.2 with h2 | ⟨g, cp, cur, rfl, hb, hh, r⟩
  · exact .inl h2
  · exact .inr ⟨g, cp, cur, rfl, hb, (hc.block g (Array.getElem?_eq_some_iff.1 hh).1 (hS g rfl)).trans hh, r⟩
theorem own_below {W W' : World} {base : Nat} {e : TypeId} {size n : Nat} {v : Value} {xs : List Value} (h : W.ownsRow base e size v n xs) (hb : Below W.heap.size W W') : W'.ownsRow base e size v n xs :=
  own_chg h (Chg.of_below (S := fun _ => False) hb) (fun _ _ h => h)
theorem own_type {W : World} {base : Nat} {e : TypeId} {size n : Nat} {v : Value} {xs : List Value} (h : W.ownsRow base e size v n xs) {g : Nat} (hg : v.ownBlock = some g) :
    base ≤ g ∧ ∃ cur, W.heap[g]? = some (.cells cur e (0, 0)) := by
  rcases h.2 with ⟨rfl, _⟩ | ⟨g', cp, cur, rfl, hb, hh, _⟩
  · simp [Value.ownBlock] at hg
  · have : g' = g := by simpa [Value.ownBlock] using hg
    subst this
    exact ⟨hb, cur, hh⟩
theorem own_ne_blk {W : World} {base : Nat} {e : TypeId} {size n : Nat} {v : Value} {xs : List Value} (h : W.ownsRow base e size v n xs) {b : Nat} {t : TypeId} {cs : Array Value} (hb : Blk W b t cs) (hne : e ≠ t) : v.ownBlock ≠ some b := by
  intro hv
  obtain ⟨_, cur, hh⟩ := own_type h hv
  exact Blk.ne_ (t := e) (cs := cur) hh hb hne rfl
theorem own_ne_map {W : World} {base : Nat} {e : TypeId} {size n : Nat} {v : Value} {xs : List Value} (h : W.ownsRow base e size v n xs) {r : Nat} {l : Ents} (hm : MapIs W r l) : v.ownBlock ≠ some r := by
  intro hv
  obtain ⟨_, cur, hh⟩ := own_type h hv
  exact Blk.ne_map (t := e) (cs := cur) hh hm rfl

theorem own_form {W : World} {base : Nat} {e : TypeId} {size n : Nat} {v : Value} {xs : List Value} (h : W.ownsRow base e size v n xs) : ∃ A cp, v = .slice A n cp := by
  rcases h.2 with ⟨rfl, rfl⟩ | ⟨g, cp, cur, rfl, _⟩
  · exact ⟨_, _, rfl⟩
  · exact ⟨_, _, rfl⟩

theorem own_far {W : World} {base : Nat} {e : TypeId} {size n : Nat} {v : Value} {xs : List Value} (h : W.ownsRow base e size v n xs) {b o : Nat} (hne : v.ownBlock ≠ some b) (u : Value) :
    (W.setCell ⟨b, o, none⟩ u).ownsRow base e size v n xs :=
  own_chg h (Chg.setCell (S := fun i => i = b) (Chg.refl _ _) (p := ⟨b, o, none⟩) (fun _ => rfl) u) (fun g hg e => hne (by rw [hg, e]))

/-- where reads stands ahead of a round. -/
structure RdInv (w W : World) (a m r : Nat) (c : Cmd) (A : Option Addr) (cap : Nat) (now ends : Int) (failed : Bool) (old : Ent) (is : Bool) (laid : Int) (l : Ents) (hs : List Hit) (hv : Value) : Prop where
  chg : Chg (fun b => b = r) w W
  act : ActAt W a m c A cap now ends failed old is
  mod : ModelAt W m r l laid
  res : Blk W w.heap.size 36 #[.int .i64 0, .slice none 0 0, .int .u64 0]
  var : Blk W (w.heap.size + 1) 36 #[.int .i64 1, hv, .int .u64 0]
  own : W.ownsRow w.heap.size 99 4 hv hs.length (hitsC hs)

theorem RdInv.below {w W W' : World} {a m r : Nat} {c : Cmd} {A : Option Addr} {cap : Nat} {now ends : Int} {failed : Bool} {old : Ent} {is : Bool} {laid : Int} {l : Ents} {hs : List Hit} {hv : Value}
    (h : RdInv w W a m r c A cap now ends failed old is laid l hs hv) (hb : Below W.heap.size W W') : RdInv w W' a m r c A cap now ends failed old is laid l hs hv :=
  ⟨h.chg.then_below hb, Blk.below h.act hb, h.mod.below hb, h.res.below hb, h.var.below hb, own_below h.own hb⟩

theorem keep2 {w w' : World} {p q : Addr} {u v : Value} (hp : w.cell? p = some u) (hq : w.cell? q = some v) (hb : Below w.heap.size w w') : w'.cell? p = some u ∧ w'.cell? q = some v ∧ Below w.heap.size w w' :=
  ⟨(hb.cell (cell_lt hp)).trans hp, (hb.cell (cell_lt hq)).trans hq, hb⟩
theorem ModelAt.keepB {w w' : World} {m r : Nat} {l : Ents} {n : Int} (h : ModelAt w m r l n) (hb : Below w.heap.size w w') : ModelAt w' m r l n := h.below hb

theorem hit_info : (Tryz.prog.info? 99).map (fun i => (i.zero, i.size, i.bytes)) = some (some (.agg #[.string ⟨#[]⟩, .int .u32 0, .string ⟨#[]⟩, .int .u64 0]), 4, 48) := by kernel_rfl

theorem Chg.of_grown {W W' : World} {row : Option Nat} (h : W.grownBy W' row) : Chg (fun i => some i = row) W W' :=
  ⟨h.os, h.tape, h.output, h.size, fun k hk hn => h.block k hk hn⟩

/-- behind the append, and the store of the new slice. -/
theorem RdInv.push {w W W' : World} {a m r : Nat} {c : Cmd} {A : Option Addr} {cap : Nat} {now ends : Int} {failed : Bool} {old : Ent} {is : Bool} {laid : Int} {l : Ents} {hs : List Hit} {hv v' : Value} {q : Hit}
    (h : RdInv w W a m r c A cap now ends failed old is laid l hs hv) (hg : W.grownBy W' hv.ownBlock) (ho : W'.ownsRow w.heap.size 99 4 v' (hs.length + 1) (hitsC hs ++ hitC q)) (hm8 : a < w.heap.size) (hmw : m < w.heap.size) (hrw : r < w.heap.size) :
    Blk W' (w.heap.size + 1) 36 #[.int .i64 1, hv, .int .u64 0] ∧
    RdInv w (W'.setCell ⟨w.heap.size + 1, 1, none⟩ v') a m r c A cap now ends failed old is laid l (hs ++ [q]) v' := by
  have hc := Chg.of_grown hg
  have nb : ∀ b, b < w.heap.size → ¬ some b = hv.ownBlock := fun b hb e => by
    have := (own_type h.own e.symm).1; omega
  have nv : ¬ some (w.heap.size + 1) = hv.ownBlock := fun e => own_ne_blk h.own h.var (by decide) e.symm
  have nr : ¬ some w.heap.size = hv.ownBlock := fun e => own_ne_blk h.own h.res (by decide) e.symm
  have hvar := h.var.chg hc nv
  have hne : v'.ownBlock ≠ some (w.heap.size + 1) := own_ne_blk ho hvar (by decide)
  have hs2 : Chg (fun i => i = w.heap.size + 1) W' (W'.setCell ⟨w.heap.size + 1, 1, none⟩ v') := Chg.setCell (S := fun i => i = w.heap.size + 1) (Chg.refl _ _) (p := ⟨w.heap.size + 1, 1, none⟩) (fun _ => rfl) v'
  refine ⟨hvar, ?_, ?_, ?_, ?_, ?_, ?_⟩
  · refine Chg.then_ (h.chg.then_ hc (fun i hi e => absurd e (nb i hi))) hs2 (fun i hi e => by omega)
  · exact (Blk.chg h.act hc (nb a hm8)).chg hs2 (by omega)
  · exact (h.mod.chg hc (nb m hmw) (nb r hrw)).chg hs2 (by omega) (by omega)
  · exact (h.res.chg hc nr).chg hs2 (by omega)
  · exact hvar.set_ 1 v'
  · have e1 : hitsC (hs ++ [q]) = hitsC hs ++ hitC q := by simp [hitsC]
    rw [e1, List.length_append]
    exact own_far ho hne v'

theorem cell_keep_map {W W' : World} {r : Nat} {l : Ents} (hm : MapIs W r l) (hc : Chg (fun b => b = r) W W') {p : Addr} {v : Value} (hp : W.cell? p = some v) : W'.cell? p = some v := by
  have hne : p.block ≠ r := by
    intro e
    obtain ⟨es, ck, hb, _⟩ := hm
    unfold World.cell? at hp
    rw [e, hb] at hp
    cases hp
  exact (World.cell?_of_block (hc.block _ (cell_lt hp) hne)).trans hp
theorem RdInv.step {S : Nat → Prop} {w W W' : World} {a m r : Nat} {c : Cmd} {A : Option Addr} {cap : Nat} {now ends : Int} {failed : Bool} {old : Ent} {is : Bool} {laid : Int} {l l' : Ents} {hs : List Hit} {hv : Value}
    (h : RdInv w W a m r c A cap now ends failed old is laid l hs hv) (hc : Chg S W W') (hS : ∀ i, i < w.heap.size → S i → i = r) (ha : ¬ S a) (hm : ModelAt W' m r l' laid) (h1 : ¬ S w.heap.size) (h2 : ¬ S (w.heap.size + 1))
    (ho : ∀ g, hv.ownBlock = some g → ¬ S g) : RdInv w W' a m r c A cap now ends failed old is laid l' hs hv :=
  ⟨h.chg.then_ hc hS, Blk.chg h.act hc ha, hm, h.res.chg hc h1, h.var.chg hc h2, own_chg h.own hc ho⟩

section
variable (a m : Nat) (c : Cmd) (A : Option Addr) (cap : Nat) (now ends : Int) (failed : Bool) (old : Ent) (is : Bool) (w : World)

set_option maxRecDepth 100000 in
set_option maxHeartbeats 2000000 in
theorem reads_any (hA : ActAt w a m c A cap now ends failed old is) {r : Nat} {l : Ents} {laid : Int} (hM : ModelAt w m r l laid) (hok : OkL l) (hends : 0 ≤ ends ∧ ends < 4294967296)
    (hK : Strs w A c.keys) (hks : ∀ k ∈ c.keys, k.size ≤ 9223372036854775807) (hlen : c.keys.length ≤ 8) (gat : Bool) (hgat : (c.kind == 3 || c.kind == 4) = gat) :
    Calls Tryz.prog 41 #[.pointer (some ⟨a, 0, none⟩)] w fun e w' => ∃ hv, e = .returned (resV 1 hv 0) ∧
      w'.ownsRow w.heap.size 99 4 hv (readTo gat ends now l c.keys).2.length (hitsC (readTo gat ends now l c.keys).2) ∧
      ModelAt w' m r (readTo gat ends now l c.keys).1 laid ∧ Chg (fun b => b = r) w w' := by
  have f2 : w.cell? ⟨a, 2, none⟩ = some (.slice A c.keys.length cap) := hA.cell 2
  have fl := hA.lt
  have HA := hide hA
  have HM := hide hM
  have HK := hide hK
  have HKS := hide hks
  have HG := hide hgat
  have HO := hide hok
  clear hA hM hK hks hgat hok
  go_enter Tryz.func41, Tryz.ntmps41
  go_upto_region 2 with fail
  go_wp2
  obtain ⟨W, hW⟩ : ∃ W, W = (w.alloc (.cells #[.int .i64 0, .slice none 0 0, .int .u64 0] 36)).alloc (.cells #[.int .i64 1, .slice none 0 0, .int .u64 0] 36) := ⟨_, rfl⟩
  have hbW : Below w.heap.size w W := by rw [hW]; exact Below.al (Below.al (Below.refl _ _) _) _
  have hI0 : RdInv w W a m r c A cap now ends failed old is laid l [] (.slice none 0 0) := by
    refine ⟨Chg.of_below hbW, HA.out.below hbW, HM.out.below hbW, ?_, ?_, ⟨rfl, .inl ⟨rfl, rfl⟩⟩⟩
    · rw [hW]; exact (Blk.new _ _ _).alloc _
    · rw [hW]
      have := Blk.new (w.alloc (.cells #[.int .i64 0, .slice none 0 0, .int .u64 0] 36)) 36 #[.int .i64 1, .slice none 0 0, .int .u64 0]
      have e : (w.alloc (.cells #[.int .i64 0, .slice none 0 0, .int .u64 0] 36)).heap.size = w.heap.size + 1 := by simp
      rwa [e] at this
  rw [← hW]
  have HI0 := hide hI0
  clear hbW hI0 hW f2
  go_loopg [15] c.keys.length (fun n i wr => ∃ (j : Nat) (hv : Value), n + j = c.keys.length ∧ i = .int .i64 j ∧
    RdInv w wr a m r c A cap now ends failed old is laid (readTo gat ends now l (c.keys.take j)).1 (readTo gat ends now l (c.keys.take j)).2 hv)
  case atStart => exact ⟨0, _, rfl, rfl, HI0.out⟩
  case round =>
    obtain ⟨j, hv, hj, rfl, hI⟩ := hrel
    by_cases hlt : j < c.keys.length
    · obtain ⟨k, hkj⟩ : ∃ k, c.keys[j]? = some k := ⟨_, List.getElem?_eq_getElem hlt⟩
      obtain ⟨ad, hAd, hcell⟩ := (HK.out.keep hI.chg HM.out.map) j k hkj
      subst hAd
      have hsnoc : c.keys.take (j + 1) = c.keys.take j ++ [k] := by
        rw [List.take_add_one, hkj]; rfl
      have HSN := hide (readTo_snoc gat ends now l (c.keys.take j) k)
      rw [← hsnoc] at HSN
      have hok1 := (readTo_ok (gat := gat) (ends := ends) (now := now) HO.out hends (c.keys.take j)).found k
      have hks := HKS.out k (List.mem_of_getElem? hkj)
      have hlen1 := readTo_len gat ends now l (c.keys.take j)
      have hlen2 : (c.keys.take j).length ≤ j := List.length_take_le _ _
      generalize hs1 : readTo gat ends now l (c.keys.take j) = s1 at *
      obtain ⟨l1, h1⟩ := s1
      simp only at hI hok1 hlen1
      have HK1 := hide hkj
      have HI := hide hI
      have f0 : wr.cell? ⟨a, 0, none⟩ = some (.pointer (some ⟨m, 0, none⟩)) := hI.act.cell 0
      have f9 : wr.cell? ⟨a, 9, none⟩ = some (.int .i64 now) := hI.act.cell 9
      have fa := hI.act.lt
      clear hI hkj hs1 hsnoc
      go_upto_region 5 with fail
      obtain ⟨x, hx⟩ : ∃ x, (getN l1 k now).getD zeroE = x := ⟨_, rfl⟩
      obtain ⟨b, hb⟩ : ∃ b, (getN l1 k now).isSome = b := ⟨_, rfl⟩
      have HX := hide hx
      have HBB := hide hb
      clear hx hb
      go_cut [6, 7] (fun s6 s7 wx => ∃ g, s6 = .pointer (some ⟨g, 0, none⟩) ∧ s7 = .bool b ∧ Below wr.heap.size wr wx ∧ wr.heap.size ≤ g ∧
        wx.cell? ⟨g, 0, none⟩ = some (.string x.val) ∧ wx.cell? ⟨g, 1, none⟩ = some (.int .u32 x.flags) ∧ wx.cell? ⟨g, 2, none⟩ = some (.int .i64 x.exp) ∧ wx.cell? ⟨g, 3, none⟩ = some (.int .u64 x.cas) ∧ wx.frozen? ⟨g, 2, none⟩ = false)
      case first =>
        go_region_held3 (fun W' => W'.cell? ⟨a, 0, none⟩ = some (.pointer (some ⟨m, 0, none⟩)) ∧ W'.cell? ⟨a, 9, none⟩ = some (.int .i64 now) ∧ Below wr.heap.size wr W')
          ((refine keep2 f0 f9 ?_; repeat (first | exact (‹_ ∧ _ ∧ _›).2.2 | exact Below.refl _ _ | refine Below.drew ?_ | refine Below.al ?_ _ | refine Below.setCell ?_ (by simp) _ | refine Below.step ?_ (by assumption))))
          (first
          | (go_at_call 16; refine (get_walk m r l1 laid k now _ (HI.out.mod.keepB (And.right (And.right ‹_ ∧ _ ∧ Below wr.heap.size wr _›))) hks hok1.1 hok1.2).mono ?_; rw [HX.out, HBB.out]; rintro e w1 ⟨rfl, hb1⟩; obtain ⟨hcc1, hff1⟩ := bcell hb1; have hz1 := hb1.size; simp only [encE]))
        all_goals (go_wp2_with fail; go_meet)
        all_goals
          refine ⟨_, rfl, rfl, ?_, ?_, ?_, ?_, ?_, ?_, ?_⟩
          · repeat (first | exact (‹_ ∧ _ ∧ _›).2.2 | exact Below.refl _ _ | refine Below.drew ?_ | refine Below.al ?_ _ | refine Below.setCell ?_ (by simp) _ | refine Below.step ?_ (by assumption))
          · first | exact Nat.le_refl _ | (simp at hz1; omega)
          all_goals go_simp
      case rest =>
        obtain ⟨g, rfl, rfl, hbc, hgl, g0, g1, g2, g3, gf⟩ := hcut
        have hIc := HI.out.below hbc
        have HIC := hide hIc
        have hgs := cell_lt g0
        have hrr := hIc.mod.map.lt
        clear hbc
        cases b
        · clear hIc
          have hnone : getN l1 k now = none := by
            have := HBB.out
            cases hq : getN l1 k now with
            | none => rfl
            | some y => rw [hq] at this; cases this
          have HN := hide hnone
          clear hnone
          go_wp2
          go_roundg (gk - 1)
          case measure => omega
          case rel =>
            refine ⟨j + 1, hv, by omega, by go_num, ?_⟩
            have e := HSN.out
            simp only [readS, HN.out] at e
            rw [e]
            exact HIC.out
        · have hsome : getN l1 k now = some x := by
            have h1 := HBB.out
            have h2 := HX.out
            cases hq : getN l1 k now with
            | none => rw [hq] at h1; cases h1
            | some y => rw [hq] at h2; simpa using h2
          have e := HSN.out
          simp only [readS, hsome] at e
          have HE := hide e
          clear hsome e
          obtain ⟨Ah, ch, rfl⟩ := own_form hIc.own
          obtain ⟨d4, d5, d6⟩ := hIc.var.rules
          have hown := hIc.own
          obtain ⟨i0, hi0, hz0, hz1, hz2⟩ := info_parts hit_info
          have HZ := hide hi0
          have hwb : w.heap.size ≤ wc.heap.size := hIc.chg.size
          clear hIc hi0
          go_upto_region 7 with fail
          go_wp2_with (at_builtin; go_must (refine wpList_append_own_at _ rfl (.tmp 35) (.tmp 44) 34 rfl w.heap.size 99 i0 _ 4 48 Tryz.underlying34 HZ.out hz0 hz1 hz2 rfl (by decide) _ _ _ rfl (own_below hown (Below.al (Below.refl _ _) _)) ⟨wc.heap.size, 0, none⟩ 1 1 (hitC ⟨k, x.flags, x.val, x.cas⟩) rfl rfl ?c1 ?c2 ?c3 ?c4 ?c5 ?_))
          case c1 => exact fun j u hj => hj
          case c2 => intro u hu; simp [hitC] at hu; rcases hu with rfl | rfl | rfl | rfl <;> rfl
          case c3 => unfold maxLen; omega
          case c4 => omega
          case c5 => omega
          · intro v1 w5 hown5 hgrow5 _ hat5
            have hI1 := HIC.out.below (W' := wc.alloc (.cells #[.string k, .int .u32 x.flags, .string x.val, .int .u64 x.cas] 99)) (Below.al (Below.refl _ _) _)
            have hpush := hI1.push (q := ⟨k, x.flags, x.val, x.cas⟩) hgrow5 hown5 fl HM.out.blk.lt HM.out.map.lt
            obtain ⟨e4, e5, e6⟩ := hpush.1.rules
            have hI6 := hpush.2
            have hgown : ∀ b, (Value.slice Ah h1.length ch).ownBlock = some b → b < wr.heap.size := fun b hb => (Array.getElem?_eq_some_iff.1 (own_type HI.out.own hb).2.choose_spec).1
            have hgvar := HI.out.var.lt
            have hg1 : ∀ b, v1.ownBlock = some b → b ≠ g := by
              intro b hb
              rcases hat5 with h | h
              · have := hgown b (h ▸ hb); omega
              · rw [h] at hb; injection hb with hb; omega
            have hc5 : Chg (fun i => i ≠ g) wc w5 := by
              refine (Chg.of_below (Below.al (Below.refl _ _) _)).trans ((Chg.of_grown hgrow5).mono fun i _ hi => ?_)
              have := hgown i hi.symm
              omega
            have G0 := (World.cell?_of_block (a := ⟨g, 0, none⟩) (hc5.block g hgs (fun h => h rfl))).trans g0
            have G1 := (World.cell?_of_block (a := ⟨g, 1, none⟩) (hc5.block g hgs (fun h => h rfl))).trans g1
            have G2 := (World.cell?_of_block (a := ⟨g, 2, none⟩) (hc5.block g hgs (fun h => h rfl))).trans g2
            have G3 := (World.cell?_of_block (a := ⟨g, 3, none⟩) (hc5.block g hgs (fun h => h rfl))).trans g3
            have GF : w5.frozen? ⟨g, 2, none⟩ = false := by
              have h5 := hc5.block g hgs (fun h => h rfl)
              unfold World.frozen? at gf ⊢
              rw [h5]; exact gf
            obtain ⟨Ah1, ch1, rfl⟩ := own_form hown5
            have HI6 := hide hI6
            clear hat5 hI1 hpush hI6 g0 g1 g2 g3 gf hgrow5 hown5 hown hc5
            go_upto_region 8 with fail
            obtain ⟨W6, hW6⟩ : ∃ W6, W6 = w5.setCell ⟨w.heap.size + 1, 1, none⟩ (.slice Ah1 (h1.length + 1) ch1) := ⟨_, rfl⟩
            have hne6 : g ≠ w.heap.size + 1 := by omega
            have q0 : W6.cell? ⟨g, 0, none⟩ = some (.string x.val) := by rw [hW6]; exact (World.cell?_of_block (a := ⟨g, 0, none⟩) (Below.heap_setCell w5 ⟨w.heap.size + 1, 1, none⟩ _ g hne6)).trans G0
            have q1 : W6.cell? ⟨g, 1, none⟩ = some (.int .u32 x.flags) := by rw [hW6]; exact (World.cell?_of_block (a := ⟨g, 1, none⟩) (Below.heap_setCell w5 ⟨w.heap.size + 1, 1, none⟩ _ g hne6)).trans G1
            have q2 : W6.cell? ⟨g, 2, none⟩ = some (.int .i64 x.exp) := by rw [hW6]; exact (World.cell?_of_block (a := ⟨g, 2, none⟩) (Below.heap_setCell w5 ⟨w.heap.size + 1, 1, none⟩ _ g hne6)).trans G2
            have q3 : W6.cell? ⟨g, 3, none⟩ = some (.int .u64 x.cas) := by rw [hW6]; exact (World.cell?_of_block (a := ⟨g, 3, none⟩) (Below.heap_setCell w5 ⟨w.heap.size + 1, 1, none⟩ _ g hne6)).trans G3
            have qf : W6.frozen? ⟨g, 2, none⟩ = false := by
              have h5 := Below.heap_setCell w5 ⟨w.heap.size + 1, 1, none⟩ (.slice Ah1 (h1.length + 1) ch1) g hne6
              rw [hW6]
              unfold World.frozen? at GF ⊢
              rw [h5]; exact GF
            have HI7 := HI6.out
            rw [← hW6] at HI7 ⊢
            clear hW6 HI6 G0 G1 G2 G3 GF
            have k1 : W6.cell? ⟨a, 1, none⟩ = some (.int .i64 c.kind) := HI7.act.cell 1
            obtain ⟨b3, h3⟩ : ∃ b3, (c.kind == 3) = b3 := ⟨_, rfl⟩
            obtain ⟨b4, h4⟩ : ∃ b4, (c.kind == 4) = b4 := ⟨_, rfl⟩
            have HGG := HG.out
            rw [h3, h4] at HGG
            have HI6 := hide HI7
            clear HI7
            cases gat with
            | false =>
              obtain ⟨rfl, rfl⟩ : b3 = false ∧ b4 = false := by revert HGG; cases b3 <;> cases b4 <;> simp
              clear HGG
              go_wp2
              go_roundg (gk - 1)
              case measure => omega
              case rel =>
                refine ⟨j + 1, .slice Ah1 (h1.length + 1) ch1, by omega, by go_num, ?_⟩
                rw [HE.out]
                exact HI6.out
            | true =>
              have hga : b3 = true ∨ (b3 = false ∧ b4 = true) := by revert HGG; cases b3 <;> cases b4 <;> simp
              clear HGG
              have ka : W6.cell? ⟨a, 10, none⟩ = some (.int .i64 ends) := HI6.out.act.cell 10
              have s1 := HI6.out.chg.size
              have s6 := HI6.out.var.lt
              have g6 : g < W6.heap.size := cell_lt q0
              have hrw := HM.out.map.lt
              have hmw := HM.out.blk.lt
              rcases hga with rfl | ⟨rfl, rfl⟩
              all_goals (
                go_upto_region 10 with fail
                obtain ⟨W9, hW9⟩ : ∃ W9, W9 = W6.setCell ⟨g, 2, none⟩ (.int .i64 ends) := ⟨_, rfl⟩
                have hgr : g ≠ r := by omega
                have h69 : Chg (fun i => i = g) W6 W9 := by rw [hW9]; exact Chg.setCell (S := fun i => i = g) (Chg.refl _ _) (p := ⟨g, 2, none⟩) (fun _ => rfl) _
                have hI9 : RdInv w W9 a m r c (some ad) cap now ends failed old is laid l1 (h1 ++ [⟨k, x.flags, x.val, x.cas⟩]) (.slice Ah1 (h1.length + 1) ch1) :=
                  HI6.out.step h69 (fun i hi e => by omega) (by omega) (HI6.out.mod.chg h69 (by omega) (by omega)) (by omega) (by omega) (fun b hb => hg1 b hb)
                have z0 : W9.cell? ⟨g, 0, none⟩ = some (.string x.val) := by rw [hW9]; go_simp
                have z1 : W9.cell? ⟨g, 1, none⟩ = some (.int .u32 x.flags) := by rw [hW9]; go_simp
                have z2 : W9.cell? ⟨g, 2, none⟩ = some (.int .i64 ends) := by rw [hW9]; go_simp
                have z3 : W9.cell? ⟨g, 3, none⟩ = some (.int .u64 x.cas) := by rw [hW9]; go_simp
                rw [← hW9]
                have hkeep : ∀ W', Chg (fun b => b = r) W9 W' → W'.cell? ⟨a, 0, none⟩ = some (.pointer (some ⟨m, 0, none⟩)) ∧ W'.cell? ⟨m, 0, none⟩ = some (.map (some r)) ∧
                    W'.cell? ⟨g, 0, none⟩ = some (.string x.val) ∧ W'.cell? ⟨g, 1, none⟩ = some (.int .u32 x.flags) ∧ W'.cell? ⟨g, 2, none⟩ = some (.int .i64 ends) ∧ W'.cell? ⟨g, 3, none⟩ = some (.int .u64 x.cas) := fun W' hW =>
                  ⟨cell_keep_map hI9.mod.map hW (hI9.act.cell 0), cell_keep_map hI9.mod.map hW hI9.mod.c0, cell_keep_map hI9.mod.map hW z0, cell_keep_map hI9.mod.map hW z1, cell_keep_map hI9.mod.map hW z2, cell_keep_map hI9.mod.map hW z3⟩
                have hS0 := hkeep W9.drew (Chg.drew (Chg.refl _ _))
                have HKE := hide hkeep
                have HI9 := hide hI9
                clear hkeep hI9 h69 hW9 z0 z1 z2 z3 q0 q1 q2 q3 qf k1 ka HI6
                go_region_held3 (fun W' => W'.cell? ⟨a, 0, none⟩ = some (.pointer (some ⟨m, 0, none⟩)) ∧ W'.cell? ⟨m, 0, none⟩ = some (.map (some r)) ∧
                    W'.cell? ⟨g, 0, none⟩ = some (.string x.val) ∧ W'.cell? ⟨g, 1, none⟩ = some (.int .u32 x.flags) ∧ W'.cell? ⟨g, 2, none⟩ = some (.int .i64 ends) ∧ W'.cell? ⟨g, 3, none⟩ = some (.int .u64 x.cas))
                  ((first | assumption | (clear hS0; assumption)))
                  (first
                    | (go_at_call 45; refine (named_any k _ hks).mono ?_; rintro e w6 ⟨rfl, hb6⟩; have hM6 := HI9.out.mod.dr.below hb6; obtain ⟨w7, hupd, hm7, hch7⟩ := run_updateN w6 hM6.map k { x with exp := ends }; simp only [encE] at hupd; have hb6' : Below W9.heap.size W9 w6 := (Below.drew (Below.refl _ _)).trans hb6; have hS6 := HKE.out w6 (Chg.of_below hb6'); have hS7 := HKE.out w7 ((Chg.of_below (S := fun b => b = r) hb6').trans hch7); have HM6 := hide hM6; have HC7 := hide hch7; have HB6 := hide hb6'; have HM7 := hide hm7; clear hb6 hb6' hM6 hch7 hm7))
                have h97 : Chg (fun b => b = r) W9 w7 := (Chg.of_below (S := fun b => b = r) HB6.out).trans HC7.out
                have hI10 := HI9.out.step (l' := putN l1 k { x with exp := ends }) h97 (fun i _ e => e) (fun e => Blk.ne_map HA.out HM.out.map e) ⟨HM6.out.blk.chg HC7.out (fun e => HM.out.ne e), HM7.out⟩ (by omega) (by omega) (fun b hb => own_ne_map HI9.out.own HI9.out.mod.map |> fun h e => h (e ▸ hb))
                have HI10 := hide hI10
                clear hupd h97 hI10 HKE HI9 HM6 HC7 HM7 HB6
                (try simp only [Exit.inBlock, Exit.then])
                go_wp2
                go_roundg (gk - 1)
                case measure => omega
                case rel =>
                  refine ⟨j + 1, .slice Ah1 (h1.length + 1) ch1, by omega, by go_num, ?_⟩
                  rw [HE.out]
                  exact HI10.out)
    · obtain ⟨Ah, ch, rfl⟩ := own_form hI.own
      have HI := hide hI
      obtain ⟨d1, d2, d3⟩ := blk_res hI.res
      obtain ⟨d4, d5, d6⟩ := hI.var.rules
      have hjj : Hid (c.keys.take j = c.keys) := hide (List.take_of_length_le (by omega))
      clear hI
      go_wp2
      (try simp only [Exit.inBlock, Exit.then])
      refine bodyPost_ret (v := resV 1 (.slice Ah (readTo gat ends now l (c.keys.take j)).2.length ch) 0) (by simp [results, resV, Tryz.results41, go_sem, *]) rfl ⟨_, rfl, ?_⟩
      have hI := HI.out
      rw [hjj.out] at hI ⊢
      have hne := own_ne_blk hI.own hI.res (by decide)
      have hm' : m ≠ w.heap.size := Nat.ne_of_lt HM.out.blk.lt
      have hr' : r ≠ w.heap.size := Nat.ne_of_lt HM.out.map.lt
      have hrl := HM.out.map.lt
      refine ⟨?_, ?_, ?_⟩
      · repeat (first | exact hI.own | refine own_far ?_ hne _)
      · repeat (first | exact hI.mod | refine ModelAt.far ?_ hm' hr' _)
      · repeat (first | exact hI.chg | refine Chg.setCell ?_ (fun h => by simp only at h; omega) _)
end
end Go.Proofs.YthcdocedpcjbeaaGreatDoor

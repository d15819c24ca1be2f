/-
  The walks of New, of the statements' set.
-/
import Derived.Test.YthcdocedpcjbeaaGreatDoorW14
namespace Go.Proofs.YthcdocedpcjbeaaGreatDoor
open Go.RowKit

theorem new_any (w : World) : Calls Tryz.prog 11 #[] w fun e w' => e = .returned (.pointer (some ⟨w.heap.size + 1, 0, none⟩)) ∧ ModelAt w' (w.heap.size + 1) w.heap.size [] 0 ∧ Below w.heap.size w w' := by
  go_enter Tryz.func11, Tryz.ntmps11
  have hmk : (Instr.makeMap 100 none).run Tryz.prog w = .ok (.map (some w.heap.size)) (w.alloc (.map #[] 0)) := rfl
  go_wp2
  go_ret
  refine ⟨rfl, ⟨?_, ?_⟩, Below.al (Below.al (Below.refl _ _) _) _⟩
  · have := Blk.new (w.alloc (.map #[] 0)) 102 #[.map (some w.heap.size), .int .u64 0]
    have e : (w.alloc (.map #[] 0)).heap.size = w.heap.size + 1 := by simp
    rwa [e] at this
  · have h1 : (w.alloc (.map #[] 0)).heap[w.heap.size]? = some (.map #[] 0) := heap_alloc_new w _
    refine ⟨#[], 0, ?_, rfl, List.Pairwise.nil, by simp⟩
    exact (Below.heap_alloc (w.alloc (.map #[] 0)) _ w.heap.size (by simp)).trans h1

def setC (k v : ByteArray) : Cmd := ⟨5, [k], 0, 0, v, 0, 0, false⟩
theorem strs_one {w : World} {ad : Addr} {k : ByteArray} (h : w.cell? ad = some (.string k)) : Strs w (some ad) [k] := by
  intro i s hi
  match i, hi with
  | 0, hi => simp at hi; subst hi; exact ⟨ad, rfl, by simpa [Addr.add] using h⟩
theorem set_any (k v : ByteArray) (w : World) : Calls Tryz.prog 39 #[.string k, .string v] w fun e w' =>
    e = .returned (cmdV (setC k v) (some ⟨w.heap.size + 1, 0, none⟩) 1) ∧ Strs w' (some ⟨w.heap.size + 1, 0, none⟩) [k] ∧ Below w.heap.size w w' := by
  go_enter Tryz.func39, Tryz.ntmps39
  go_wp2
  (try simp only [Exit.inBlock, Exit.then])
  refine bodyPost_ret (v := cmdV (setC k v) (some ⟨w.heap.size + 1, 0, none⟩) 1) (by simp [results, cmdV, setC, Tryz.results39, go_sem, *]) rfl ⟨rfl, strs_one (by go_simp), ?_⟩
  exact Below.al (Below.al (Below.refl _ _) _) _

/-- a model that was made since w. -/
structure Mdl (w W : World) (m r : Nat) (l : Ents) (laid : Int) : Prop where
  below : Below w.heap.size w W
  mod : ModelAt W m r l laid
  gm : w.heap.size ≤ m
  gr : w.heap.size ≤ r
theorem Mdl.step {w W W' : World} {m r : Nat} {l : Ents} {laid : Int} (h : Mdl w W m r l laid) (hb : Below W.heap.size W W') : Mdl w W' m r l laid :=
  ⟨Below.step h.below hb, h.mod.below hb, h.gm, h.gr⟩
theorem Mdl.do_ {w W W' : World} {m r : Nat} {l l' : Ents} {laid laid' : Int} (h : Mdl w W m r l laid) (hc : Chg (fun b => b = m ∨ b = r) W W') (hM : ModelAt W' m r l' laid') : Mdl w W' m r l' laid' :=
  ⟨(Chg.then_ (S := fun _ => False) (Chg.of_below h.below) hc (fun i hi e => by have h1 := h.gm; have h2 := h.gr; omega)).below, hM, h.gm, h.gr⟩

/-- variables of one type, each known whole. -/
def Vars (W : World) (t : TypeId) (vs : List (Nat × Array Value)) : Prop := ∀ p ∈ vs, Blk W p.1 t p.2
theorem Vars.nil (W : World) (t : TypeId) : Vars W t [] := fun _ h => by cases h
theorem Vars.below {W W' : World} {t : TypeId} {vs : List (Nat × Array Value)} (h : Vars W t vs) (hb : Below W.heap.size W W') : Vars W' t vs := fun p hp => (h p hp).below hb
theorem Vars.chg {W W' : World} {t : TypeId} {vs : List (Nat × Array Value)} {m r : Nat} {l : Ents} {laid : Int} (h : Vars W t vs) (hM : ModelAt W m r l laid) (ht : t ≠ 102) (hc : Chg (fun b => b = m ∨ b = r) W W') : Vars W' t vs :=
  fun p hp => (h p hp).chg hc fun e => e.elim (fun e => (h p hp).ne_ hM.blk ht e) (fun e => (h p hp).ne_map hM.map e)
theorem Vars.new {W : World} {t : TypeId} {vs : List (Nat × Array Value)} (h : Vars W t vs) (cs : Array Value) : Vars (W.alloc (.cells cs t)) t ((W.heap.size, cs) :: vs) := by
  intro p hp
  rcases List.mem_cons.1 hp with rfl | hp
  · exact Blk.new _ _ _
  · exact (h p hp).alloc _
theorem own_mr {W W' : World} {base n : Nat} {v : Value} {xs : List Value} {m r : Nat} {l : Ents} {laid : Int} (h : W.ownsRow base 99 4 v n xs) (hM : ModelAt W m r l laid) (hc : Chg (fun b => b = m ∨ b = r) W W') : W'.ownsRow base 99 4 v n xs :=
  own_chg h hc fun g hg e => e.elim (fun e => own_ne_blk h hM.blk (by decide) (e ▸ hg)) (fun e => own_ne_map h hM.map (e ▸ hg))

/-- the bounds that hold of a model's entries. -/
def OkE (l : Ents) : Prop := OkL l ∧ OkV l
def small (c : Cmd) : Prop := c.keys.length ≤ 9223372036854775807 ∧ c.val.size ≤ 9223372036854775807 ∧ (∀ s ∈ c.keys, s.size ≤ 9223372036854775807) ∧ 0 ≤ c.delta ∧ (-9223372036854775808 ≤ c.exp ∧ c.exp ≤ 9223372036854775807)

theorem do_on {w W : World} {m r : Nat} {l : Ents} {laid : Int} (h : Mdl w W m r l laid) (hG : Globs w) (h8 : 8 ≤ w.heap.size) (hok : OkE l) (c : Cmd) (A : Option Addr) (cap : Nat) (now : Int) (failed : Bool) (hK : Strs W A c.keys) (hs : small c)
    {o : DoOut} {err : Int} (ho : doM c now failed l laid = o) (he : errOf c now = err) :
    Calls Tryz.prog 13 #[.pointer (some ⟨m, 0, none⟩), cmdV c A cap, .int .i64 now, .bool failed] W fun e W' =>
      ∃ Ah ch, e = .returned (.tuple #[resV o.code (.slice Ah o.hits.length ch) o.n, .int .i64 err]) ∧ W'.ownsRow W.heap.size 99 4 (.slice Ah o.hits.length ch) o.hits.length (hitsC o.hits) ∧
        Mdl w W' m r o.l o.laid ∧ Chg (fun b => b = m ∨ b = r) W W' := by
  subst ho he
  refine (do_any m c A cap now failed W (hG.below h.below) (Nat.le_trans h8 h.below.size) h.mod hok.1 hok.2 hK hs.1 hs.2.1 hs.2.2.1 hs.2.2.2.1 hs.2.2.2.2).mono ?_
  rintro e W' ⟨hv, rfl, hown, hM, hC⟩
  obtain ⟨Ah, ch, rfl⟩ := own_form hown
  exact ⟨Ah, ch, rfl, hown, h.do_ hC hM, hC⟩
end Go.Proofs.YthcdocedpcjbeaaGreatDoor

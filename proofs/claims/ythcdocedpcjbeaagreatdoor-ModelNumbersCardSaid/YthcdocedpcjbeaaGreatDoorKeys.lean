/-
  The walk of the model's Keys.
-/
import Derived.Test.YthcdocedpcjbeaaGreatDoorW13
import Derived.Test.YthcdocedpcjbeaaGreatDoorIt
import Derived.Sort.KeysCollected
import Derived.Sort.OwnSorted
namespace Go.Proofs.YthcdocedpcjbeaaGreatDoor
open Go.RowKit Go.Sort

/-- the keys of the entries that are not gone, in the entries' order. -/
def keysL (l : Ents) (now : Int) : List (List UInt8) := (l.filter (fun p => !Pl.gone p.2.exp now)).map (fun p => Lib.trimRightB (nm p.1) 0)
def baOf (l : List UInt8) : ByteArray := ⟨l.toArray⟩
/-- .. in the order of texts. -/
def keysM (l : Ents) (now : Int) : List ByteArray := ((keysL l now).mergeSort leB).map baOf
theorem keysM_length (l : Ents) (now : Int) : (keysM l now).length = (keysL l now).length := by simp [keysM]
theorem perm_eraseIdx {α : Type} : ∀ (l : List α) (i : Nat) (x : α), l[i]? = some x → l.Perm (x :: l.eraseIdx i)
  | [], i, x, h => by simp at h
  | y :: r, 0, x, h => by simp at h; subst h; exact List.Perm.refl _
  | y :: r, i + 1, x, h => by
    simp at h
    exact ((perm_eraseIdx r i x h).cons y).trans (List.Perm.swap x y _)
theorem keysL_step {todo : Ents} {i : Nat} {p : ByteArray × Ent} (h : todo[i]? = some p) (now : Int) : (keysL todo now).Perm (if Pl.gone p.2.exp now then keysL (todo.eraseIdx i) now else Lib.trimRightB (nm p.1) 0 :: keysL (todo.eraseIdx i) now) := by
  have h1 := ((perm_eraseIdx todo i p h).filter (fun p => !Pl.gone p.2.exp now)).map (fun p => Lib.trimRightB (nm p.1) 0)
  unfold keysL
  refine h1.trans ?_
  cases hg : Pl.gone p.2.exp now
  · simp [hg]
  · simp [hg]

theorem own_ne_iter {W : World} {base : Nat} {e : TypeId} {size n : Nat} {v : Value} {xs : List Value} (h : W.ownsRow base e size v n xs) {r g : Nat} {todo : List (Value × Value)} (hm : IterAt W r g todo) : v.ownBlock ≠ some g := by
  intro hv
  obtain ⟨_, cur, hh⟩ := own_type h hv
  obtain ⟨_, _, _, _, _, h1, _⟩ := hm
  rw [h1] at hh
  cases hh

/-- where Keys stands ahead of a round. -/
structure KeysInv (w W : World) (r g : Nat) (l todo : Ents) (now : Int) (ss : List (List UInt8)) (v : Value) : Prop where
  below : Below w.heap.size w W
  it : IterAt W r g (todo.map encP)
  own : W.ownsRow w.heap.size 9 1 v ss.length (ss.map encStr)
  perm : (ss ++ keysL todo now).Perm (keysL l now)
  sub : ∀ p ∈ todo, p ∈ l
  gw : w.heap.size ≤ g
theorem KeysInv.step {w W W' : World} {r g : Nat} {l todo : Ents} {now : Int} {ss : List (List UInt8)} {v : Value} (h : KeysInv w W r g l todo now ss v) (hb : Below W.heap.size W W') : KeysInv w W' r g l todo now ss v :=
  ⟨Below.step h.below hb, h.it.below hb, own_below h.own hb, h.perm, h.sub, h.gw⟩
theorem str_info : (Tryz.prog.info? 9).map (fun i => (i.zero, i.size, i.bytes)) = some (some (.string ⟨#[]⟩), 1, 16) := by kernel_rfl

theorem keys_push {w W W8 : World} {r : Nat} {todo : Ents} {ss : List (List UInt8)} {v v8 : Value} {kk : ByteArray} (hb : Below w.heap.size w W) (hit : IterAt W r w.heap.size (todo.map encP))
    (ho : W.ownsRow w.heap.size 9 1 v ss.length (ss.map encStr)) (hr : r < w.heap.size) (hg : W.grownBy W8 v.ownBlock) (ho8 : W8.ownsRow w.heap.size 9 1 v8 (ss.length + 1) (ss.map encStr ++ [.string (trim (nm kk))])) :
    Below w.heap.size w W8 ∧ IterAt W8 r w.heap.size (todo.map encP) ∧ W8.ownsRow w.heap.size 9 1 v8 (ss ++ [Lib.trimRightB (nm kk) 0]).length ((ss ++ [Lib.trimRightB (nm kk) 0]).map encStr) := by
  have hc := Chg.of_grown hg
  refine ⟨(Chg.then_ (S := fun _ => False) (Chg.of_below hb) hc (fun i hi e => ?_)).below, hit.chg hc (fun e => ?_) (fun e => own_ne_iter ho hit e.symm), ?_⟩
  · have := (own_type ho e.symm).1; omega
  · have := (own_type ho e.symm).1; omega
  · have e1 : (ss ++ [Lib.trimRightB (nm kk) 0]).length = ss.length + 1 := by simp
    have e2 : (ss ++ [Lib.trimRightB (nm kk) 0]).map encStr = ss.map encStr ++ [.string (trim (nm kk))] := by simp [encStr, trim]
    rw [e1, e2]
    exact ho8

section
variable {P : Program}
theorem wp_store_new2 {op : Oper} {a : Act} {w : World} {K : Act → World → Prop} {Q : Exit → Act → World → Prop} (ty : TypeId) (x y : Operand) (ho : op.op = .store ty x y)
    (t : TypeId) (c c' : Array Value) (o : Obj) (hx : a.eval x = .pointer (some ⟨w.heap.size, 0, none⟩)) (hy : a.eval y = .agg c')
    (hi : (P.info? t).map (·.size) = some c'.size) (ht : ty = t) (hs : c.size = c'.size) (h1 : c'.all (·.oneCell') = true)
    (h : K (a.put op.dst undef) ((w.alloc (.cells c' t)).alloc o)) : op.wp P a ((w.alloc (.cells c t)).alloc o) K Q := by
  subst ht
  have hb : ((w.alloc (.cells c ty)).alloc o).heap[w.heap.size]? = some (.cells c ty (0, 0)) := (Below.heap_alloc (w.alloc (.cells c ty)) o w.heap.size (by simp)).trans (heap_alloc_last w _)
  have hw : ((w.alloc (.cells c ty)).alloc o).setRow w.heap.size c' = (w.alloc (.cells c' ty)).alloc o := by
    simp only [World.setRow, World.alloc]
    congr 1
    apply Array.ext_getElem?
    intro i
    rw [Array.getElem?_modify]
    simp only [Array.getElem?_push, Array.size_push]
    by_cases h : w.heap.size = i
    · subst h
      simp
    · have h' : ¬ i = w.heap.size := fun e => h e.symm
      simp [h, h']
  unfold Oper.wp execOp
  simp only [ho, hx, hy, Instr.storeAt, Instr.sureAddr, Sem.run_bind, Sem.run_pure, Result.andThen_ok, run_storeVar_row _ _ ty ty c c' hb hi hs h1, hw]
  exact h
theorem wpList_store_new2 {ops : Array Oper} {rest : List Oper} {op : Oper} {a : Act} {w : World} {Q : Exit → Act → World → Prop} (hgd : op.guard = none) (ty : TypeId) (x y : Operand) (ho : op.op = .store ty x y)
    (t : TypeId) (c c' : Array Value) (o : Obj) (hx : a.eval x = .pointer (some ⟨w.heap.size, 0, none⟩)) (hy : a.eval y = .agg c')
    (hi : (P.info? t).map (·.size) = some c'.size) (ht : ty = t) (hs : c.size = c'.size) (h1 : c'.all (·.oneCell') = true)
    (h : wpList P ops Q rest (a.put op.dst undef) ((w.alloc (.cells c' t)).alloc o)) : wpList P ops Q (op :: rest) a ((w.alloc (.cells c t)).alloc o) :=
  wpList_plain hgd fun _ hK => wp_store_new2 ty x y ho t c c' o hx hy hi ht hs h1 (hK _ _ h)
end

set_option maxRecDepth 100000 in
set_option maxHeartbeats 2000000 in
theorem mkeys_any (m r : Nat) (l : Ents) (laid now : Int) (w : World) (hM : ModelAt w m r l laid) (hok : OkL l) (hlen : l.length ≤ 1000000) :
    Calls Tryz.prog 15 #[.pointer (some ⟨m, 0, none⟩), .int .i64 now] w fun e w' =>
      ∃ A cp, e = .returned (.slice A (keysM l now).length cp) ∧ Strs w' A (keysM l now) ∧ Below w.heap.size w w' := by
  have hc0 := hM.c0
  have hlt := hM.blk.lt
  obtain ⟨es, clock, hb, hm, hp, hc⟩ := hM.map
  have hrg := run_range_map (P := Tryz.prog) w 100 111 44 r es clock Tryz.underlying100 hb
  have hst := IterAt.start hb hp hc
  rw [hm] at hst
  have HI0 := hide (⟨Below.al (Below.refl _ _) _, hst, ⟨rfl, .inl ⟨rfl, rfl⟩⟩, List.Perm.refl _, fun p hp => hp, Nat.le_refl _⟩ : KeysInv w (w.alloc (.mapIter (some r) clock #[] clock)) r w.heap.size l l now [] (.slice none 0 0))
  have HOK := hide hok
  have HRW := hide hM.map.lt
  clear hst hb hm hp hc hM hok
  go_enter Tryz.func15, Tryz.ntmps15
  go_upto_region 3 with fail
  obtain ⟨W1, hW1⟩ : ∃ W1, W1 = w.alloc (.mapIter (some r) clock #[] clock) := ⟨_, rfl⟩
  rw [← hW1] at HI0 ⊢
  clear hW1 hrg
  go_loopg [5] l.length (fun n v wr => ∃ (todo : Ents) (ss : List (List UInt8)), n = todo.length ∧ KeysInv w wr r w.heap.size l todo now ss v)
  case atStart => exact ⟨l, [], rfl, HI0.out⟩
  case round =>
    obtain ⟨todo, ss, hn, hI⟩ := hrel
    have HI := hide hI
    obtain ⟨A, cp, rfl⟩ := own_form hI.own
    have hss : ss.length + (keysL todo now).length ≤ 1000000 := by
      have h1 := hI.perm.length_eq
      have h2 : (keysL l now).length ≤ l.length := by unfold keysL; rw [List.length_map]; exact List.length_filter_le _ _
      rw [List.length_append] at h1
      omega
    have HSS := hide hss
    have HN := hide hn
    clear hI hn hss
    go_wp2_with (first
      | (at_next; refine wpList_next_it _ rfl _ rfl r w.heap.size (todo.map encP) rfl HI.out.it ?_ ?_))
    · intro htodo
      have htd : todo = [] := by simpa using htodo
      have hperm := HI.out.perm
      rw [htd, show keysL [] now = [] from rfl, List.append_nil] at hperm
      have hsort : ss.mergeSort leB = (keysL l now).mergeSort leB := mergeSort_of_perm hperm
      have HSO := hide hsort
      have hlen2 := keysM_length l now
      rw [← hperm.length_eq] at hlen2
      have hown := HI.out.own
      clear htd hperm hsort htodo
      rcases hown.2 with ⟨hv, hz⟩ | ⟨g, cap, cur, hv, hbase, hbk, h1, h2, h3, h4⟩
      · have HKM := hide hlen2
        obtain ⟨rfl, hs0, rfl⟩ : A = none ∧ ss.length = 0 ∧ cp = 0 := by simpa using hv
        rw [hs0] at HKM ⊢
        clear hlen2 hown hv hz hs0
        go_wp2_with (go_at_call 49; refine (Tryz.slices_Sort_string_none none 0 _).mono ?_; rintro e w5 ⟨rfl, rfl⟩)
        go_ret
        refine ⟨none, 0, by rw [HKM.out]; rfl, ?_, HI.out.below⟩
        have : keysM l now = [] := List.length_eq_zero_iff.1 HKM.out
        rw [this]
        intro i s hi
        simp at hi
      · obtain ⟨rfl, rfl⟩ : A = some ⟨g, 0, none⟩ ∧ cp = cap := by simpa using hv
        have hH := holds_of_block hbk (by simpa using h4)
        have hgl := (Array.getElem?_eq_some_iff.1 hbk).1
        have HC := hide (Tryz.slices_Sort_string g 0 cp ss wr hH hgl (by have := HSS.out; omega))
        have HBK := hide hbk
        have HKM := hide hlen2
        have HFA := hide (And.intro hbase (And.intro h1 (And.intro h2 h3)))
        clear hlen2 hown hv hH hgl hbase h1 h2 h3 h4 hbk
        go_wp2_with (go_at_call 49; refine HC.out.mono ?_; rintro e w5 ⟨rfl, nn, os, hw5⟩; have HW5 := hide hw5; clear hw5)
        go_ret
        obtain ⟨hbase, h1, h2, h3⟩ := HFA.out
        have hb5 : Below w.heap.size w w5 := by
          rw [HW5.out]
          exact Below.grown HI.out.below (grownBy_sorted _) HI.out.below.size (fun j hj => by cases hj; exact hbase)
        refine ⟨some ⟨g, 0, none⟩, cp, by rw [HKM.out]; rfl, ?_, hb5⟩
        have ho := ownsRow_sorted (ss := ss) (ts := ss.mergeSort leB) (n := nn) (os := os) (by simp) hbase HBK.out h1 h2 h3
        have hw5 := HW5.out
        rw [← hw5] at ho
        intro i s hi
        refine ⟨⟨g, 0, none⟩, rfl, ?_⟩
        have hlt : i < ss.length := by rw [← HKM.out]; exact (List.getElem?_eq_some_iff.1 hi).1
        have hadd : (⟨g, 0, none⟩ : Addr).add i = ⟨g, i, none⟩ := by unfold Addr.add; split <;> simp_all
        rw [hadd, ho.cellAt i (by omega)]
        unfold keysM at hi
        rw [← HSO.out] at hi
        rw [List.getElem?_map] at hi ⊢
        cases hq : (ss.mergeSort leB)[i]? with
        | none => rw [hq] at hi; cases hi
        | some x =>
          rw [hq] at hi
          injection hi with hi
          rw [← hi]
          rfl
    · intro i k v w1 kk ee hp hkv hit hch hsz hen
      obtain ⟨rfl, rfl⟩ : nameV (nm kk) = k ∧ encE ee = v := by simpa [encP] using hkv
      have hpl := HI.out.sub _ (List.mem_of_getElem? hp)
      have hbd := HOK.out _ hpl
      have hbd0 : 0 ≤ ee.exp := hbd.1
      have hbd1 : ee.exp < 4294967296 := hbd.2
      clear hbd
      have hin : i < todo.length := (List.getElem?_eq_some_iff.1 hp).1
      have HINF := hide (info_name (nm kk) (nm_length kk))
      have HIT := hide hit
      have HCH := hide hch
      have HP := hide hp
      have HSZ := hide hsz
      clear hp hkv hit hch hsz hpl
      simp only [encE, nameV] at hen ⊢
      go_upto_region 5 with (refine wpList_store_new2 (w := w1) rfl 111 (.tmp 6) (.tmp 16) rfl 111 _ (bytesV (nm kk)) _ rfl rfl HINF.out rfl (by rw [bytesV_size, nm_length]; rfl) (bytesV_one _) ?_)
      obtain ⟨W5, hW5⟩ : ∃ W5, W5 = (w1.alloc (.cells (bytesV (nm kk)) 111)).alloc (.cells #[.string ee.val, .int .u32 ee.flags, .int .i64 ee.exp, .int .u64 ee.cas] 44) := ⟨_, rfl⟩
      have h1l : w1.heap.size + 1 < W5.heap.size := by rw [hW5]; simp
      have hb15 : Below w1.heap.size w1 W5 := by rw [hW5]; exact Below.al (Below.al (Below.refl _ _) _) _
      have hb6 : Blk W5 w1.heap.size 111 (bytesV (nm kk)) := by rw [hW5]; exact (Blk.new _ _ _).alloc _
      have hb7 : Blk W5 (w1.heap.size + 1) 44 #[.string ee.val, .int .u32 ee.flags, .int .i64 ee.exp, .int .u64 ee.cas] := by
        rw [hW5]
        have := Blk.new (w1.alloc (.cells (bytesV (nm kk)) 111)) 44 #[.string ee.val, .int .u32 ee.flags, .int .i64 ee.exp, .int .u64 ee.cas]
        rwa [show (w1.alloc (.cells (bytesV (nm kk)) 111)).heap.size = w1.heap.size + 1 by simp] at this
      have hI5 : KeysInv w W5 r w.heap.size l (todo.eraseIdx i) now ss (.slice A ss.length cp) ∨ True := .inr trivial
      have hown1 : w1.ownsRow w.heap.size 9 1 (.slice A ss.length cp) ss.length (ss.map encStr) := own_chg HI.out.own HCH.out (fun b hb e => own_ne_iter HI.out.own HI.out.it (by rw [hb, e]))
      have hbel1 : Below w.heap.size w w1 := (Chg.then_ (S := fun _ => False) (Chg.of_below HI.out.below) HCH.out (fun b hb e => by have := HI.out.gw; omega)).below
      have hIT1 := HIT.out
      rw [← ChangeMaps.map_eraseIdx] at hIT1
      have HB5 := hide (Below.step hbel1 hb15)
      have HO5 := hide (own_below hown1 hb15)
      have HIT5 := hide (hIT1.below hb15)
      have HB6 := hide hb6
      have hc7 := hb7.cell
      have hST := keysL_step HP.out now
      have HST := hide hST
      rw [← hW5]
      clear hW5 hb15 hb6 hb7 hI5 hown1 hbel1 hIT1 hST hen
      obtain ⟨gg, hgg⟩ : ∃ gg, Pl.gone ee.exp now = gg := ⟨_, rfl⟩
      have HGG := hide hgg
      clear hgg
      cases gg
      · obtain ⟨i0, hi0, hz0, hz1, hz2⟩ := info_parts str_info
        have HZ := hide hi0
        clear hi0
        have hl1 : ss.length ≤ 1000000 := by have := HSS.out; omega
        go_wp2_with (first
          | (go_at_call 47; refine (gone_any _ _ _ hbd0 hbd1).mono ?_; rw [HGG.out]; rintro e w6 ⟨rfl, rfl⟩)
          | (refine wpList_load_row rfl 111 (.tmp 6) rfl w1.heap.size rfl 111 (bytesV (nm kk)) (0, 0) _ HB6.out Tryz.underlying111 rfl HINF.out ?_)
          | (go_at_call 48; refine (key_any (nm kk) (nm_length kk) _).mono ?_; rintro e w7 ⟨rfl, hb7⟩; have HB7 := hide hb7; clear hb7)
          | (at_builtin; go_must (refine wpList_append_own _ rfl (.tmp 24) (.tmp 27) 28 rfl w.heap.size 9 i0 _ 1 16 Tryz.underlying28 HZ.out hz0 hz1 hz2 rfl (by decide) _ _ _ rfl (own_below (own_below HO5.out HB7.out) (Below.al (Below.refl _ _) _)) ⟨_, 0, none⟩ 1 1 [.string (trim (nm kk))] rfl rfl ?c1 ?c2 ?c3 ?c4 ?c5 ?_)))

        case c1 => exact cell_one_new _ _ _
        case c2 => intro u hu; simp at hu; subst hu; rfl
        case c3 => unfold maxLen; omega
        case c4 => omega
        case c5 => have h1 := HB5.out.size; have h2 := HB7.out.size; simp; omega
        intro v8 w8 ho8 hg8 _
        obtain ⟨A8, c8, rfl⟩ := own_form ho8
        have HPU := hide (keys_push (Below.al (Below.step HB5.out HB7.out) _) ((HIT5.out.below HB7.out).below (Below.al (Below.refl _ _) _)) (own_below (own_below HO5.out HB7.out) (Below.al (Below.refl _ _) _)) HRW.out hg8 ho8)
        clear ho8 hg8
        go_wp2
        go_roundg (gk - 1)
        case measure => have := HN.out; omega
        case rel =>
          have hp2 := HST.out
          simp only [HGG.out, if_false, Bool.false_eq_true] at hp2
          obtain ⟨p1, p2, p3⟩ := HPU.out
          have e1 : ss.length + 1 = (ss ++ [Lib.trimRightB (nm kk) 0]).length := by simp
          rw [e1] at p3
          refine ⟨todo.eraseIdx i, ss ++ [Lib.trimRightB (nm kk) 0], ?_, p1, p2, by rw [e1]; exact p3, ?_, ?_, Nat.le_refl _⟩
          · have := HN.out
            rw [List.length_eraseIdx, if_pos hin]; omega
          · rw [List.append_assoc]
            exact (hp2.symm.append_left ss).trans HI.out.perm
          · exact fun p hp => HI.out.sub p ((List.eraseIdx_sublist _ _).subset hp)
      · go_wp2_with (go_at_call 47; refine (gone_any _ _ _ hbd0 hbd1).mono ?_; rw [HGG.out]; rintro e w6 ⟨rfl, rfl⟩)
        go_roundg (gk - 1)
        case measure => have := HN.out; omega
        case rel =>
          have hp2 := HST.out
          simp only [HGG.out, if_true] at hp2
          refine ⟨todo.eraseIdx i, ss, ?_, HB5.out, HIT5.out, HO5.out, ?_, ?_, Nat.le_refl _⟩
          · have := HN.out
            rw [List.length_eraseIdx, if_pos hin]; omega
          · exact (hp2.symm.append_left ss).trans HI.out.perm
          · exact fun p hp => HI.out.sub p ((List.eraseIdx_sublist _ _).subset hp)
end Go.Proofs.YthcdocedpcjbeaaGreatDoor
